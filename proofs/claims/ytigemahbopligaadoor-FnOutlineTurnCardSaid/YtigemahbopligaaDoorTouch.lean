/- How many points of an outline were there already: what the reference's function returns. -/
import Derived.Test.YtigemahbopligaaDoorEnds
import Derived.Test.YtigemahbopligaaDoorTouchPure
import Derived.Deep.LoopGhost
namespace Go.Proofs.YtigemahbopligaaDoor
open Go.RowKit
set_option maxRecDepth 100000 in
set_option maxHeartbeats 1000000 in
theorem specOutlineTouches_any (A : Option Addr) (n c lo : Nat) (o : List (Int × Int)) (w : World) (hx : Rd strokeS lo w.heap.size w A n o) :
    Calls Tryd.prog 16 #[.slice A n c] w fun e w' => e = .returned (.int .i64 (touOf o)) ∧ Below w.heap.size w w' := by
  have HX := hid hx
  have hno := hid hx.1
  have HV := hid (specOutlineValid_any A n c lo o w hx)
  clear hx
  by_cases hok : outOk o = true
  case neg =>
    have hok' : outOk o = false := by simpa using hok
    have HH := hid (show touOf o = -1 by simp [touOf, hok'])
    clear hok
    go_enter Tryd.func16, Tryd.ntmps16
    go_wp2_with fail
    refine HV.out.mono ?_
    rintro e w1 ⟨rfl, hb1⟩
    rw [hok']
    go_wp2
    go_ret
    exact ⟨ret_int HH.out.symm, hb1⟩
  case pos =>
    obtain ⟨hl, h8⟩ := outOk_yes hok
    have HK := linked_ok hl
    have hm := ptsO_length HK
    have hm25 : (ptsO o).length ≤ 25 := by omega
    have HH := hid (show touOf o = touL [] (ptsO o) by simp [touOf, hok])
    have HKK := hid HK
    clear hl HK hm
    go_enter Tryd.func16, Tryd.ntmps16
    go_wp2_with fail
    refine HV.out.mono ?_
    rintro e w1 ⟨rfl, hb1⟩
    rw [hok]
    clear hok
    go_wp2_with fail
    refine (l1Points_any A n c lo o w1 (HX.out.bl hb1) HKK.out (by rw [hno.out]; exact h8)).mono ?_
    rintro e w2 ⟨B, b, C, d, rfl, hX, hY, hb2⟩
    have RX := hid (hX.rd (by rw [List.length_map]; omega)).2
    have RY := hid (hY.rd (by rw [List.length_map]; omega)).2
    have HB12 := hid (btr hb1 hb2)
    clear hX hY hb1 hb2
    have hL : (ptsO o).length = (ptsO o).length := rfl
    generalize ptsO o = l at *
    clear hL
    go_wp2
    go_loopg [5, 6] l.length (fun gk n i wr => ∃ (k : Nat) (z : Int), k + gk = l.length ∧ i = .int .i64 k ∧ n = .int .i64 z ∧ 0 ≤ z ∧ z ≤ k ∧ touL [] l = z + touL (l.take k) (l.drop k) ∧ Below w2.heap.size w2 wr)
    case atStart => exact ⟨0, 0, Nat.zero_add _, rfl, rfl, by omega, by omega, by simp, Below.refl _ _⟩
    case round =>
      obtain ⟨k, z, hkg, rfl, rfl, hz0, hz1, hr, hbr⟩ := hrel
      have hk : k ≤ l.length := by omega
      obtain ⟨go, hgo⟩ : ∃ go, go = gk := ⟨_, rfl⟩
      subst hgo
      have HKG := hid hkg
      have HR := hid hr
      clear hkg hr
      by_cases hlt : k < l.length
      case neg =>
        obtain rfl : k = l.length := by omega
        have HF := hid (show touOf o = z by rw [HH.out, HR.out, List.drop_length]; simp [touL])
        go_wp2
        go_ret
        exact ⟨ret_int HF.out.symm, HB12.out.trans (hbr.mono HB12.out.size)⟩
      case pos =>
        have hki : (k : Int) < (l.length : Int) := by omega
        have hd := hid (drop_gt hlt)
        have ht := hid (take_gt hlt)
        have rX := RX.out.2.2
        have rY := RY.out.2.2
        obtain ⟨bx, ox, rfl, _, hbx, cX⟩ := rX (by omega)
        obtain ⟨bY, oy, rfl, _, hby, cY⟩ := rY (by omega)
        have CX := hid fun (j : Nat) (hj : j < l.length) (w' : World) (hb : Below w2.heap.size w2 w') => (bcl hb (cX.int hj)).trans (congrArg (fun z => some (Value.int .i64 z)) (gt_map (f := fun p : Int × Int => p.1) hj))
        have CY := hid fun (j : Nat) (hj : j < l.length) (w' : World) (hb : Below w2.heap.size w2 w') => (bcl hb (cY.int hj)).trans (congrArg (fun z => some (Value.int .i64 z)) (gt_map (f := fun p : Int × Int => p.2) hj))
        clear rX rY cX cY hbx hby
        go_wp2
        go_loopg [5, 7] k (fun gj n j wj => ∃ (m : Nat), m + gj = k ∧ j = .int .i64 m ∧ n = .int .i64 z ∧ hasP (l.take k) (gt l k) = hasP ((l.take k).drop m) (gt l k) ∧ Below w2.heap.size w2 wj)
        case atStart => exact ⟨0, Nat.zero_add _, rfl, rfl, by simp, hbr⟩
        case round =>
          obtain ⟨m, hmg, rfl, rfl, hh, hbj⟩ := hrel
          have hmk : m ≤ k := by omega
          have HMG := hid hmg
          have HHH := hid hh
          clear hmg hh
          by_cases hmlt : m < k
          case neg =>
            obtain rfl : m = k := by omega
            have HF := hid (show touL [] l = z + touL (l.take (m + 1)) (l.drop (m + 1)) by
              rw [HR.out, hd.out, touL, ht.out, HHH.out, List.drop_eq_nil_of_le (List.length_take_le _ _)]
              simp [hasP, bitI])
            go_wp2
            go_roundg (go - 1)
            case measure => have := HKG.out; omega
            case rel => exact ⟨m + 1, z, by have := HKG.out; omega, by go_num, rfl, hz0, by omega, HF.out, hbj⟩
          case pos =>
            have hmi : (m : Int) < (k : Int) := by omega
            have hstep := hid (hasP_take hmlt hk (gt l k))
            have cx := CX.out k hlt _ hbj
            have cy := CY.out k hlt _ hbj
            have dx := CX.out m (by omega) _ hbj
            have dy := CY.out m (by omega) _ hbj
            have hkl : (k : Int) < (l.length : Int) := by omega
            have hml : (m : Int) < (l.length : Int) := by omega
            have hst : hasP ((l.take k).drop m) (gt l k) = ((gt l m).1 == (gt l k).1 && (gt l m).2 == (gt l k).2 || hasP ((l.take k).drop (m + 1)) (gt l k)) := hstep.out.trans (by rw [eqD_pair]; rfl)
            have HST := hid hst
            clear hst hstep
            obtain ⟨x, hx⟩ : ∃ x, (gt l k).1 = x := ⟨_, rfl⟩
            obtain ⟨y, hy⟩ : ∃ x, (gt l k).2 = x := ⟨_, rfl⟩
            obtain ⟨x', hx'⟩ : ∃ x, (gt l m).1 = x := ⟨_, rfl⟩
            obtain ⟨y', hy'⟩ : ∃ x, (gt l m).2 = x := ⟨_, rfl⟩
            rw [hx] at cx
            rw [hy] at cy
            rw [hx'] at dx
            rw [hy'] at dy
            have HXY := hid (And.intro hx (And.intro hy (And.intro hx' hy')))
            clear hx hy hx' hy'
            by_cases e1 : x = x'
            case neg =>
              have h1 : (x == x') = false := by simpa using e1
              have HF := hid (show hasP (l.take k) (gt l k) = hasP ((l.take k).drop (m + 1)) (gt l k) by
                rw [HHH.out, HST.out, HXY.out.1, HXY.out.2.2.1]
                simp [Ne.symm e1])
              clear e1
              go_wp2_with fail
              go_quiet (fail)
              go_wp2
              go_roundg (gk - 1)
              case measure => have := HMG.out; omega
              case rel => exact ⟨m + 1, by have := HMG.out; omega, by go_num, rfl, HF.out, below_drewN hbj _⟩
            case pos =>
              subst e1
              have h1 : (x == x) = true := by simp
              by_cases e2 : y = y'
              case neg =>
                have h2 : (y == y') = false := by simpa using e2
                have HF := hid (show hasP (l.take k) (gt l k) = hasP ((l.take k).drop (m + 1)) (gt l k) by
                  rw [HHH.out, HST.out, HXY.out.2.1, HXY.out.2.2.2]
                  simp [Ne.symm e2])
                clear e2
                go_wp2_with fail
                go_quiet (fail)
                go_wp2
                go_roundg (gk - 1)
                case measure => have := HMG.out; omega
                case rel => exact ⟨m + 1, by have := HMG.out; omega, by go_num, rfl, HF.out, below_drewN hbj _⟩
              case pos =>
                subst e2
                have h2 : (y == y) = true := by simp
                have HF := hid (show touL [] l = z + 1 + touL (l.take (k + 1)) (l.drop (k + 1)) by
                  rw [HR.out, hd.out, touL, ht.out, HHH.out, HST.out, HXY.out.1, HXY.out.2.2.1, HXY.out.2.1, HXY.out.2.2.2]
                  simp [bitI]
                  omega)
                go_wp2_with fail
                go_quiet (fail)
                go_wp2
                go_roundg (go - 1)
                case measure => have := HKG.out; omega
                case rel => exact ⟨k + 1, z + 1, by have := HKG.out; omega, by go_num, rfl, by omega, by omega, HF.out, below_drewN hbj _⟩
end Go.Proofs.YtigemahbopligaaDoor
