/- The last point of an outline: what the program's and the reference's functions return. -/
import Derived.Test.YtigemahbopligaaDoorPoints
import Derived.Test.YtigemahbopligaaDoorOutline
import Derived.IntWalk
namespace Go.Proofs.YtigemahbopligaaDoor
open Go.RowKit
/-- The end of an outline. -/
def endX (o : List (Int × Int)) : Int := if outOk o then (lastP (ptsO o)).1 else 0
def endY (o : List (Int × Int)) : Int := if outOk o then (lastP (ptsO o)).2 else 0
theorem ret_iib {a b c d : Int} {p q : Bool} (h : a = b) (k : c = d) (m : p = q) : Ending.returned (.tuple #[.int .i64 a, .int .i64 c, .bool p]) = .returned (.tuple #[.int .i64 b, .int .i64 d, .bool q]) := by rw [h, k, m]
theorem tab_x (d : Nat) (h : d < 8) : (#[Value.int .i64 1, .int .i64 1, .int .i64 0, .int .i64 (-1), .int .i64 (-1), .int .i64 (-1), .int .i64 0, .int .i64 1] : Array Value)[d]? = some (.int .i64 (stepX d)) := by
  match d, h with
  | 0, _ => rfl
  | 1, _ => rfl
  | 2, _ => rfl
  | 3, _ => rfl
  | 4, _ => rfl
  | 5, _ => rfl
  | 6, _ => rfl
  | 7, _ => rfl
theorem tab_y (d : Nat) (h : d < 8) : (#[Value.int .i64 0, .int .i64 1, .int .i64 1, .int .i64 1, .int .i64 0, .int .i64 (-1), .int .i64 (-1), .int .i64 (-1)] : Array Value)[d]? = some (.int .i64 (stepY d)) := by
  match d, h with
  | 0, _ => rfl
  | 1, _ => rfl
  | 2, _ => rfl
  | 3, _ => rfl
  | 4, _ => rfl
  | 5, _ => rfl
  | 6, _ => rfl
  | 7, _ => rfl
set_option maxRecDepth 100000 in
set_option maxHeartbeats 1000000 in
theorem implOutlineEnd_any (A : Option Addr) (n c lo : Nat) (o : List (Int × Int)) (w : World) (hx : Rd strokeS lo w.heap.size w A n o) (hT : Tabs w) :
    Calls Tryd.prog 24 #[.slice A n c] w fun e w' => e = .returned (.tuple #[.int .i64 (endX o), .int .i64 (endY o), .bool (outOk o)]) ∧ Below w.heap.size w w' := by
  have HV := hid (chainOf_any A n c lo o w hx)
  clear hx
  by_cases hok : outOk o = true
  case neg =>
    have hok' : outOk o = false := by simpa using hok
    have HH := hid (show endX o = 0 ∧ endY o = 0 by simp [endX, endY, hok'])
    clear hok
    go_enter Tryd.func24, Tryd.ntmps24
    go_wp2_with fail
    refine HV.out.mono ?_
    rintro e w1 ⟨p, rfl, hb1, _⟩
    go_wp2
    go_ret3
    exact ⟨ret_iib HH.out.1.symm HH.out.2.symm hok'.symm, hb1⟩
  case pos =>
    obtain ⟨hl, h8⟩ := outOk_yes hok
    have HK := linked_ok hl
    have HP := hid (ptsO_pens HK)
    obtain ⟨m, hm⟩ : ∃ m, (ptsO o).length = m + 1 := ⟨(ptsO o).length - 1, by have := ptsO_length HK; omega⟩
    have hm25 : m ≤ 24 := by have := ptsO_length HK; omega
    have HM := hid hm
    have HH := hid (show endX o = (gt (ptsO o) m).1 ∧ endY o = (gt (ptsO o) m).2 by simp [endX, endY, hok, lastP, hm])
    have HB := hid (show ∀ x ∈ o.map penN, 0 ≤ x ∧ x ≤ 23 from fun x hx => by
      obtain ⟨y, hy, rfl⟩ := List.mem_map.1 hx
      exact penN_bd (HK y hy))
    have HT := hid hT
    clear hl HK hT hm
    go_enter Tryd.func24, Tryd.ntmps24
    go_wp2_with fail
    refine HV.out.mono ?_
    rintro e w1 ⟨p, rfl, hb1, hC⟩
    have hC1 := hid (hC hok)
    clear hC
    have HOK := hid hok
    go_wp2_with fail
    refine (points_any p _ _ _ _ hC1.out (Nat.le_refl _) HB.out (by rw [List.length_map]; exact h8) (HT.out.bl hb1)).mono ?_
    rintro e w2 ⟨A2, c2, rfl, hO, hb2⟩
    rw [HP.out, HM.out] at hO
    rw [HP.out, HM.out]
    have hr := (hO.rd (by rw [HM.out]; omega)).2.2.2
    obtain ⟨b, off, rfl, _, hbb, hcx⟩ := hr (by omega)
    have cx := (hcx.stroke (k := m) (by omega)).1
    have cy := (hcx.stroke (k := m) (by omega)).2
    have HB12 := hid (btr hb1 hb2)
    clear hr hcx hO hb1 hb2 hok
    go_wp2_with fail
    have HB3 := hid (bal HB12.out (.cells #[.int .i64 (gt (ptsO o) m).1, .int .i64 (gt (ptsO o) m).2] 53))
    have k1 : (w2.alloc (.cells #[.int .i64 (gt (ptsO o) m).1, .int .i64 (gt (ptsO o) m).2] 53)).cell? ⟨w2.heap.size, 0, none⟩ = _ := cell_new _ _ _ 0
    have k2 : (w2.alloc (.cells #[.int .i64 (gt (ptsO o) m).1, .int .i64 (gt (ptsO o) m).2] 53)).cell? ⟨w2.heap.size, 1, none⟩ = _ := cell_new _ _ _ 1
    simp only [List.getElem?_toArray, List.getElem?_cons_zero, List.getElem?_cons_succ] at k1 k2
    generalize w2.alloc (.cells #[.int .i64 (gt (ptsO o) m).1, .int .i64 (gt (ptsO o) m).2] 53) = w3 at *
    go_still (by kernel_rfl)
    go_wp2
    go_ret3
    exact ⟨ret_iib HH.out.1.symm HH.out.2.symm HOK.out.symm, HB3.out.drew⟩
set_option maxRecDepth 100000 in
set_option maxHeartbeats 1000000 in
theorem l1Step_any (d : Nat) (h : d < 8) (w : World) :
    Calls Tryd.prog 55 #[.int .i64 (d : Int)] w fun e w' => e = .returned (.tuple #[.int .i64 (stepX d), .int .i64 (stepY d)]) ∧ Below w.heap.size w w' := by
  have hi : (d : Int) < 8 := by omega
  go_enter Tryd.func55, Tryd.ntmps55
  go_wp2_with fail
  have HB := hid (bal (bnew w (.cells #[.int .i64 1, .int .i64 1, .int .i64 0, .int .i64 (-1), .int .i64 (-1), .int .i64 (-1), .int .i64 0, .int .i64 1] 3)) (.cells #[.int .i64 0, .int .i64 1, .int .i64 1, .int .i64 1, .int .i64 0, .int .i64 (-1), .int .i64 (-1), .int .i64 (-1)] 3))
  have kx := (World.cell?_alloc_lt _ (.cells #[.int .i64 0, .int .i64 1, .int .i64 1, .int .i64 1, .int .i64 0, .int .i64 (-1), .int .i64 (-1), .int .i64 (-1)] 3) ⟨w.heap.size, d, none⟩ (by simp)).trans ((cell_new w #[.int .i64 1, .int .i64 1, .int .i64 0, .int .i64 (-1), .int .i64 (-1), .int .i64 (-1), .int .i64 0, .int .i64 1] 3 d).trans (tab_x d h))
  have ky := (cell_new (w.alloc (.cells #[.int .i64 1, .int .i64 1, .int .i64 0, .int .i64 (-1), .int .i64 (-1), .int .i64 (-1), .int .i64 0, .int .i64 1] 3)) #[.int .i64 0, .int .i64 1, .int .i64 1, .int .i64 1, .int .i64 0, .int .i64 (-1), .int .i64 (-1), .int .i64 (-1)] 3 d).trans (tab_y d h)
  have hsz : ∀ o : Obj, (w.alloc o).heap.size = w.heap.size + 1 := fun o => by simp
  rw [hsz] at ky
  clear hsz
  generalize (w.alloc (.cells #[.int .i64 1, .int .i64 1, .int .i64 0, .int .i64 (-1), .int .i64 (-1), .int .i64 (-1), .int .i64 0, .int .i64 1] 3)).alloc (.cells #[.int .i64 0, .int .i64 1, .int .i64 1, .int .i64 1, .int .i64 0, .int .i64 (-1), .int .i64 (-1), .int .i64 (-1)] 3) = w1 at *
  go_still (by kernel_rfl)
  go_wp2
  go_ret2
  exact ⟨rfl, HB.out.drew⟩
set_option maxRecDepth 100000 in
set_option maxHeartbeats 2000000 in
theorem l1Points_any (A : Option Addr) (n c lo : Nat) (o : List (Int × Int)) (w : World) (hx : Rd strokeS lo w.heap.size w A n o) (hok : ∀ p ∈ o, strokeOk p = true) (h8 : n ≤ 8) :
    Calls Tryd.prog 36 #[.slice A n c] w fun e w' => ∃ B b C d, e = .returned (.tuple #[.slice B (ptsO o).length b, .slice C (ptsO o).length d]) ∧ OwnR intS w.heap.size w' 3 (.slice B (ptsO o).length b) ((ptsO o).map (·.1)) ∧ OwnR intS w.heap.size w' 3 (.slice C (ptsO o).length d) ((ptsO o).map (·.2)) ∧ Below w.heap.size w w' := by
  obtain ⟨i0, hi1, hz0, hz1, hz2⟩ := info_parts (show (Tryd.prog.info? 3).map (fun i => (i.zero, i.size, i.bytes)) = some (some (.int .i64 0), 1, 8) by kernel_rfl)
  have HI := hid (And.intro hi1 (And.intro hz0 (And.intro hz1 hz2)))
  clear hi1 hz0 hz1 hz2
  obtain ⟨e1, e2, e3⟩ := hx
  have E1 := hid e1; clear e1
  have E3 := hid e3; clear e3
  have HK := hid hok; clear hok
  go_enter Tryd.func36, Tryd.ntmps36
  go_wp2
  go_loopw [4, 5, 6, 7, 8] (fun xs ys x y i wr => ∃ (k : Nat) (px py : Int) (mx my : List Int) (B C : Option Addr) (b d : Nat), k ≤ n ∧ i = .int .i64 k ∧ x = .int .i64 px ∧ y = .int .i64 py ∧ xs = .slice B mx.length b ∧ ys = .slice C my.length d ∧ OwnR intS w.heap.size wr 3 (.slice B mx.length b) mx ∧ OwnR intS w.heap.size wr 3 (.slice C my.length d) my ∧ (∀ q, (Value.slice B mx.length b).ownBlock = some q → (Value.slice C my.length d).ownBlock ≠ some q) ∧ Below w.heap.size w wr ∧ mx.length ≤ 3 * k + 1 ∧ my.length = mx.length ∧ (-(mx.length : Int) ≤ px ∧ px ≤ mx.length) ∧ (-(mx.length : Int) ≤ py ∧ py ≤ mx.length) ∧ (ptsO o).map (·.1) = mx ++ (way px py (dirsO (o.drop k))).map (·.1) ∧ (ptsO o).map (·.2) = my ++ (way px py (dirsO (o.drop k))).map (·.2)) (fun _ _ _ _ i _ => n - (intOf i).toNat)
  case atStart =>
    refine ⟨0, 0, 0, [0], [0], _, _, _, _, Nat.zero_le _, rfl, rfl, rfl, rfl, rfl, (OwnR.one (S := intS) (Nat.le_refl _) #[.int .i64 0] rfl intS_flat rfl).al _, ?_, ?_, bal (bnew _ _) _, by simp, rfl, by simp, by simp, rfl, rfl⟩
    · have := OwnR.one (S := intS) (base := w.heap.size) (w := w.alloc (.cells #[.int .i64 0] 3)) (e := 3) (by simp) #[.int .i64 0] rfl (y := 0) intS_flat rfl
      simpa using this
    · simp [Value.ownBlock]
  case round =>
    obtain ⟨k, px, py, mx, my, B, C, b, d, hk, rfl, rfl, rfl, rfl, rfl, hX, hY, hdj, hb, hlen, hlen2, hpx, hpy, hex, hey⟩ := hrel
    have HX := hid hX
    have HY := hid hY
    have HD := hid hdj
    have HEX := hid hex
    have HEY := hid hey
    have HL2 := hid hlen2
    clear hX hY hdj hex hey
    by_cases hlt : k < n
    case neg =>
      obtain rfl : k = n := by omega
      have hnil : o.drop k = [] := List.drop_eq_nil_of_le (by rw [E1.out]; omega)
      have q1 : (ptsO o).map (·.1) = mx := by rw [HEX.out, hnil]; simp [dirsO, way]
      have q2 : (ptsO o).map (·.2) = my := by rw [HEY.out, hnil]; simp [dirsO, way]
      have Q := hid (And.intro q1 q2)
      have q3 : mx.length = (ptsO o).length := by rw [← q1]; simp
      have Q3 := hid q3
      have Q4 := hid (hlen2.trans q3)
      clear q1 q2 q3 hlen2 hnil
      go_wp2
      go_ret2
      refine ⟨B, b, C, d, by rw [Q3.out, Q4.out]; rfl, ?_, ?_, hb⟩
      · rw [← Q3.out, Q.out.1]; exact HX.out
      · rw [← Q4.out, Q.out.2]; exact HY.out
    case pos =>
      obtain ⟨bo, off, rfl, _, hbb, hcx⟩ := E3.out (by omega)
      have cx := bcl hb (hcx.stroke hlt).1
      have cy := fun w' (h : Below w.heap.size w w') => bcl h (hcx.stroke hlt).2
      have CY := hid cy
      clear hcx cy
      have ht := hid (drop_gt (l := o) (by rw [← E1.out]; exact hlt))
      obtain ⟨q1, q2, q3, q4⟩ := strokeOk_yes.1 (HK.out _ (gt_mem (l := o) (by rw [← E1.out]; exact hlt)))
      obtain ⟨dd, hdd⟩ : ∃ dd : Nat, (gt o k).1 = (dd : Int) := ⟨(gt o k).1.toNat, by omega⟩
      have hd8 : dd < 8 := by omega
      obtain ⟨s1, s2, s3, s4⟩ := step_bd (d := (dd : Int)) (by omega) (by omega)
      rw [hdd] at cx
      have HDD := hid hdd
      clear hdd q1 q2 hlen2
      go_wp2_with fail
      refine (l1Step_any dd hd8 _).mono ?_
      rintro e w1 ⟨rfl, hb1⟩
      have HX1 := hid (HX.out.bl hb1)
      have HY1 := hid (HY.out.bl hb1)
      have hbw := btr hb hb1
      clear HX HY cx hb1 hb
      have hnx := HDD.out
      go_wp2
      clear hnx
      go_loopw [4, 5, 6, 7, 11] (fun xs ys x y i wr => ∃ (j : Nat) (px py : Int) (mx my : List Int) (B C : Option Addr) (b d : Nat), (j : Int) ≤ (gt o k).2 ∧ i = .int .i64 j ∧ x = .int .i64 px ∧ y = .int .i64 py ∧ xs = .slice B mx.length b ∧ ys = .slice C my.length d ∧ OwnR intS w.heap.size wr 3 (.slice B mx.length b) mx ∧ OwnR intS w.heap.size wr 3 (.slice C my.length d) my ∧ (∀ q, (Value.slice B mx.length b).ownBlock = some q → (Value.slice C my.length d).ownBlock ≠ some q) ∧ Below w.heap.size w wr ∧ mx.length ≤ 3 * k + 1 + j ∧ my.length = mx.length ∧ (-(mx.length : Int) ≤ px ∧ px ≤ mx.length) ∧ (-(mx.length : Int) ≤ py ∧ py ≤ mx.length) ∧ (ptsO o).map (·.1) = mx ++ (way px py (List.replicate ((gt o k).2.toNat - j) (gt o k).1 ++ dirsO (o.drop (k + 1)))).map (·.1) ∧ (ptsO o).map (·.2) = my ++ (way px py (List.replicate ((gt o k).2.toNat - j) (gt o k).1 ++ dirsO (o.drop (k + 1)))).map (·.2)) (fun _ _ _ _ i _ => 3 - (intOf i).toNat)
      case atStart => exact ⟨0, px, py, mx, my, B, C, b, d, by omega, rfl, rfl, rfl, rfl, rfl, HX1.out, HY1.out, HD.out, hbw, by omega, HL2.out, hpx, hpy, by rw [HEX.out, ht.out]; rfl, by rw [HEY.out, ht.out]; rfl⟩
      case round =>
        clear HEX HEY HX1 HY1 HL2 hlen hpx hpy hbw HD
        obtain ⟨j, px, py, mx, my, B, C, b, d, hj, rfl, rfl, rfl, rfl, rfl, hX, hY, hdj, hb, hlen, hlen2, hpx, hpy, hex, hey⟩ := hrel
        have HX := hid hX
        have HY := hid hY
        have HD := hid hdj
        have HEX := hid hex
        have HEY := hid hey
        have HL2 := hid hlen2
        have hml : my.length ≤ 25 := by omega
        clear hX hY hdj hex hey hlen2
        have cy := CY.out _ hb
        have hki : (k : Int) < (n : Int) := by omega
        by_cases hlj : (j : Int) < (gt o k).2
        case neg =>
          have HJ := hid (show (gt o k).2.toNat - j = 0 by omega)
          go_wp2
          refine ⟨⟨k + 1, px, py, mx, my, B, C, b, d, by omega, by go_num, rfl, rfl, rfl, rfl, HX.out, HY.out, HD.out, hb, by omega, HL2.out, hpx, hpy, by rw [HEX.out, HJ.out]; rfl, by rw [HEY.out, HJ.out]; rfl⟩, ?_⟩
          simp [intOf]; omega
        case pos =>
          have HJ := hid (show (gt o k).2.toNat - j = ((gt o k).2.toNat - (j + 1)) + 1 by omega)
          have b0 := hid (bnew wr (.cells #[.int .i64 (px + stepX dd)] 3))
          go_wp2_with (at_builtin; (first
            | (refine wpList_append_R2 rfl (.tmp 44) (.tmp 46) _ rfl intS Tryd.underlying41 HI.out rfl (by decide) rfl (HX.out.al _) (y := px + stepX dd) rfl (heap_alloc_new _ _) rfl (by simp [Value.oneCell']) rfl (by omega) (by omega) (Nat.le_trans hb.size (by simp)) ?_; intro A4 c4 w4 hO4 hb4 ho4)
            | (refine wpList_append_R2 rfl (.tmp 48) (.tmp 50) _ rfl intS Tryd.underlying41 HI.out rfl (by decide) rfl (((HY.out.al _).flat intS_flat hb4 (fun k h1 h2 => HD.out k h2 h1)).al _) (y := py + stepY dd) rfl (heap_alloc_new _ _) rfl (by simp [Value.oneCell']) rfl (by omega) (by omega) (Nat.le_trans hb.size (by have := hb4.size; simp at *; omega)) ?_; intro A5 c5 w5 hO5 hb5 ho5)))
          have hb4' : Chg (fun k => (Value.slice B mx.length b).ownBlock = some k) (wr.alloc (.cells #[.int .i64 (px + stepX dd)] 3)) w4 := hb4
          have hb5' : Chg (fun k => (Value.slice C my.length d).ownBlock = some k) (w4.alloc (.cells #[.int .i64 (py + stepY dd)] 3)) w5 := hb5
          have ho4' : (Value.slice A4 (mx.length + 1) c4).ownBlock = (Value.slice B mx.length b).ownBlock ∨ (Value.slice A4 (mx.length + 1) c4).ownBlock = some (wr.alloc (.cells #[.int .i64 (px + stepX dd)] 3)).heap.size := ho4
          have ho5' : (Value.slice A5 (my.length + 1) c5).ownBlock = (Value.slice C my.length d).ownBlock ∨ (Value.slice A5 (my.length + 1) c5).ownBlock = some (w4.alloc (.cells #[.int .i64 (py + stepY dd)] 3)).heap.size := ho5
          clear hb4 hb5 ho4 ho5
          have hz4 := hb4'.size
          have hz : (wr.alloc (.cells #[.int .i64 (px + stepX dd)] 3)).heap.size = wr.heap.size + 1 := by simp
          have hz' : (w4.alloc (.cells #[.int .i64 (py + stepY dd)] 3)).heap.size = w4.heap.size + 1 := by simp
          have hxy : ∀ q, (Value.slice A4 (mx.length + 1) c4).ownBlock = some q → ¬ (Value.slice C my.length d).ownBlock = some q := fun q h1 h2 => by
            rcases ho4' with h | h
            · exact HD.out q (h ▸ h1) h2
            · rw [h] at h1
              injection h1 with h1
              have := HY.out.lt' q h2
              omega
          have X5 := (hO4.al (.cells #[.int .i64 (py + stepY dd)] 3)).flat intS_flat hb5' hxy
          have B4 := (bal hb (.cells #[.int .i64 (px + stepX dd)] 3)).trans (hb4'.below (B := w.heap.size) (by have := hb.size; omega) fun q hq => (HX.out.own_lt hq).1)
          have B5 := (bal B4 (.cells #[.int .i64 (py + stepY dd)] 3)).trans (hb5'.below (B := w.heap.size) (by have := hb.size; omega) fun q hq => (HY.out.own_lt hq).1)
          have l1 : (mx ++ [px + stepX dd]).length = mx.length + 1 := by simp
          have l2 : (my ++ [py + stepY dd]).length = my.length + 1 := by simp
          refine ⟨⟨j + 1, px + stepX dd, py + stepY dd, mx ++ [px + stepX dd], my ++ [py + stepY dd], A4, A5, c4, c5, by omega, by go_num, rfl, rfl, by rw [l1], by rw [l2], by rw [l1]; exact X5, by rw [l2]; exact hO5, ?_, B5, by rw [l1]; omega, by rw [l1, l2, HL2.out], by rw [l1]; omega, by rw [l1]; omega, ?_, ?_⟩, ?_⟩
          · rw [l1, l2]
            intro q h1 h2
            rcases ho5' with h | h
            · exact hxy q h1 (h ▸ h2)
            · rw [h] at h2
              injection h2 with h2
              have := hO4.lt' q h1
              omega
          · rw [HEX.out, HJ.out, List.replicate_succ, List.cons_append, way, HDD.out]
            simp
          · rw [HEY.out, HJ.out, List.replicate_succ, List.cons_append, way, HDD.out]
            simp
          · simp [intOf]; omega
set_option maxRecDepth 100000 in
set_option maxHeartbeats 1000000 in
theorem specOutlineEnd_any (A : Option Addr) (n c lo : Nat) (o : List (Int × Int)) (w : World) (hx : Rd strokeS lo w.heap.size w A n o) :
    Calls Tryd.prog 27 #[.slice A n c] w fun e w' => e = .returned (.tuple #[.int .i64 (endX o), .int .i64 (endY o), .bool (outOk o)]) ∧ Below w.heap.size w w' := by
  have HX := hid hx
  have hno := hid hx.1
  have HV := hid (specOutlineValid_any A n c lo o w hx)
  clear hx
  by_cases hok : outOk o = true
  case neg =>
    have hok' : outOk o = false := by simpa using hok
    have HH := hid (show endX o = 0 ∧ endY o = 0 by simp [endX, endY, hok'])
    clear hok
    go_enter Tryd.func27, Tryd.ntmps27
    go_wp2_with fail
    refine HV.out.mono ?_
    rintro e w1 ⟨rfl, hb1⟩
    rw [hok']
    go_wp2
    go_ret3
    exact ⟨ret_iib HH.out.1.symm HH.out.2.symm hok'.symm, hb1⟩
  case pos =>
    obtain ⟨hl, h8⟩ := outOk_yes hok
    have HK := linked_ok hl
    obtain ⟨m, hm⟩ : ∃ m, (ptsO o).length = m + 1 := ⟨(ptsO o).length - 1, by have := ptsO_length HK; omega⟩
    have hm25 : m ≤ 24 := by have := ptsO_length HK; omega
    have HM := hid hm
    have HH := hid (show endX o = (gt (ptsO o) m).1 ∧ endY o = (gt (ptsO o) m).2 by simp [endX, endY, hok, lastP, hm])
    have HKK := hid HK
    clear hl HK hm
    go_enter Tryd.func27, Tryd.ntmps27
    go_wp2_with fail
    refine HV.out.mono ?_
    rintro e w1 ⟨rfl, hb1⟩
    rw [hok]
    have HOK := hid hok
    clear hok
    go_wp2_with fail
    refine (l1Points_any A n c lo o w1 (HX.out.bl hb1) HKK.out (by rw [hno.out]; exact h8)).mono ?_
    rintro e w2 ⟨B, b, C, d, rfl, hX, hY, hb2⟩
    rw [HM.out] at hX hY
    rw [HM.out]
    have hrx := (hX.rd (by rw [List.length_map, HM.out]; omega)).2.2.2
    have hry := (hY.rd (by rw [List.length_map, HM.out]; omega)).2.2.2
    obtain ⟨b1, off1, rfl, _, hbb1, hcx⟩ := hrx (by omega)
    obtain ⟨b2, off2, rfl, _, hbb2, hcy⟩ := hry (by omega)
    have cx := hcx.int (k := m) (by omega)
    have cy := hcy.int (k := m) (by omega)
    rw [gt_map (by rw [HM.out]; omega)] at cx cy
    have HB12 := hid (btr hb1 hb2)
    clear hrx hry hcx hcy hX hY hb1 hb2
    have a1 : IntKind.i64.wrap (m : Int) = m := IntWalk.i64_in _ (by omega)
    have a2 : (m : Int) < (m : Int) + 1 := by omega
    have a3 : (m : Int) < ((m + 1 : Nat) : Int) := by omega
    go_wp2_with fail
    go_still (by kernel_rfl)
    go_wp2
    go_ret3
    exact ⟨ret_iib HH.out.1.symm HH.out.2.symm HOK.out.symm, HB12.out.drew⟩
end Go.Proofs.YtigemahbopligaaDoor
