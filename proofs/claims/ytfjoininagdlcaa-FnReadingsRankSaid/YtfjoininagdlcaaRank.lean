/- ReadingsRank: what the reference's and the program's functions return. -/
import Derived.Test.YtfjoininagdlcaaPagePure
import Derived.Test.YtfjoininagdlcaaWeigh3
namespace Go.Proofs.Ytfjoininagdlcaa
open Go.RowKit Go.Shelf
attribute [local go_sem] Oper.semAt_some
set_option maxHeartbeats 1000000 in
theorem equalInts_any (A A' : Option Addr) (n n' c c' lo lo' : Nat) (xs ys : List Int) (w : World) (hx : Rd intS lo w.heap.size w A n xs) (hy : Rd intS lo' w.heap.size w A' n' ys) :
    Calls Try.prog 63 #[.slice A n c, .slice A' n' c'] w fun e w' => e = .returned (.bool (eqD xs ys)) ∧ Below w.heap.size w w' := by
  obtain ⟨e1, e2, e3⟩ := hx
  have E1 := hid e1; clear e1
  have E3 := hid e3; clear e3
  obtain ⟨f1, f2, f3⟩ := hy
  have F1 := hid f1; clear f1
  have F3 := hid f3; clear f3
  by_cases hne : n = n'
  · have h1 : ((n : Int) != (n' : Int)) = false := by simp [hne]
    have HE := hid hne; clear hne
    go_enter Try.func63, Try.ntmps63
    go_wp2_with fail
    go_loopg [13] n (fun gk i wr => ∃ k : Nat, k + gk = n ∧ i = .int .i64 k ∧ eqD xs ys = eqD (xs.drop k) (ys.drop k) ∧ Below w.heap.size w wr)
    case atStart => exact ⟨0, Nat.zero_add _, rfl, by simp, Below.refl _ _⟩
    case round =>
      obtain ⟨k, hkg, rfl, htk, hb⟩ := hrel
      have HKG := hid hkg
      have HT := hid htk
      have hk : k ≤ n := by omega
      clear htk hkg
      by_cases hlt : k < n
      · have hlt' : k < n' := by have := HE.out; omega
        obtain ⟨b, off, rfl, _, hbb, hcx⟩ := E3.out (by omega)
        obtain ⟨b', off', rfl, _, hbb', hcy⟩ := F3.out (by omega)
        have hki : (k : Int) < (n : Int) := by omega
        have hki' : (k : Int) < (n' : Int) := by omega
        have cx := aft_cell hbb (hcx.int hlt)
        have cy := aft_cell hbb' (hcy.int hlt')
        have hD := hid (And.intro (drop_gt (l := xs) (by rw [← E1.out]; exact hlt)) (drop_gt (l := ys) (by rw [← F1.out]; exact hlt')))
        clear hcx hcy
        go_wp2_with fail
        refine wp_region_aft hb (by kernel_rfl) (by kernel_rfl) ?_
        repeat (go_big_quiet_step (fail))
        refine wpQuiet_nil ?_
        rintro _ ⟨⟨w2, hb2⟩, rfl⟩
        clear cx cy hb
        by_cases hxy : gt xs k = gt ys k
        · have hxy' : (gt xs k != gt ys k) = false := by simp [hxy]
          have HXY := hid hxy; clear hxy
          go_wp2_with fail
          go_roundg (gk - 1)
          case measure => have := HKG.out; omega
          case rel => exact ⟨k + 1, by have := HKG.out; omega, by go_num, by rw [HT.out, hD.out.1, hD.out.2, HXY.out, eqD_cons, eqD_self, Bool.true_and], hb2⟩
        · have hxy' : (gt xs k != gt ys k) = true := by simp [hxy]
          have HXY := hid hxy; clear hxy
          go_wp2_with fail
          go_ret
          exact ⟨ret_bool (by rw [HT.out, hD.out.1, hD.out.2, eqD_cons, eqD_no HXY.out, Bool.false_and]), hb2⟩
      · obtain rfl : k = n := by omega
        go_wp2_with fail
        go_ret
        exact ⟨ret_bool (by rw [HT.out, List.drop_eq_nil_of_le (by rw [E1.out]; omega), List.drop_eq_nil_of_le (by rw [← F1.out, ← HE.out]; omega)]; rfl), hb⟩
  · have h1 : ((n : Int) != (n' : Int)) = true := by simp; omega
    have hxy : xs ≠ ys := fun h => hne (by rw [E1.out, F1.out, h])
    have HN := hid hne; clear hne
    have HXY := hid hxy; clear hxy
    go_enter Try.func63, Try.ntmps63
    go_wp2_with fail
    go_ret
    exact ⟨ret_bool (by rw [eqD_no HXY.out]), Below.refl _ _⟩
theorem rank_max {l : List Int} {r page : List (List Int)} {xs : List Int} (h : 0 ≤ weightOf l r page xs) : rankOf l r page (-1) xs ≤ 1679616 := by
  have h1 := rankV_place h
  have h2 := placeOf_le (x := xs) (readsOf l r page [])
  rw [readsLen] at h2
  have h3 := many_max l r page (-1) (weight_can h).1
  rw [rankV, if_neg (by omega)] at h1
  omega
theorem can_lenR {l : List Int} {r : List (List Int)} : ∀ {ps : List (List Int)} {b : Int} {xs : List Int}, canRead l r ps b xs → xs.length = ps.length
  | [], _, [], _ => rfl
  | p :: ps, _, x :: xs, h => by simp [can_lenR h.2.2]
  | [], _, _ :: _, h => h.elim
  | _ :: _, _, [], h => h.elim
set_option maxRecDepth 100000 in
set_option maxHeartbeats 4000000 in
theorem specReadingsRank_any (A B C D : Option Addr) (n c m e0 q d k0 d0 lo : Nat) (l : List Int) (r page : List (List Int)) (xs : List Int) (w : World) (hl : Rd intS lo w.heap.size w A n l) (hr : Rd (sliceS intS) lo w.heap.size w B m r) (hp : Rd (sliceS intS) lo w.heap.size w C q page) (hx : Rd intS lo w.heap.size w D k0 xs) :
    Calls Try.prog 31 #[.agg #[.slice A n c, .slice B m e0], .slice C q d, .slice D k0 d0] w fun e w' => e = .returned (.int .i64 (rankV l r page xs)) ∧ Below w.heap.size w w' := by
  have L := hid hl
  have R := hid hr
  have PG := hid hp
  have X := hid hx
  clear hl hr hp hx
  have b0 := bnew w (.cells #[.slice A n c, .slice B m e0] 26)
  have c0 := heap_alloc_new w (.cells #[.slice A n c, .slice B m e0] 26)
  have z0 : (w.alloc (.cells #[.slice A n c, .slice B m e0] 26)).heap.size = w.heap.size + 1 := by simp
  have B0 := hid b0
  have C0 := hid c0
  have Z0 := hid z0
  clear b0 c0 z0
  go_enter Try.func31, Try.ntmps31
  go_wp2_with fail
  refine (specReadingWeight_any A B C D n c m e0 q d k0 d0 lo l r page xs _ (L.out.bl B0.out) (R.out.bl B0.out) (PG.out.bl B0.out) (X.out.bl B0.out)).mono ?_
  rintro e w2 ⟨rfl, hb2⟩
  have B2 := hid (btr B0.out hb2)
  have cc := (hb2.block w.heap.size (by rw [Z0.out]; omega)).trans C0.out
  have hz2 := hb2.size
  rw [Z0.out] at hz2
  have CC := hid cc
  obtain ⟨k1, k2, _, _⟩ := at_get' cc
  clear hb2 cc
  obtain ⟨V, hV⟩ : ∃ V, weightOf l r page xs = V := ⟨_, rfl⟩
  rw [hV]
  by_cases hV0 : V < 0
  case pos =>
    have HF := hid (show rankV l r page xs = -1 by unfold rankV; rw [if_pos (by omega)])
    clear hV
    go_wp2_with fail
    go_ret
    exact ⟨ret_int HF.out.symm, B2.out⟩
  case neg =>
  have hw0 : 0 ≤ weightOf l r page xs := by omega
  obtain ⟨hok, hlen, hcan⟩ := weight_can hw0
  have hmax := rank_max hw0
  have HF := hid (show rankV l r page xs = (rankOf l r page (-1) xs : Int) by unfold rankV; rw [if_neg (by omega)])
  have HOK := hid hok
  have hok2 := pageOk_yes (bothOk_yes hok).2
  have HOK2 := hid hok2.2
  have HASC := hid (pageOk_asc (bothOk_yes hok).2)
  have hq8 : q ≤ 8 := by rw [PG.out.1]; exact hok2.1
  have hqp := hid PG.out.1
  have hkx := hid X.out.1
  have HKQ := hid (show k0 = q by rw [X.out.1, PG.out.1, hlen])
  have HCAN := hid hcan
  obtain ⟨T, hT⟩ : ∃ T, rankOf l r page (-1) xs = T := ⟨_, rfl⟩
  rw [hT] at hmax
  have HT := hid hT
  clear hV hok hlen hcan hok2 hT hw0
  go_wp2_with fail
  go_loopg [7, 8, 9] q (fun gk rank before at_ wr => ∃ (k z : Nat) (bb : Int), k + gk = q ∧ at_ = .int .i64 k ∧ before = .int .i64 bb ∧ rank = .int .i64 z ∧ z + rankOf l r (page.drop k) bb (xs.drop k) = T ∧ bb < n ∧ canRead l r (page.drop k) bb (xs.drop k) ∧ Below w2.heap.size w2 wr)
  case atStart => exact ⟨0, 0, -1, Nat.zero_add _, rfl, rfl, rfl, by rw [Nat.zero_add]; exact HT.out, by omega, HCAN.out, Below.refl _ _⟩
  case round =>
    obtain ⟨k, z, bb, hkg, rfl, rfl, rfl, hz, hbn, hcan, hbr⟩ := hrel
    have HKG := hid hkg
    have HZ := hid hz
    have HC := hid hcan
    have hk : k ≤ q := by omega
    have hbw := btr B2.out hbr
    clear hkg hz hcan
    by_cases hlt : k < q
    case neg =>
      obtain rfl : k = q := by omega
      have HE := hid (show z = T by
        have := HZ.out
        rw [List.drop_eq_nil_of_le (show page.length ≤ k by rw [hqp.out]; omega)] at this
        simpa [rankOf] using this)
      go_wp2_with fail
      go_ret
      exact ⟨ret_int (by rw [HF.out, HT.out, HE.out]), hbw⟩
    case pos =>
      have hki : (k : Int) < (q : Int) := by omega
      have hkk0 : k < k0 := by have := HKQ.out; omega
      have hkk0i : (k : Int) < (k0 : Int) := by omega
      have hkp : k < page.length := by rw [← hqp.out]; exact hlt
      have hkx' : k < xs.length := by rw [← hkx.out]; exact hkk0
      obtain ⟨p, hpe⟩ : ∃ p, gt page k = p := ⟨_, rfl⟩
      obtain ⟨x, hxe⟩ : ∃ x, gt xs k = x := ⟨_, rfl⟩
      have hdk : page.drop k = p :: page.drop (k + 1) := by rw [drop_gt hkp, hpe]
      have hdx : xs.drop k = x :: xs.drop (k + 1) := by rw [drop_gt hkx', hxe]
      have hcan := HC.out
      rw [hdk, hdx] at hcan
      obtain ⟨hxm, hxw, hcn⟩ := hcan
      obtain ⟨tl, htl⟩ := asc_split (HASC.out p (hpe ▸ gt_mem hkp)) hxm
      have hz2' := HZ.out
      rw [hdk, hdx, rankOf] at hz2'
      obtain ⟨tw, htw⟩ : ∃ tw, (p.takeWhile fun y => decide (y < x)) = tw := ⟨_, rfl⟩
      have htwlt : ∀ y ∈ tw, y < x := fun y hy => take_lt (by rw [htw]; exact hy)
      rw [htw] at htl hz2'
      have HZ2 := hid hz2'
      have hpx := hid (show ∀ x ∈ p, 0 ≤ x ∧ x < (n : Int) from fun x hx => by rw [L.out.1]; exact (HOK2.out p (hpe ▸ gt_mem hkp)).2 x hx)
      have hxn := (hpx.out x hxm).2
      obtain ⟨bp, op, rfl, _, hbp, hcp⟩ := PG.out.2.2 (by omega)
      obtain ⟨RA, rc, rcell, _, hrow⟩ := hcp.row hlt
      rw [hpe] at rcell hrow
      obtain ⟨bX, oX, rfl, _, hbX, hcX⟩ := X.out.2.2 (by omega)
      have xcell := hcX.int hkk0
      rw [hxe] at xcell
      have hp63 := hrow.2.1
      have HROW := hid hrow
      have PRE : Hid (page = page.take k ++ p :: page.drop (k + 1)) := hid (by rw [← hdk, List.take_append_drop])
      have HTK := hid (show (page.take k ++ [p]).length = k + 1 by simp; omega)
      have HTL := hid htl
      have HTW := hid htwlt
      have htwl : tw.length < p.length := by rw [htl, List.length_append, List.length_cons]; omega
      have HCN := hid hcn
      have HBW := hid hbw
      clear hpe hxe hdk hdx hxm hxw hcn htl hz2' htw htwlt hcp hcX hrow hbw
      go_wp2_with fail
      obtain ⟨wo, hwo⟩ : ∃ wo : World, wo = wr := ⟨_, rfl⟩
      obtain ⟨go_, hgo⟩ : ∃ g : Nat, g = gk := ⟨_, rfl⟩
      rw [← hwo] at hbr HBW ⊢
      rw [← hgo] at HKG
      have HGO := hid hgo
      clear hwo hgo
      go_loopg [7, 10] tw.length (fun gk2 rank kv wr => ∃ j zz : Nat, j + gk2 = tw.length ∧ kv = .int .i64 j ∧ rank = .int .i64 zz ∧ zz = z + ((tw.take j).map (manyStep l r (page.drop (k + 1)) bb)).sum ∧ Below wo.heap.size wo wr)
      case atStart => exact ⟨0, z, Nat.zero_add _, rfl, rfl, by simp, Below.refl _ _⟩
      case round =>
        obtain ⟨j, zz, hjg, rfl, rfl, hzz, hbx⟩ := hrel
        have HJG := hid hjg
        have HZZ := hid hzz
        have hj : j ≤ tw.length := by omega
        have hzm : zz ≤ 1679616 := by
          have h1 := sum_take_le (f := manyStep l r (page.drop (k + 1)) bb) tw j
          have h2 := HZ2.out
          omega
        have hjl : j < p.length := by omega
        have hji : (j : Int) < (p.length : Int) := by omega
        clear hjg hzz
        have hbwx := btr HBW.out hbx
        have cp := bcl hbwx rcell
        have cX := bcl hbwx xcell
        obtain ⟨bx, ox, rfl, _, hbbx, hcx⟩ := HROW.out.2.2 (by omega)
        have cx := bcl hbwx (hcx.int hjl)
        obtain ⟨y, hye⟩ : ∃ y, gt p j = y := ⟨_, rfl⟩
        rw [hye] at cx
        obtain ⟨hy0, hyn⟩ := hpx.out y (hye ▸ gt_mem hjl)
        have HYE := hid hye
        have HBWX := hid hbwx
        clear hcx hye hbwx
        have hzx := hbx.size
        have hzr := hbr.size
        have q1 := bcl (btr hbr hbx) k1
        have q2 := bcl (btr hbr hbx) k2
        have hrr := aft_cell (block_lt_of_cell cp) cp
        have hxr := aft_cell (block_lt_of_cell cx) cx
        have hXr := aft_cell (block_lt_of_cell cX) cX
        by_cases hjt : j < tw.length
        case neg =>
          have HYX := hid (show y = x by
            have h1 := HYE.out
            rw [HTL.out, show j = tw.length by omega] at h1
            rw [← h1]; simp [gt])
          have hyx : ¬ y < x := by rw [HYX.out]; omega
          have hyd : decide (y < x) = false := by simpa using hyx
          have HFIN := hid (show zz + rankOf l r (page.drop (k + 1)) x (xs.drop (k + 1)) = T by
            have h2 := HZ2.out
            rw [← h2, HZZ.out, List.take_of_length_le (by omega)]; omega)
          go_wp2_with fail
          refine wp_region_aft (Below.refl wr.heap.size wr) (by kernel_rfl) (by kernel_rfl) ?_
          repeat (go_big_quiet_step (fail))
          refine wpQuiet_nil ?_
          rintro w3 ⟨⟨_, hb3⟩, rfl⟩
          have hbx3 := btr hbx hb3
          have cX3 := bcl hb3 cX
          clear hrr hxr hXr cp cx cX hzx q1 q2
          go_wp2_with fail
          go_roundg (go_ - 1)
          case measure => have h1 := HKG.out; have h2 := HGO.out; omega
          case rel => exact ⟨k + 1, zz, x, by have := HKG.out; omega, by go_num, rfl, rfl, HFIN.out, hxn, HCN.out, btr hbr hbx3⟩
        case pos =>
          have hyx : y < x := HTW.out y (by
            have h1 := HYE.out
            rw [HTL.out, gt_append hjt] at h1
            rw [← h1]; exact gt_mem hjt)
          have HYT := hid (show gt tw j = y by
            have h1 := HYE.out
            rw [HTL.out, gt_append hjt] at h1
            exact h1)
          have HSS := hid (sum_take_succ (f := manyStep l r (page.drop (k + 1)) bb) hjt)
          obtain ⟨v, hv⟩ : ∃ v, wgt l r bb y = v := ⟨_, rfl⟩
          have HV := hid hv
          clear hv
          go_wp2_with fail
          refine wp_region_aft (Below.refl wr.heap.size wr) (by kernel_rfl) (by kernel_rfl) ?_
          repeat (go_big_quiet_step (fail))
          refine wpQuiet_nil ?_
          rintro w3 ⟨⟨_, hb3⟩, rfl⟩
          have hbx3 := btr hbx hb3
          have cp3 := bcl hb3 cp
          have cx3 := bcl hb3 cx
          have q13 := bcl hb3 q1
          have q23 := bcl hb3 q2
          clear hrr hxr hXr cp cx cX hzx q1 q2
          go_wp2_with fail
          have hm1 := aft_cell (block_lt_of_cell q13) q13
          have hm2 := aft_cell (block_lt_of_cell q23) q23
          have hrr := aft_cell (block_lt_of_cell cp3) cp3
          have hxr := aft_cell (block_lt_of_cell cx3) cx3
          have HB3 := hid (btr HBW.out hbx3)
          have CALL1 := hid fun Y : Aft w3.heap.size w3 => aft_call ((l5Weight_any A B n c m e0 lo l r bb y Y.val ((L.out.bl HB3.out).bl Y.prop) ((R.out.bl HB3.out).bl Y.prop) (bothOk_yes HOK.out).1 hbn hy0 hyn).mono fun e w' h => (show e = .returned (.int .i64 v) ∧ Below Y.val.heap.size Y.val w' from ⟨by rw [h.1, HV.out], h.2⟩)) (Nat.le_refl _)
          refine wp_region_aft (Below.refl w3.heap.size w3) (by kernel_rfl) (by kernel_rfl) ?_
          repeat (go_big_quiet_step ((go_at_call 61; exact CALL1.out _)))
          refine wpQuiet_nil ?_
          rintro w4 ⟨⟨_, hb4⟩, rfl⟩
          have hbx4 := btr hbx3 hb4
          have cp4 := bcl hb4 cp3
          have cx4 := bcl hb4 cx3
          have q14 := bcl hb4 q13
          have q24 := bcl hb4 q23
          clear hm1 hm2 hrr hxr cp3 cx3 q13 q23 CALL1 HB3
          by_cases hpos : 0 < v
          case neg =>
            have HN := hid (show zz = z + ((tw.take (j + 1)).map (manyStep l r (page.drop (k + 1)) bb)).sum by rw [HSS.out, HYT.out, manyStep, HV.out, if_neg hpos, Nat.add_zero]; exact HZZ.out)
            go_wp2_with fail
            go_roundg (gk - 1)
            case measure => have := HJG.out; omega
            case rel => exact ⟨j + 1, zz, by have := HJG.out; omega, by go_num, rfl, HN.out, hbx4⟩
          case pos =>
            obtain ⟨M, hM⟩ : ∃ M, manyOf l r (page.drop (k + 1)) y = M := ⟨_, rfl⟩
            have hMm : M ≤ 1679616 := by rw [← hM]; exact many_top (front := page.take k ++ [p]) HOK.out (by have := PRE.out; rw [List.append_assoc]; exact this) y
            have HN := hid (show zz + M = z + ((tw.take (j + 1)).map (manyStep l r (page.drop (k + 1)) bb)).sum by
              have h1 := HZZ.out
              have h2 := HSS.out
              rw [HYT.out, manyStep, HV.out, if_pos hpos, hM] at h2
              omega)
            have HMM := hid hM
            have hm1 := aft_cell (block_lt_of_cell q14) q14
            have hm2 := aft_cell (block_lt_of_cell q24) q24
            have hrr := aft_cell (block_lt_of_cell cp4) cp4
            have hxr := aft_cell (block_lt_of_cell cx4) cx4
            have HB4 := hid (btr HBW.out hbx4)
            have CALL2 := hid fun Y : Aft w4.heap.size w4 => aft_call ((l5Many_any A B (some ⟨bp, op, none⟩) n c m e0 q d lo l r page HOK.out (page.drop (k + 1)) (page.take k ++ [p]) y Y.val (by have := PRE.out; rw [List.append_assoc]; exact this) hyn ((L.out.bl HB4.out).bl Y.prop) ((R.out.bl HB4.out).bl Y.prop) ((PG.out.bl HB4.out).bl Y.prop)).mono fun e w' h => (show e = .returned (.int .i64 (M : Nat)) ∧ Below Y.val.heap.size Y.val w' from ⟨by rw [h.1, HMM.out], h.2⟩)) (Nat.le_refl _)
            rw [HTK.out] at CALL2
            have s1 : IntKind.i64.wrap ((k : Int) + 1) = ((k + 1 : Nat) : Int) := IntWalk.i64_in _ (by omega)
            have s2 : IntKind.i64.wrap ((zz : Int) + (M : Int)) = ((zz + M : Nat) : Int) := by rw [IntWalk.i64_in _ (by omega)]; omega
            clear hM
            go_wp2_with fail
            refine wp_region_aft (Below.refl w4.heap.size w4) (by kernel_rfl) (by kernel_rfl) ?_
            repeat (go_big_quiet_step ((go_at_call 54; exact CALL2.out _)))
            refine wpQuiet_nil ?_
            rintro w5 ⟨⟨_, hb5⟩, rfl⟩
            have hbx5 := btr hbx4 hb5
            clear hm1 hm2 hrr hxr cp4 cx4 q14 q24 CALL2 HB4 s1 s2
            go_wp2_with fail
            go_roundg (gk - 1)
            case measure => have := HJG.out; omega
            case rel => exact ⟨j + 1, zz + M, by have := HJG.out; omega, by go_num, rfl, HN.out, hbx5⟩
theorem prefix_lt {α : Type} {a b : List α} {x : α} (h : a ++ [x] <+: b) : a.length < b.length := by have := h.length_le; simp at this; omega
theorem place_prefix {x : List Int} {pre b : List (List Int)} (h : pre ++ [x] <+: b) (hn : ∀ y ∈ pre, y ≠ x) : placeOf x b = pre.length := by
  obtain ⟨t, ht⟩ := h
  rw [← ht, List.append_assoc, placeOf_no hn, List.singleton_append, placeOf, eqD_self]
  rfl
set_option maxRecDepth 100000 in
set_option maxHeartbeats 2000000 in
theorem implReadingsRank_any (A B C D : Option Addr) (n c m e0 q d k0 d0 : Nat) (l : List Int) (r page : List (List Int)) (xs : List Int) (w : World) (hl : Rd intS 0 w.heap.size w A n l) (hr : Rd (sliceS intS) 0 w.heap.size w B m r) (hp : Rd (sliceS intS) 0 w.heap.size w C q page) (hx : Rd intS 0 w.heap.size w D k0 xs) (hkd : k0 ≤ d0) :
    Calls Try.prog 25 #[.agg #[.slice A n c, .slice B m e0], .slice C q d, .slice D k0 d0] w fun e w' => e = .returned (.int .i64 (rankV l r page xs)) ∧ Below w.heap.size w w' := by
  have L := hid hl
  have R := hid hr
  have PG := hid hp
  have X := hid hx
  clear hl hr hp hx
  have b0 := bnew w (.cells #[.slice A n c, .slice B m e0] 26)
  have c0 := heap_alloc_new w (.cells #[.slice A n c, .slice B m e0] 26)
  have b1 := bnew (w.alloc (.cells #[.slice A n c, .slice B m e0] 26)) (.cells #[.slice D k0 d0] 23)
  have c1 := heap_alloc_new (w.alloc (.cells #[.slice A n c, .slice B m e0] 26)) (.cells #[.slice D k0 d0] 23)
  rw [World.size_alloc] at c1
  have z1 : ((w.alloc (.cells #[.slice A n c, .slice B m e0] 26)).alloc (.cells #[.slice D k0 d0] 23)).heap.size = w.heap.size + 2 := by simp
  have d0' := (b1.block w.heap.size (by simp)).trans c0
  have B0 := hid (btr b0 b1)
  refine (callsIn_wide (n := 9)).1 (callsIn_of_wp_marks Try.func25 rfl trivial (wpIn_wide.2 ?_) rfl)
  simp only [Try.ntmps25, List.size_toArray, List.length_cons, List.length_nil, Nat.reduceAdd, Nat.reduceSub, Array.replicate_succ, Array.replicate_zero, List.push_toArray, List.append_toArray, List.nil_append, List.cons_append]
  clear b0 c0 b1
  go_wp2_with fail
  generalize (w.alloc (.cells #[.slice A n c, .slice B m e0] 26)).alloc (.cells #[.slice D k0 d0] 23) = w0 at *
  refine (implReadingWeight_any A B C D n c m e0 q d k0 d0 0 l r page xs w0 (L.out.bl B0.out) (R.out.bl B0.out) (PG.out.bl B0.out) (X.out.bl B0.out) hkd).mono ?_
  rintro e w1 ⟨rfl, hb1⟩
  have B1 := hid (btr B0.out hb1)
  have hz1 := hb1.size
  have x0 := (hb1.block w.heap.size (by omega)).trans d0'
  have x1 := (hb1.block (w.heap.size + 1) (by omega)).trans c1
  have hz2 : w.heap.size < w1.heap.size := by omega
  have hz3 : w.heap.size + 1 < w1.heap.size := by omega
  obtain ⟨k1, k2, _, _⟩ := at_get' x0
  have X1 := hid x1
  clear hb1 x0 x1 d0' c1
  obtain ⟨V, hV⟩ : ∃ V, weightOf l r page xs = V := ⟨_, rfl⟩
  rw [hV]
  by_cases hV0 : V < 0
  case pos =>
    have HF := hid (show rankV l r page xs = -1 by unfold rankV; rw [if_pos (by omega)])
    clear hV
    go_wp2_with fail
    exact ⟨.int .i64 (-1), results_one rfl rfl, ret_int HF.out.symm, B1.out⟩
  case neg =>
  have hw0 : 0 ≤ weightOf l r page xs := by omega
  have HOK := hid (weight_can hw0).1
  have HF := hid (rankV_place hw0)
  have HMX := hid (show (readsOf l r page []).length ≤ 1679616 by rw [readsLen]; exact many_max l r page (-1) (weight_can hw0).1)
  clear hV hw0
  go_wp2_with fail
  refine (readings_any _ _ _ _ _ _ _ _ _ _).mono ?_
  rintro e w4 ⟨rfl, rfl⟩
  go_wp2_with fail
  have v0 := heap_alloc_new w1 (.cells #[.int .i64 0] 3)
  have v1 := heap_alloc_new (w1.alloc (.cells #[.int .i64 0] 3)) (.cells #[.slice A n c, .slice B m e0] 26)
  have v2 := heap_alloc_new ((w1.alloc (.cells #[.int .i64 0] 3)).alloc (.cells #[.slice A n c, .slice B m e0] 26)) (.cells #[.slice C q d] 24)
  have y0 := ((btr (bnew (w1.alloc (.cells #[.int .i64 0] 3)) (.cells #[.slice A n c, .slice B m e0] 26)) (bnew _ (.cells #[.slice C q d] 24))).block w1.heap.size (by simp)).trans v0
  have y1 := (bnew ((w1.alloc (.cells #[.int .i64 0] 3)).alloc (.cells #[.slice A n c, .slice B m e0] 26)) (.cells #[.slice C q d] 24)).block (w1.heap.size + 1) (by simp)
  have y5 := btr (btr (bnew w1 (.cells #[.int .i64 0] 3)) (bnew _ (.cells #[.slice A n c, .slice B m e0] 26))) (bnew _ (.cells #[.slice C q d] 24))
  simp only [World.size_alloc] at v1 v2
  rw [v1] at y1
  have zz : (((w1.alloc (.cells #[.int .i64 0] 3)).alloc (.cells #[.slice A n c, .slice B m e0] 26)).alloc (.cells #[.slice C q d] 24)).heap.size = w1.heap.size + 3 := by simp
  have u1 := (y5.block _ hz3).trans X1.out
  have hbw := btr B1.out y5
  generalize (((w1.alloc (.cells #[.int .i64 0] 3)).alloc (.cells #[.slice A n c, .slice B m e0] 26)).alloc (.cells #[.slice C q d] 24)) = w5 at *
  obtain ⟨g, hg⟩ : ∃ g, w1.heap.size = g := ⟨_, rfl⟩
  rw [hg] at v1 v2 y0 y1 zz hz1 hz2 hz3 ⊢
  have Y0 := hid y0
  have U1 := hid u1
  have HBW := hid hbw
  have HNM : Hid (∀ b k, w5.heap.size + 2 ≤ b → notMine w5.heap.size b k → g < k) := hid fun b k hb hk => by rcases hk with hk | hk | hk <;> omega
  have HZZ := hid zz
  clear v0 y5 y0 u1 hbw zz k1 k2
  refine wp_rangeFunc_chg (gf := 77) (lb := #[.pointer (some ⟨g + 1 + 1, 0, none⟩), .pointer (some ⟨g + 1, 0, none⟩)]) rfl (enters_of Try.func77 (by kernel_rfl) rfl)
    (readings_seq w.heap.size (g + 1) (g + 1) (g + 1 + 1) A n c B m e0 C q d l r page w5 (L.out.below HBW.out (Nat.le_refl _)) (R.out.below HBW.out (Nat.le_refl _)) (PG.out.below HBW.out (Nat.le_refl _)) y1 v2 HOK.out (by omega) (Nat.le_refl _) (by omega)) (by rw [HZZ.out]; omega)
    (fun b x X X' hb h hc => ⟨h.1.kept (hc.block b h.1.lt (by omega)), h.2⟩)
    (fun _ pre W => W.heap[g]? = some (.cells #[.int .i64 (pre.length : Int)] 3 (0, 0)) ∧ (∀ y ∈ pre, y ≠ xs) ∧ W.heap[w.heap.size + 1]? = some (.cells #[.slice D k0 d0] 23 (0, 0)) ∧ Below w.heap.size w W)
    (fun c _ pre W => c = .exit 0 ∧ ∃ s, pre = s ++ [xs] ∧ (∀ y ∈ s, y ≠ xs) ∧ W.heap[g]? = some (.cells #[.int .i64 (s.length : Int)] 3 (0, 0)) ∧ Below w.heap.size w W)
    (fun b s X X' hb h hc => ⟨(hc.block g (Array.getElem?_eq_some_iff.1 h.1).1 (fun hk => by have := HNM.out b g hb hk; omega)).trans h.1, h.2.1, (hc.block _ (Array.getElem?_eq_some_iff.1 h.2.2.1).1 (fun hk => by have := HNM.out b _ hb hk; omega)).trans h.2.2.1, h.2.2.2.trans (hc.below h.2.2.2.size (fun k hk => by have := HNM.out b k hb hk; omega))⟩)
    (fun c b s X X' hb h hc => ⟨h.1, by obtain ⟨s', q1, q2, q3, q4⟩ := h.2; exact ⟨s', q1, q2, (hc.block g (Array.getElem?_eq_some_iff.1 q3).1 (fun hk => by have := HNM.out b g hb hk; omega)).trans q3, q4.trans (hc.below q4.size (fun k hk => by have := HNM.out b k hb hk; omega))⟩⟩) (fun b hb => ⟨Y0.out, (fun y hy => by cases hy), U1.out, HBW.out⟩)
    (fun b => { tmps := #[.agg #[.slice A n c, .slice B m e0], .slice C q d, .slice D k0 d0, .pointer (some ⟨w.heap.size, 0, none⟩), undef, .pointer (some ⟨w.heap.size + 1, 0, none⟩), .int .i64 0, .pointer (some ⟨g, 0, none⟩), .slice (some ⟨b, 0, none⟩) q q, .agg #[.slice A n c, .slice B m e0], .slice C q d, .slice D k0 d0, .int .i64 V, .bool (decide (V < 0)), .agg #[.slice A n c, .slice B m e0], .slice C q d, .func (.func 77) #[] #[.pointer (some ⟨g + 1 + 1, 0, none⟩), .pointer (some ⟨g + 1, 0, none⟩)], .slice (some ⟨b, 0, none⟩) q q, undef, undef, undef, undef, undef, undef], defers := [] }) ?assign ?body ?done ?stop
  case assign =>
    intro l' b W K hK
    gi_wp2_with fail
    exact hK
  case body =>
    rintro l' b pre x W hb - ⟨hW0, hW1, hW2, hW3⟩ ⟨hr1, hr2⟩ hpre
    obtain ⟨y1, f1⟩ := cell_one' hW0
    obtain ⟨y2, f2⟩ := cell_one' hW2
    have hlt0 := (Array.getElem?_eq_some_iff.1 hW0).1
    have hlen : pre.length ≤ 1679616 := by have h1 := prefix_lt hpre; have h2 := HMX.out; omega
    have hzW := hW3.size
    have hq63 : q ≤ 9223372036854775807 := PG.out.2.1
    have hrd := hr1.rd hq63
    rw [hr2] at hrd
    have HRD := hid hrd
    have HW := hid (And.intro hW0 (And.intro hW1 (And.intro hW2 hW3)))
    have XW := hid ((X.out.below hW3 (Nat.le_refl _)).wide (lo' := 0) (Nat.le_refl _) hzW)
    clear hW0 hW1 hW2 hW3 hr1 hr2 hpre hrd
    by_cases he : x = xs
    case pos =>
      have hee : eqD x xs = true := by rw [he, eqD_self]
      have HE := hid he
      clear he
      gi_wp2_with (refine ⟨trivial, ?_⟩; gi_at_call 63; refine (CallsIn.inRound l' (callsIn_wide.2 (equalInts_any _ _ q k0 q d0 0 0 x xs W HRD.out XW.out))).mono ?_; rintro e w2 ⟨rfl, hb2⟩; rw [hee])
      have hcb : Chg (fun _ => False) W w2 := ⟨hb2.os, hb2.tape, hb2.output, hb2.size, fun k hk _ => hb2.block k hk⟩
      exact ⟨hcb.wide fun k hk => hk.elim, rfl, pre, by rw [HE.out], HW.out.2.1, (hb2.block g hlt0).trans HW.out.1, HW.out.2.2.2.trans (hb2.mono hzW)⟩
    case neg =>
      have hee : eqD x xs = false := eqD_no he
      have HE := hid he
      clear he
      gi_wp2_with (refine ⟨trivial, ?_⟩; gi_at_call 63; refine (CallsIn.inRound l' (callsIn_wide.2 (equalInts_any _ _ q k0 q d0 0 0 x xs W HRD.out XW.out))).mono ?_; rintro e w2 ⟨rfl, hb2⟩; rw [hee]; have y3 := bcl hb2 y1; have f3 := (hb2.frozen (p := ⟨g, 0, none⟩) hlt0).trans f1; have HB := hid hb2; clear hb2)
      have hb2 := HB.out
      have hcb : Chg (fun _ => False) W w2 := ⟨hb2.os, hb2.tape, hb2.output, hb2.size, fun k hk _ => hb2.block k hk⟩
      have hg0 := (hb2.block g hlt0).trans HW.out.1
      refine ⟨(hcb.wide fun k hk => hk.elim).set (p := ⟨g, 0, none⟩) (show rng w.heap.size (g + 1) g from ⟨by omega, by omega⟩) _, ?_, fun y hy => ?_, (set_other (by omega)).trans ((hb2.block _ (Array.getElem?_eq_some_iff.1 HW.out.2.2.1).1).trans HW.out.2.2.1), (HW.out.2.2.2.trans (hb2.mono hzW)).setCell (p := ⟨g, 0, none⟩) (by show w.heap.size ≤ g; omega) _⟩
      · rw [set_one hg0]
        simp
      · rcases List.mem_append.1 hy with hy | hy
        · exact HW.out.2.1 y hy
        · rw [List.mem_singleton] at hy; rw [hy]; exact HE.out
  case done =>
    rintro b W hb ⟨hW0, hW1, hW2, hW3⟩ hK
    obtain ⟨y1, f1⟩ := cell_one' hW0
    have HN := hid (show rankV l r page xs = ((readsOf l r page []).length : Int) by
      rw [HF.out]
      have := placeOf_no (x := xs) (b := []) hW1
      rw [List.append_nil] at this
      rw [this]; rfl)
    have HW := hid (And.intro hW3 hK)
    clear hW0 hW1 hW2 hW3 hK
    go_wp2_with fail
    refine ⟨by simp, .inl ⟨_, _, rfl, run_takeDeferred HW.out.2, ?_⟩⟩
    exact ⟨.int .i64 ((readsOf l r page []).length : Int), results_one rfl rfl, ret_int HN.out.symm, below_putObj _ HW.out.1 (by have := HZZ.out; omega)⟩
  case stop =>
    rintro _ b pre W hb hpre ⟨rfl, s, rfl, hs, hW0, hW3⟩ hK
    obtain ⟨y1, f1⟩ := cell_one' hW0
    have HN := hid (show rankV l r page xs = (s.length : Int) by rw [HF.out, place_prefix hpre hs])
    have HW := hid (And.intro hW3 hK)
    clear hW0 hs hpre hW3 hK
    go_wp2_with fail
    refine ⟨by simp, .inl ⟨_, _, rfl, run_takeDeferred HW.out.2, ?_⟩⟩
    exact ⟨.int .i64 (s.length : Int), results_one rfl rfl, ret_int HN.out.symm, below_putObj _ HW.out.1 (by have := HZZ.out; omega)⟩
end Go.Proofs.Ytfjoininagdlcaa
