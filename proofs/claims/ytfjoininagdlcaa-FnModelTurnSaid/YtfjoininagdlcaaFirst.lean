/- ReadingFirst: what the reference's and the program's functions return. -/
import Derived.Test.YtfjoininagdlcaaPagePure
import Derived.Test.YtfjoininagdlcaaFresh
namespace Go.Proofs.Ytfjoininagdlcaa
open Go.RowKit Go.Shelf
attribute [local go_sem] Oper.semAt_some
/-- A row of the call's own, and whether there is one. -/
def RetI2 (w : World) (xs : List Int) (ok : Bool) (e : Ending) (w' : World) : Prop :=
  ∃ A c, e = .returned (.tuple #[.slice A xs.length c, .bool ok]) ∧ OwnR intS w.heap.size w' 3 (.slice A xs.length c) xs ∧ Below w.heap.size w w'
def RetIB (w : World) (V : Option (List Int)) : Ending → World → Prop := RetI2 w (V.getD []) V.isSome
theorem RetIB.of {w w' : World} {V : Option (List Int)} {xs : List Int} {ok : Bool} {A : Option Addr} {n c : Nat} (h1 : V.getD [] = xs) (h2 : V.isSome = ok) (hn : n = xs.length) (hO : OwnR intS w.heap.size w' 3 (.slice A n c) xs) (hb : Below w.heap.size w w') : RetIB w V (.returned (.tuple #[.slice A n c, .bool ok])) w' := by
  subst h1 h2 hn
  exact ⟨A, c, rfl, hO, hb⟩
set_option maxRecDepth 100000 in
set_option maxHeartbeats 4000000 in
theorem specReadingFirst_any (A B C : Option Addr) (n c m e0 q d lo : Nat) (l : List Int) (r page : List (List Int)) (w : World) (hl : Rd intS lo w.heap.size w A n l) (hr : Rd (sliceS intS) lo w.heap.size w B m r) (hp : Rd (sliceS intS) lo w.heap.size w C q page) :
    Calls Try.prog 23 #[.agg #[.slice A n c, .slice B m e0], .slice C q d] w (RetIB w (firstV l r page)) := by
  obtain ⟨i0, hi1, hz0, hz1, hz2⟩ := info_parts (show (Try.prog.info? 3).map (fun i => (i.zero, i.size, i.bytes)) = some (some (.int .i64 0), 1, 8) by kernel_rfl)
  have HI := hid (And.intro hi1 (And.intro hz0 (And.intro hz1 hz2)))
  clear hi1 hz0 hz1 hz2
  have L := hid hl
  have R := hid hr
  have PG := hid hp
  clear hl hr hp
  have b0 := bnew w (.cells #[.slice A n c, .slice B m e0] 26)
  have c0 := heap_alloc_new w (.cells #[.slice A n c, .slice B m e0] 26)
  have z0 : (w.alloc (.cells #[.slice A n c, .slice B m e0] 26)).heap.size = w.heap.size + 1 := by simp
  have B0 := hid b0
  have C0 := hid c0
  have Z0 := hid z0
  clear b0 c0 z0
  go_enter Try.func23, Try.ntmps23
  go_wp2_with fail
  have b1 := bnew (w.alloc (.cells #[.slice A n c, .slice B m e0] 26)) (.cells #[] 3)
  have hO0 := OwnR.nil (S := intS) (base := w.heap.size + 1) (w := w.alloc (.cells #[.slice A n c, .slice B m e0] 26)) (e := 3) (by simp) #[] rfl
  rw [Z0.out] at hO0
  have hc1 := (b1.block w.heap.size (by rw [Z0.out]; omega)).trans C0.out
  have z1 : ((w.alloc (.cells #[.slice A n c, .slice B m e0] 26)).alloc (.cells #[] 3)).heap.size = w.heap.size + 2 := by simp
  have B1 := hid (btr B0.out b1)
  have HO0 := hid hO0
  have C1 := hid hc1
  generalize (w.alloc (.cells #[.slice A n c, .slice B m e0] 26)).alloc (.cells #[] 3) = w1 at *
  clear b1 hO0 hc1
  refine (specReadingsMany_any A B C n c m e0 q d lo l r page w1 (L.out.bl B1.out) (R.out.bl B1.out) (PG.out.bl B1.out)).mono ?_
  rintro e w2 ⟨rfl, hb2⟩
  have B2 := hid (btr B1.out hb2)
  have cc := (hb2.block w.heap.size (by omega)).trans C1.out
  have hz2 := hb2.size
  have HO2 := hid (HO0.out.bl hb2)
  have CC := hid cc
  obtain ⟨k1, k2, _, _⟩ := at_get' cc
  clear hb2 cc
  obtain ⟨M, hM⟩ : ∃ M, manyV l r page = M := ⟨_, rfl⟩
  rw [hM]
  by_cases hM1 : M < 1
  case pos =>
    have HF := hid (show firstV l r page = none by
      unfold firstV
      rw [if_neg]
      intro h
      rw [Bool.and_eq_true, decide_eq_true_eq] at h
      rw [manyV, if_pos h.1] at hM
      omega)
    clear hM
    go_wp2_with fail
    go_ret2
    exact RetIB.of (by rw [HF.out]; rfl) (by rw [HF.out]; rfl) rfl (HO2.out.low (by omega)) B2.out
  case neg =>
  have hok : bothOk l r page = true := by
    cases h : bothOk l r page with
    | true => rfl
    | false => rw [manyV, h] at hM; simp at hM; omega
  have hpos0 : 0 < manyOf l r page (-1) := by rw [manyV, if_pos hok] at hM; omega
  have HF := hid (show firstV l r page = some (firstOf l r page (-1)) by unfold firstV; rw [if_pos (by simp [hok, hpos0])])
  have hok2 := pageOk_yes (bothOk_yes hok).2
  have HOK := hid hok
  have HOK2 := hid hok2.2
  have hq8 : q ≤ 8 := by rw [PG.out.1]; exact hok2.1
  have hqp := hid PG.out.1
  have HP0 := hid hpos0
  clear hM hok hpos0 hok2
  go_wp2_with fail
  go_loopg [6, 7, 8] q (fun gk out before at_ wr => ∃ (k : Nat) (bb : Int) (xs : List Int) (A' : Option Addr) (c' : Nat), k + gk = q ∧ at_ = .int .i64 k ∧ before = .int .i64 bb ∧ out = .slice A' xs.length c' ∧ xs.length = k ∧ OwnR intS (w.heap.size + 1) wr 3 (.slice A' xs.length c') xs ∧ xs ++ firstOf l r (page.drop k) bb = firstOf l r page (-1) ∧ bb < n ∧ 0 < manyOf l r (page.drop k) bb ∧ Below (w.heap.size + 1) w2 wr)
  case atStart => exact ⟨0, -1, [], _, _, Nat.zero_add _, rfl, rfl, rfl, rfl, HO2.out, rfl, by omega, HP0.out, Below.refl _ _⟩
  case round =>
    obtain ⟨k, bb, xs, A', c', hkg, rfl, rfl, rfl, hxl, hO, hfx, hbn, hmp, hbr⟩ := hrel
    have HKG := hid hkg
    have HXL := hid hxl
    have HFX := hid hfx
    have HMP := hid hmp
    have HO := hid hO
    have hk : k ≤ q := by omega
    have hxs8 : xs.length ≤ 8 := by omega
    have hbw := B2.out.trans (hbr.mono (by omega))
    clear hkg hxl hfx hmp hO
    by_cases hlt : k < q
    case neg =>
      obtain rfl : k = q := by omega
      have HE := hid (show xs = firstOf l r page (-1) by
        have := HFX.out
        rw [List.drop_eq_nil_of_le (by rw [hqp.out]; omega)] at this
        simpa [firstOf] using this)
      go_wp2_with fail
      go_ret2
      exact RetIB.of (by rw [HF.out]; exact HE.out.symm) (by rw [HF.out]; rfl) rfl (HO.out.low (by omega)) hbw
    case pos =>
      have hki : (k : Int) < (q : Int) := by omega
      have hkp : k < page.length := by rw [← hqp.out]; exact hlt
      obtain ⟨p, hpe⟩ : ∃ p, gt page k = p := ⟨_, rfl⟩
      have hdk : page.drop k = p :: page.drop (k + 1) := by rw [drop_gt hkp, hpe]
      have hpx := hid (show ∀ x ∈ p, 0 ≤ x ∧ x < (n : Int) from fun x hx => by rw [L.out.1]; exact (HOK2.out p (hpe ▸ gt_mem hkp)).2 x hx)
      have hm2 := HMP.out
      rw [hdk] at hm2
      obtain ⟨x, hfind⟩ := find_some hm2
      obtain ⟨hxm, hxw, hxmany⟩ := find_leads hfind
      have HNEW := hid (show xs ++ [x] ++ firstOf l r (page.drop (k + 1)) x = firstOf l r page (-1) by rw [← HFX.out, hdk, firstOf, hfind]; simp)
      obtain ⟨bp, op, rfl, _, hbp, hcp⟩ := PG.out.2.2 (by omega)
      obtain ⟨RA, rc, rcell, _, hrow⟩ := hcp.row hlt
      rw [hpe] at rcell hrow
      have hp63 := hrow.2.1
      have HROW := hid hrow
      have HXN := hid (hpx.out x hxm)
      have HXMANY := hid hxmany
      have HFIND := hid hfind
      have HDK := hid hdk
      have PRE : Hid (page = page.take k ++ p :: page.drop (k + 1)) := hid (by rw [← hdk, List.take_append_drop])
      have HTK := hid (show (page.take k ++ [p]).length = k + 1 by simp; omega)
      have HBW := hid hbw
      clear hpe hdk hm2 hfind hxm hxw hxmany hcp hrow hbw
      go_wp2_with fail
      obtain ⟨wo, hwo⟩ : ∃ wo : World, wo = wr := ⟨_, rfl⟩
      obtain ⟨go_, hgo⟩ : ∃ g : Nat, g = gk := ⟨_, rfl⟩
      rw [← hwo] at hbr HO HBW ⊢
      rw [← hgo] at HKG
      have HGO := hid hgo
      clear hwo hgo
      go_loopg [7, 9] p.length (fun gk2 bv kv wr => ∃ j : Nat, j + gk2 = p.length ∧ kv = .int .i64 j ∧ bv = .int .i64 bb ∧ (p.drop j).find? (leads l r (page.drop (k + 1)) bb) = some x ∧ Below wo.heap.size wo wr)
      case atStart => exact ⟨0, Nat.zero_add _, rfl, rfl, HFIND.out, Below.refl _ _⟩
      case round =>
        obtain ⟨j, hjg, rfl, rfl, hfj, hbx⟩ := hrel
        have HJG := hid hjg
        have HFJ := hid hfj
        have hj : j ≤ p.length := by omega
        have hjl : j < p.length := by
          by_cases h : j < p.length
          · exact h
          · rw [List.drop_eq_nil_of_le (show p.length ≤ j by omega)] at hfj; cases hfj
        have hji : (j : Int) < (p.length : Int) := by omega
        clear hjg hfj
        have hbwx := btr HBW.out hbx
        have cp := bcl hbwx rcell
        obtain ⟨bx, ox, rfl, _, hbbx, hcx⟩ := HROW.out.2.2 (by omega)
        have cx := bcl hbwx (hcx.int hjl)
        obtain ⟨y, hye⟩ : ∃ y, gt p j = y := ⟨_, rfl⟩
        rw [hye] at cx
        obtain ⟨hy0, hyn⟩ := hpx.out y (hye ▸ gt_mem hjl)
        have HFD := hid (find_drop (g := leads l r (page.drop (k + 1)) bb) hjl)
        have HYE := hid hye
        have HBWX := hid hbwx
        clear hcx hye hbwx
        have hzx := hbx.size
        have hzr := hbr.size
        have q1 := bcl hbx ((hbr.cell (p := ⟨w.heap.size, 0, none⟩) (Nat.lt_succ_self _)).trans k1)
        have q2 := bcl hbx ((hbr.cell (p := ⟨w.heap.size, 1, none⟩) (Nat.lt_succ_self _)).trans k2)
        have hm1 := aft_cell (block_lt_of_cell q1) q1
        have hm2 := aft_cell (block_lt_of_cell q2) q2
        have hrr := aft_cell (block_lt_of_cell cp) cp
        have hxr := aft_cell (block_lt_of_cell cx) cx
        obtain ⟨v, hv⟩ : ∃ v, wgt l r bb y = v := ⟨_, rfl⟩
        obtain ⟨V, hV⟩ : ∃ V, manyOf l r (page.drop (k + 1)) y = V := ⟨_, rfl⟩
        have HV := hid (And.intro hv hV)
        have CALL1 := hid fun X : Aft wr.heap.size wr => aft_call ((l5Weight_any A B n c m e0 lo l r bb y X.val ((L.out.bl HBWX.out).bl X.prop) ((R.out.bl HBWX.out).bl X.prop) (bothOk_yes HOK.out).1 hbn hy0 hyn).mono fun e w' h => (show e = .returned (.int .i64 v) ∧ Below X.val.heap.size X.val w' from ⟨by rw [h.1, HV.out.1], h.2⟩)) (Nat.le_refl _)
        have CALL2 := hid fun X : Aft wr.heap.size wr => aft_call ((l5Many_any A B (some ⟨bp, op, none⟩) n c m e0 q d lo l r page HOK.out (page.drop (k + 1)) (page.take k ++ [p]) y X.val (by have := PRE.out; rw [List.append_assoc]; exact this) hyn ((L.out.bl HBWX.out).bl X.prop) ((R.out.bl HBWX.out).bl X.prop) ((PG.out.bl HBWX.out).bl X.prop)).mono fun e w' h => (show e = .returned (.int .i64 (V : Nat)) ∧ Below X.val.heap.size X.val w' from ⟨by rw [h.1, HV.out.2], h.2⟩)) (Nat.le_refl _)
        rw [HTK.out] at CALL2
        have s1 : IntKind.i64.wrap ((k : Int) + 1) = ((k + 1 : Nat) : Int) := IntWalk.i64_in _ (by omega)
        clear hv hV
        by_cases hpos : 0 < v
        case neg =>
          have HN := hid (show (p.drop (j + 1)).find? (leads l r (page.drop (k + 1)) bb) = some x by
            have := HFJ.out
            rw [HFD.out, if_neg (by unfold leads; rw [HYE.out, HV.out.1]; simp [hpos])] at this
            exact this)
          have hd0 : decide (0 < v) = false := by simpa using hpos
          go_wp2_with fail
          refine wp_region_aft (Below.refl wr.heap.size wr) (by kernel_rfl) (by kernel_rfl) ?_
          repeat (go_big_quiet_step (first | (go_at_call 61; exact CALL1.out _)))
          refine wpQuiet_nil ?_
          rintro w3 ⟨⟨_, hb3⟩, rfl⟩
          have hbx3 := btr hbx hb3
          clear hm1 hm2 hrr hxr CALL1 CALL2 cp cx s1 hzx q1 q2
          go_wp2_with fail
          go_roundg (gk - 1)
          case measure => have := HJG.out; omega
          case rel => exact ⟨j + 1, by have := HJG.out; omega, by go_num, rfl, HN.out, hbx3⟩
        case pos =>
          by_cases hposV : 0 < V
          case neg =>
            have hVi : ¬ (0 : Int) < (V : Int) := by omega
            have hd0 : decide ((0 : Int) < (V : Int)) = false := by simpa using hVi
            have HN := hid (show (p.drop (j + 1)).find? (leads l r (page.drop (k + 1)) bb) = some x by
              have := HFJ.out
              rw [HFD.out, if_neg (by unfold leads; rw [HYE.out, HV.out.2]; simp [hposV])] at this
              exact this)
            go_wp2_with fail
            refine wp_region_aft (Below.refl wr.heap.size wr) (by kernel_rfl) (by kernel_rfl) ?_
            repeat (go_big_quiet_step (first | (go_at_call 61; exact CALL1.out _) | (go_at_call 54; exact CALL2.out _)))
            refine wpQuiet_nil ?_
            rintro w3 ⟨⟨_, hb3⟩, rfl⟩
            have hbx3 := btr hbx hb3
            clear hm1 hm2 hrr hxr CALL1 CALL2 cp cx s1 hzx q1 q2
            go_wp2_with fail
            go_roundg (gk - 1)
            case measure => have := HJG.out; omega
            case rel => exact ⟨j + 1, by have := HJG.out; omega, by go_num, rfl, HN.out, hbx3⟩
          case pos =>
            have hVi : (0 : Int) < (V : Int) := by omega
            have HYX := hid (show y = x by
              have := HFJ.out
              rw [HFD.out, if_pos (by unfold leads; rw [HYE.out, HV.out.1, HV.out.2]; simp [hpos, hposV]), HYE.out] at this
              injection this)
            go_wp2_with fail
            refine wp_region_aft (Below.refl wr.heap.size wr) (by kernel_rfl) (by kernel_rfl) ?_
            repeat (go_big_quiet_step (first | (go_at_call 61; exact CALL1.out _) | (go_at_call 54; exact CALL2.out _)))
            refine wpQuiet_nil ?_
            rintro w3 ⟨⟨_, hb3⟩, rfl⟩
            have hbx3 := btr hbx hb3
            have cp3 := bcl hb3 cp
            have cx3 := bcl hb3 cx
            clear hm1 hm2 hrr hxr CALL1 CALL2 cp cx s1 hzx q1 q2
            have HO3 := hid (HO.out.bl hbx3)
            have hz3 := (btr HBW.out hbx3).size
            have HB3 := hid (hbr.trans (hbx3.mono (by omega)))
            have hz5 := HB3.out.size
            clear hb3
            go_wp2_with (at_builtin; refine wpList_append_R rfl (.tmp 64) (.tmp 66) _ rfl intS Try.underlying23 HI.out rfl (by decide) rfl (HO3.out.al _) (y := y) rfl (heap_alloc_new _ _) rfl (by simp [Value.oneCell']) rfl (by omega) (by omega) (by simp; omega) ?_; intro A2 c2 w4 hO4 hb4)
            have hl4 : (xs ++ [y]).length = xs.length + 1 := by simp
            go_roundg (go_ - 1)
            case measure => have h1 := HKG.out; have h2 := HGO.out; omega
            case rel => exact ⟨k + 1, y, xs ++ [y], A2, c2, by have := HKG.out; omega, by go_num, rfl, by rw [hl4], by rw [hl4, HXL.out], by rw [hl4]; exact hO4, by rw [HYX.out]; exact HNEW.out, by rw [HYX.out]; exact HXN.out.2, by rw [HYX.out]; exact HXMANY.out, HB3.out.trans (((bnew _ _).mono (by omega)).trans hb4)⟩
/-- What the round leaves: the two results in their cells. -/
structure FirstI (B g1 g2 b N : Nat) (w : World) (xs : List Int) (W : World) : Prop where
  row : ∃ A c, W.heap[g1]? = some (.cells #[.slice A xs.length c] 23 (0, 0)) ∧ OwnR intS B W 3 (.slice A xs.length c) xs ∧ ∀ k, (Value.slice A xs.length c).ownBlock = some k → k ≠ b ∧ N + 2 ≤ k
  ok : W.heap[g2]? = some (.cells #[.bool true] 4 (0, 0))
  bl : Below w.heap.size w W
theorem FirstI.chg {B g1 g2 b N : Nat} {w : World} {xs : List Int} {W W' : World} (h : FirstI B g1 g2 b N w xs W) (hc : Chg (notMine N b) W W') (h1 : g1 < N) (h2 : g2 < N) (hb : N + 2 ≤ b) (hw : w.heap.size ≤ N) : FirstI B g1 g2 b N w xs W' := by
  obtain ⟨⟨A, c, r1, r2, r3⟩, ok, bl⟩ := h
  have hn : ∀ k, k < N → ¬ notMine N b k := fun k hk h => by rcases h with h | h | h <;> omega
  refine ⟨⟨A, c, (hc.block g1 (Array.getElem?_eq_some_iff.1 r1).1 (hn _ h1)).trans r1, r2.flat intS_flat hc (fun k hk h => ?_), r3⟩, (hc.block g2 (Array.getElem?_eq_some_iff.1 ok).1 (hn _ h2)).trans ok, bl.trans (hc.below bl.size fun k hk => ?_)⟩
  · have := r3 k hk
    rcases h with h | h | h <;> omega
  · rcases hk with h | h | h <;> omega
set_option maxRecDepth 100000 in
set_option maxHeartbeats 2000000 in
theorem implReadingFirst_any (A B C : Option Addr) (n c m e0 q d : Nat) (l : List Int) (r page : List (List Int)) (w : World) (hl : Rd intS 0 w.heap.size w A n l) (hr : Rd (sliceS intS) 0 w.heap.size w B m r) (hp : Rd (sliceS intS) 0 w.heap.size w C q page) :
    Calls Try.prog 22 #[.agg #[.slice A n c, .slice B m e0], .slice C q d] w (RetIB w (firstV l r page)) := by
  have L := hid hl
  have R := hid hr
  have PG := hid hp
  clear hl hr hp
  have b0 := bnew w (.cells #[.slice A n c, .slice B m e0] 26)
  have c0 := heap_alloc_new w (.cells #[.slice A n c, .slice B m e0] 26)
  have b1 := bnew (w.alloc (.cells #[.slice A n c, .slice B m e0] 26)) (.cells #[.slice none 0 0] 23)
  have c1 := heap_alloc_new (w.alloc (.cells #[.slice A n c, .slice B m e0] 26)) (.cells #[.slice none 0 0] 23)
  have b2 := bnew ((w.alloc (.cells #[.slice A n c, .slice B m e0] 26)).alloc (.cells #[.slice none 0 0] 23)) (.cells #[.bool false] 4)
  have c2 := heap_alloc_new ((w.alloc (.cells #[.slice A n c, .slice B m e0] 26)).alloc (.cells #[.slice none 0 0] 23)) (.cells #[.bool false] 4)
  simp only [World.size_alloc] at c1 c2
  have z2 : (((w.alloc (.cells #[.slice A n c, .slice B m e0] 26)).alloc (.cells #[.slice none 0 0] 23)).alloc (.cells #[.bool false] 4)).heap.size = w.heap.size + 3 := by simp
  have d0 := ((btr b1 b2).block w.heap.size (by simp)).trans c0
  have d1 := (b2.block (w.heap.size + 1) (by simp)).trans c1
  have B0 := hid (btr b0 (btr b1 b2))
  refine (callsIn_wide (n := 9)).1 (callsIn_of_wp_marks Try.func22 rfl trivial (wpIn_wide.2 ?_) rfl)
  simp only [Try.ntmps22, List.size_toArray, List.length_cons, List.length_nil, Nat.reduceAdd, Nat.reduceSub, Array.replicate_succ, Array.replicate_zero, List.push_toArray, List.append_toArray, List.nil_append, List.cons_append]
  clear b0 c0 b1 c1 b2
  go_wp2_with fail
  generalize ((w.alloc (.cells #[.slice A n c, .slice B m e0] 26)).alloc (.cells #[.slice none 0 0] 23)).alloc (.cells #[.bool false] 4) = w0 at *
  refine (modelAndPage_any A B C n c m e0 q d 0 l r page w0 (L.out.bl B0.out) (R.out.bl B0.out) (PG.out.bl B0.out)).mono ?_
  rintro e w1 ⟨rfl, hb1⟩
  have B1 := hid (btr B0.out hb1)
  have hz1 := hb1.size
  have x0 := (hb1.block w.heap.size (by omega)).trans d0
  have x1 := (hb1.block (w.heap.size + 1) (by omega)).trans d1
  have x2 := (hb1.block (w.heap.size + 1 + 1) (by omega)).trans c2
  have hz2 : w.heap.size < w1.heap.size := by omega
  have hz3 : w.heap.size + 1 < w1.heap.size := by omega
  have hz4 : w.heap.size + 1 + 1 < w1.heap.size := by omega
  have hz5 : w.heap.size + 3 ≤ w1.heap.size := by omega
  obtain ⟨k1, k2, _, _⟩ := at_get' x0
  obtain ⟨y1, f1⟩ := cell_one' x1
  obtain ⟨y2, f2⟩ := cell_one' x2
  have X1 := hid x1
  have X2 := hid x2
  clear hb1 x0 x1 x2 d0 d1 c2 z2
  by_cases hok : bothOk l r page = true
  case neg =>
    have hok' : bothOk l r page = false := by simpa using hok
    have HF := hid (show firstV l r page = none by simp [firstV, hok'])
    rw [hok']
    clear hok
    go_wp2_with fail
    exact ⟨.tuple #[.slice none 0 0, .bool false], by simp [results, Try.results22, go_sem, y1, y2], RetIB.of (by rw [HF.out]; rfl) (by rw [HF.out]; rfl) rfl OwnR.nil0 (bsc (bsc B1.out (by simp <;> omega) _) (by simp <;> omega) _)⟩
  case pos =>
  rw [hok]
  have HOK := hid hok
  clear hok
  go_wp2_with fail
  refine (readings_any _ _ _ _ _ _ _ _ _ _).mono ?_
  rintro e w4 ⟨rfl, rfl⟩
  go_wp2_with fail
  have HF := hid (firstV_reads HOK.out)
  have v0 := heap_alloc_new w1 (.cells #[.slice A n c, .slice B m e0] 26)
  have v1 := heap_alloc_new (w1.alloc (.cells #[.slice A n c, .slice B m e0] 26)) (.cells #[.slice C q d] 24)
  have v2 := btr (bnew w1 (.cells #[.slice A n c, .slice B m e0] 26)) (bnew _ (.cells #[.slice C q d] 24))
  have v3 := ((bnew (w1.alloc (.cells #[.slice A n c, .slice B m e0] 26)) (.cells #[.slice C q d] 24)).block w1.heap.size (by simp)).trans v0
  rw [World.size_alloc] at v1
  have zz : ((w1.alloc (.cells #[.slice A n c, .slice B m e0] 26)).alloc (.cells #[.slice C q d] 24)).heap.size = w1.heap.size + 2 := by simp
  have u1 := (v2.block _ hz3).trans X1.out
  have u2 := (v2.block _ hz4).trans X2.out
  have hbw := btr B1.out v2
  generalize (w1.alloc (.cells #[.slice A n c, .slice B m e0] 26)).alloc (.cells #[.slice C q d] 24) = w5 at *
  obtain ⟨g, hg⟩ : ∃ g, w1.heap.size = g := ⟨_, rfl⟩
  rw [hg] at v1 v3 zz hz1 hz2 hz3 hz4 hz5 ⊢
  obtain ⟨g1, hg1⟩ : ∃ g1, w.heap.size + 1 = g1 := ⟨_, rfl⟩
  obtain ⟨g2, hg2⟩ : ∃ g2, w.heap.size + 1 + 1 = g2 := ⟨_, rfl⟩
  rw [hg2, hg1]
  rw [hg1] at u1 hz3
  rw [hg2] at u2 hz4
  have hg1w : w.heap.size ≤ g1 := by omega
  have hg12 : g1 < g2 := by omega
  have U1 := hid u1
  have U2 := hid u2
  have HBW := hid hbw
  have HG1 := hid (show g1 < w.heap.size + 3 by omega)
  have HG2 := hid (show g2 < w.heap.size + 3 by omega)
  have HNM : Hid (∀ b k, w5.heap.size + 2 ≤ b → notMine w5.heap.size b k → g2 < k) := hid fun b k hb hk => by rcases hk with hk | hk | hk <;> omega
  have HZZ := hid zz
  clear v0 v2 u1 u2 hbw zz hg1 hg2 y1 y2 f1 f2 k1 k2
  refine wp_rangeFunc_chg (gf := 77) (lb := #[.pointer (some ⟨g + 1, 0, none⟩), .pointer (some ⟨g, 0, none⟩)]) rfl (enters_of Try.func77 (by kernel_rfl) rfl)
    (readings_seq w.heap.size (w.heap.size + 3) g (g + 1) A n c B m e0 C q d l r page w5 (L.out.below HBW.out (Nat.le_refl _)) (R.out.below HBW.out (Nat.le_refl _)) (PG.out.below HBW.out (Nat.le_refl _)) v3 v1 HOK.out (by omega) (by omega) (by omega)) (by rw [HZZ.out]; omega)
    (fun b x X X' hb h hc => ⟨h.1.kept (hc.block b h.1.lt (by omega)), h.2⟩)
    (fun _ pre W => pre = [] ∧ W.heap[g1]? = some (.cells #[.slice none 0 0] 23 (0, 0)) ∧ W.heap[g2]? = some (.cells #[.bool false] 4 (0, 0)) ∧ Below w.heap.size w W) (fun c b pre W => c = .ret ∧ ∃ x, pre = [x] ∧ FirstI w.heap.size g1 g2 b w5.heap.size w x W)
    (fun b s X X' hb h hc => ⟨h.1, (hc.block g1 (Array.getElem?_eq_some_iff.1 h.2.1).1 (fun hk => by have := HNM.out b g1 hb hk; omega)).trans h.2.1, (hc.block g2 (Array.getElem?_eq_some_iff.1 h.2.2.1).1 (fun hk => by have := HNM.out b g2 hb hk; omega)).trans h.2.2.1, h.2.2.2.trans (hc.below h.2.2.2.size (fun k hk => by have := HNM.out b k hb hk; omega))⟩)
    (fun c b s X X' hb h hc => ⟨h.1, by obtain ⟨x, hx, hf⟩ := h.2; exact ⟨x, hx, hf.chg hc (by rw [HZZ.out]; omega) (by rw [HZZ.out]; omega) hb (by rw [HZZ.out]; omega)⟩⟩) (fun b hb => ⟨rfl, U1.out, U2.out, HBW.out⟩)
    (fun b => { tmps := #[.agg #[.slice A n c, .slice B m e0], .slice C q d, .pointer (some ⟨w.heap.size, 0, none⟩), undef, .pointer (some ⟨g1, 0, none⟩), .pointer (some ⟨g2, 0, none⟩), .slice (some ⟨b, 0, none⟩) q q, .agg #[.slice A n c, .slice B m e0], .slice C q d, .bool true, .bool false, .agg #[.slice A n c, .slice B m e0], .slice C q d, .func (.func 77) #[] #[.pointer (some ⟨g + 1, 0, none⟩), .pointer (some ⟨g, 0, none⟩)], .slice (some ⟨b, 0, none⟩) q q, undef, undef], defers := [] }) ?assign ?body ?done ?stop
  case assign =>
    intro l' b W K hK
    gi_wp2_with fail
    exact hK
  case body =>
    rintro l' b pre x W hb - ⟨hW0, hW1, hW2, hW3⟩ ⟨hr1, hr2⟩ hpre
    subst hW0
    obtain ⟨y1, f1⟩ := cell_one' hW1
    obtain ⟨y2, f2⟩ := cell_one' hW2
    have hbl := hr1.lt
    have hq20 : q ≤ 1048576 := by rw [PG.out.1]; have := (pageOk_yes (bothOk_yes HOK.out).2).1; omega
    have hrd := hr1.rd (by omega)
    rw [hr2] at hrd
    have HRD := hid hrd
    have HR2 := hid hr2
    have HW := hid (And.intro hW1 (And.intro hW2 hW3))
    have hzW := hW3.size
    have hlt1 := (Array.getElem?_eq_some_iff.1 hW1).1
    have hlt2 := (Array.getElem?_eq_some_iff.1 hW2).1
    clear hW1 hW2 hW3 hr1 hr2 hpre hrd
    gi_wp2_with (refine ⟨trivial, ?_⟩; gi_at_call 57; refine (CallsIn.inRound l' (callsIn_wide.2 (clone_own b 0 q q 0 x W HRD.out hq20))).mono ?_; rintro e w2 ⟨A', d', rfl, hO, hA, hb2⟩; have z1 := bcl hb2 y1; have z2 := bcl hb2 y2; have e1 := (hb2.frozen (p := ⟨g1, 0, none⟩) hlt1).trans f1; have e2 := (hb2.frozen (p := ⟨g2, 0, none⟩) hlt2).trans f2; have HO := hid hO; have HB2 := hid hb2; clear hO hb2 hA)
    have q1 := (set_other (w := w2) (b := g2) (k := g1) (o := 0) (v := .bool true) (by omega))
    have h1 := (HB2.out.block g1 hlt1).trans HW.out.1
    have h2 := (HB2.out.block g2 hlt2).trans HW.out.2.1
    have h3 : ((w2.setCell ⟨g1, 0, none⟩ (.slice A' q d')).setCell ⟨g2, 0, none⟩ (.bool true)).heap[g1]? = some (.cells #[.slice A' q d'] 23 (0, 0)) := (set_other (by omega)).trans (set_one h1)
    have h4 : ((w2.setCell ⟨g1, 0, none⟩ (.slice A' q d')).setCell ⟨g2, 0, none⟩ (.bool true)).heap[g2]? = some (.cells #[.bool true] 4 (0, 0)) := set_one ((set_other (by omega)).trans h2)
    have hc : Chg (fun k => k = g1 ∨ k = g2) w2 ((w2.setCell ⟨g1, 0, none⟩ (.slice A' q d')).setCell ⟨g2, 0, none⟩ (.bool true)) := ((Chg.refl _ _).set (.inl rfl) _).set (.inr rfl) _
    have hO2 := HO.out.flat intS_flat hc fun k hk h => by have := (HO.out.own_lt hk).1; omega
    have hcb : Chg (fun _ => False) W w2 := ⟨HB2.out.os, HB2.out.tape, HB2.out.output, HB2.out.size, fun k hk _ => HB2.out.block k hk⟩
    refine ⟨(hcb.wide fun k hk => hk.elim).trans (hc.wide fun k hk => ?_), rfl, x, rfl, ⟨⟨A', d', by rw [HR2.out]; exact h3, by rw [HR2.out]; exact hO2.low hzW, fun k hk => ?_⟩, h4, (HW.out.2.2.trans (HB2.out.mono hzW)).trans (hc.below (by have := HB2.out.size; omega) fun k hk => by omega)⟩⟩
    · show w.heap.size ≤ k ∧ k < w.heap.size + 3
      have a1 := HG1.out
      have a2 := HG2.out
      omega
    · rw [HR2.out] at hk
      have := (HO.out.own_lt hk).1
      omega
  case done =>
    rintro b W hb ⟨hW0, hW1, hW2, hW3⟩ hK
    obtain ⟨y1, f1⟩ := cell_one' hW1
    obtain ⟨y2, f2⟩ := cell_one' hW2
    have HN := hid (show firstV l r page = none by rw [HF.out, hW0]; rfl)
    have HW := hid (And.intro hW1 (And.intro hW2 (And.intro hW3 hK)))
    clear hW0 hW1 hW2 hW3 hK
    go_wp2_with fail
    have h3 : ((W.setCell ⟨g1, 0, none⟩ (.slice none 0 0)).setCell ⟨g2, 0, none⟩ (.bool false)).heap[g1]? = some (.cells #[.slice none 0 0] 23 (0, 0)) := (set_other (by omega)).trans (set_one HW.out.1)
    have h4 : ((W.setCell ⟨g1, 0, none⟩ (.slice none 0 0)).setCell ⟨g2, 0, none⟩ (.bool false)).heap[g2]? = some (.cells #[.bool false] 4 (0, 0)) := set_one ((set_other (by omega)).trans HW.out.2.1)
    have hk2 : ((W.setCell ⟨g1, 0, none⟩ (.slice none 0 0)).setCell ⟨g2, 0, none⟩ (.bool false)).heap[w5.heap.size]? = some (.deferred (some [])) := (set_other (by have := HZZ.out; omega)).trans ((set_other (by have := HZZ.out; omega)).trans HW.out.2.2.2)
    have hbb : Below w.heap.size w ((W.setCell ⟨g1, 0, none⟩ (.slice none 0 0)).setCell ⟨g2, 0, none⟩ (.bool false)) := (HW.out.2.2.1.setCell (p := ⟨g1, 0, none⟩) hg1w _).setCell (p := ⟨g2, 0, none⟩) (by show w.heap.size ≤ g2; omega) _
    generalize (W.setCell ⟨g1, 0, none⟩ (.slice none 0 0)).setCell ⟨g2, 0, none⟩ (.bool false) = W2 at *
    refine ⟨by simp, .inl ⟨_, _, rfl, run_takeDeferred hk2, ?_⟩⟩
    have p1 := (cell_one' ((World.putObj_heap_other (w := W2) (r := w5.heap.size) (o := .deferred none) (show g1 ≠ w5.heap.size by have := HZZ.out; omega)).trans h3)).1
    have p2 := (cell_one' ((World.putObj_heap_other (w := W2) (r := w5.heap.size) (o := .deferred none) (show g2 ≠ w5.heap.size by have := HZZ.out; omega)).trans h4)).1
    exact ⟨.tuple #[.slice none 0 0, .bool false], by simp [results, Try.results22, go_sem, p1, p2], RetIB.of (by rw [HN.out]; rfl) (by rw [HN.out]; rfl) rfl OwnR.nil0 (below_putObj _ hbb (by have := HZZ.out; omega))⟩
  case stop =>
    rintro _ b pre W hb hpre ⟨rfl, x, rfl, ⟨⟨A', c', r1, r2, r3⟩, ok, bl⟩⟩ hK
    go_wp2_with fail
    have HN := hid (show firstV l r page = some x by
      rw [HF.out]
      obtain ⟨t, ht⟩ := hpre
      rw [← ht]
      rfl)
    refine ⟨by simp, .inl ⟨_, _, rfl, run_takeDeferred hK, ?_⟩⟩
    have p1 := (cell_one' ((World.putObj_heap_other (w := W) (r := w5.heap.size) (o := .deferred none) (show g1 ≠ w5.heap.size by have := HZZ.out; omega)).trans r1)).1
    have p2 := (cell_one' ((World.putObj_heap_other (w := W) (r := w5.heap.size) (o := .deferred none) (show g2 ≠ w5.heap.size by have := HZZ.out; omega)).trans ok)).1
    exact ⟨.tuple #[.slice A' x.length c', .bool true], by simp [results, Try.results22, go_sem, p1, p2], RetIB.of (by rw [HN.out]; rfl) (by rw [HN.out]; rfl) rfl (r2.flat intS_flat (chg_putObj _ _ _) fun k hk h => by have := r3 k hk; omega) (below_putObj _ bl (by have := HZZ.out; omega))⟩
end Go.Proofs.Ytfjoininagdlcaa
