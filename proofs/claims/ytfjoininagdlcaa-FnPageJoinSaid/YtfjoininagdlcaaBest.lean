/- ReadingBest: what the reference's functions return. -/
import Derived.Test.YtfjoininagdlcaaPagePure
import Derived.Test.YtfjoininagdlcaaFirst
namespace Go.Proofs.Ytfjoininagdlcaa
open Go.RowKit Go.Shelf
def mostStep (l : List Int) (r ps : List (List Int)) (b best y : Int) : Int := if 0 < wgt l r b y ∧ 0 ≤ mostOf l r ps y then max best (wgt l r b y + mostOf l r ps y) else best
theorem most_cons (l : List Int) (r : List (List Int)) (p : List Int) (ps : List (List Int)) (b : Int) : mostOf l r (p :: ps) b = p.foldl (mostStep l r ps b) (-1) := rfl
theorem fold_take {f : Int → Int → Int} {p : List Int} {k : Nat} {z : Int} (h : k < p.length) : (p.take (k + 1)).foldl f z = f ((p.take k).foldl f z) (gt p k) := by
  rw [take_gt h, List.foldl_append]; rfl
set_option maxRecDepth 100000 in
set_option maxHeartbeats 2000000 in
theorem l5Most_any (A B C : Option Addr) (n c m e0 q d lo : Nat) (l : List Int) (r page : List (List Int)) (hok : bothOk l r page = true) (ps : List (List Int)) :
    ∀ (front : List (List Int)) (b : Int) (w : World), page = front ++ ps → b < n → Rd intS lo w.heap.size w A n l → Rd (sliceS intS) lo w.heap.size w B m r → Rd (sliceS intS) lo w.heap.size w C q page →
    Calls Try.prog 64 #[.agg #[.slice A n c, .slice B m e0], .slice C q d, .int .i64 (front.length : Nat), .int .i64 b] w fun e w' => e = .returned (.int .i64 (mostOf l r ps b)) ∧ Below w.heap.size w w' := by
  induction ps with
  | nil =>
    intro front b w hpage hb hl hr hp
    have hq : front.length = q := by rw [hp.1, hpage, List.append_nil]
    have HM := hid (show mostOf l r [] b = 0 from rfl)
    rw [hq]
    clear hp hl hr hpage hb hq hok
    go_enter Try.func64, Try.ntmps64
    go_wp2_with fail
    go_ret
    exact ⟨ret_int HM.out.symm, bnew _ _⟩
  | cons p ps ih =>
    intro front b w hpage hb hl hr hp
    have hok2 := pageOk_yes (bothOk_yes hok).2
    have hmost := most_le (bothOk_yes hok).1 ps
    have HMOST := hid (show ∀ x ∈ p, mostOf l r ps x ≤ 72 from fun x hx => by
      have h1 := hmost x ((hok2.2 p (by rw [hpage]; simp)).2 x hx).2 (fun q hq => (hok2.2 q (by rw [hpage]; simp [hq])).2)
      have h2 := hok2.1
      rw [hpage] at h2
      simp at h2
      omega)
    clear hmost
    have hpx := hid (show ∀ x ∈ p, 0 ≤ x ∧ x < (n : Int) from fun x hx => by rw [hl.1]; exact (hok2.2 p (by rw [hpage]; simp)).2 x hx)
    have hq8 : q ≤ 8 := by rw [hp.1]; exact hok2.1
    obtain ⟨t, ht⟩ : ∃ t, front.length = t := ⟨_, rfl⟩
    have htq : t < q := by rw [hp.1, hpage]; simp; omega
    have htqi : (t : Int) < (q : Int) := by omega
    have tneq : ((t : Int) == (q : Int)) = false := by simp; omega
    have hgt : gt page t = p := by rw [hpage, ← ht]; simp [gt]
    have hp3 := hp.2.2
    obtain ⟨bp, op, hC, _, hbp, hcp⟩ := hp3 (by omega)
    subst hC
    obtain ⟨RA, rc, rcell, _, hrow⟩ := hcp.row htq
    rw [hgt] at rcell hrow
    have hp63 := hrow.2.1
    have HROW := hid hrow
    have L := hid hl
    have R := hid hr
    have PG := hid hp
    have HP := hid hpage
    have HT := hid ht
    have HB := hid hb
    have HOK := hid hok
    have IH := hid ih
    rw [ht]
    clear hl hr hp hpage ht hb hok ih hok2 hgt hp3 hcp hrow
    have b0 := bnew w (.cells #[.slice A n c, .slice B m e0] 26)
    have c0 := heap_alloc_new w (.cells #[.slice A n c, .slice B m e0] 26)
    have z0 : (w.alloc (.cells #[.slice A n c, .slice B m e0] 26)).heap.size = w.heap.size + 1 := by simp
    go_enter Try.func64, Try.ntmps64
    go_wp2_with fail
    generalize w.alloc (.cells #[.slice A n c, .slice B m e0] 26) = w1 at *
    have B0 := hid b0
    have C0 := hid c0
    have Z0 := hid z0
    clear b0 c0 z0
    go_loopg [9, 10] p.length (fun gk s i wr => ∃ (k : Nat) (z : Int), k + gk = p.length ∧ i = .int .i64 k ∧ s = .int .i64 z ∧ z = (p.take k).foldl (mostStep l r ps b) (-1) ∧ -1 ≤ z ∧ z ≤ 100 ∧ Below w1.heap.size w1 wr)
    case atStart => exact ⟨0, -1, Nat.zero_add _, rfl, rfl, rfl, by omega, by omega, Below.refl _ _⟩
    case round =>
      obtain ⟨k, z, hkg, rfl, rfl, hz, hz1, hz2, hbr⟩ := hrel
      have HKG := hid hkg
      have HZ := hid hz
      have hk : k ≤ p.length := by omega
      have hbw := btr B0.out hbr
      have HBW := hid hbw
      have cp := bcl hbw rcell
      clear hkg hz hbw
      have hzs := hbr.size
      have q1 := bcl hbr (show w1.cell? ⟨w.heap.size, 0, none⟩ = some (.slice A n c) from (at_get' C0.out).1)
      have q2 := bcl hbr (show w1.cell? ⟨w.heap.size, 1, none⟩ = some (.slice B m e0) from (at_get' C0.out).2.1)
      have hm1 := aft_cell (block_lt_of_cell q1) q1
      have hm2 := aft_cell (block_lt_of_cell q2) q2
      by_cases hlt : k < p.length
      case neg =>
        obtain rfl : k = p.length := by omega
        have HF := hid (show mostOf l r (p :: ps) b = z by rw [most_cons, HZ.out, List.take_length])
        clear hm1 hm2
        go_wp2_with fail
        go_ret
        exact ⟨ret_int HF.out.symm, B0.out.trans (hbr.mono B0.out.size)⟩
      case pos =>
        have hki : (k : Int) < (p.length : Int) := by omega
        obtain ⟨bx, ox, rfl, _, hbx, hcx⟩ := HROW.out.2.2 (by omega)
        have cx := bcl HBW.out (hcx.int hlt)
        obtain ⟨x, hxe⟩ : ∃ x, gt p k = x := ⟨_, rfl⟩
        rw [hxe] at cx
        have hxm : x ∈ p := hxe ▸ gt_mem hlt
        obtain ⟨hx0, hxn⟩ := hpx.out x hxm
        have HXE := hid hxe
        have HZS := hid (fold_take (f := mostStep l r ps b) (z := -1) hlt)
        obtain ⟨v, hv⟩ : ∃ v, wgt l r b x = v := ⟨_, rfl⟩
        have hvb : 0 ≤ v ∧ v ≤ 9 := by rw [← hv]; exact wgt_bd (bothOk_yes HOK.out).1 (by rw [← L.out.1]; exact HB.out) hx0 (by rw [← L.out.1]; exact hxn)
        obtain ⟨v0, v9⟩ := hvb
        have HV := hid hv
        obtain ⟨V, hV⟩ : ∃ V, mostOf l r ps x = V := ⟨_, rfl⟩
        have hV1 : -1 ≤ V := by rw [← hV]; exact most_ge l r ps x
        have hV2 : V ≤ 72 := by rw [← hV]; exact HMOST.out x hxm
        have HVV := hid hV
        have hrr := aft_cell (block_lt_of_cell cp) cp
        have hxr := aft_cell (block_lt_of_cell cx) cx
        have CALL := hid fun X : Aft wr.heap.size wr => aft_call ((l5Weight_any A B n c m e0 lo l r b x X.val ((L.out.bl HBW.out).bl X.prop) ((R.out.bl HBW.out).bl X.prop) (bothOk_yes HOK.out).1 HB.out hx0 hxn).mono fun e w' h => (show e = .returned (.int .i64 v) ∧ Below X.val.heap.size X.val w' from ⟨by rw [h.1, HV.out], h.2⟩)) (Nat.le_refl _)
        have HX := hid (And.intro hx0 hxn)
        clear hcx hxe hv hx0 hxn hV hxm
        go_wp2_with fail
        refine wp_region_aft (Below.refl wr.heap.size wr) (by kernel_rfl) (by kernel_rfl) ?_
        repeat (go_big_quiet_step ((go_at_call 61; exact CALL.out _)))
        refine wpQuiet_nil ?_
        rintro w3 ⟨⟨_, hb3⟩, rfl⟩
        have hbr3 := btr hbr hb3
        have hc3 := bcl hb3 cp
        have hx3 := bcl hb3 cx
        have q13 := bcl hb3 q1
        have q23 := bcl hb3 q2
        clear hm1 hm2 hrr hxr CALL cp cx hzs q1 q2
        have hbw3 := hid (btr B0.out hbr3)
        have hm1 := aft_cell (block_lt_of_cell q13) q13
        have hm2 := aft_cell (block_lt_of_cell q23) q23
        have hrr := aft_cell (block_lt_of_cell hc3) hc3
        have hxr := aft_cell (block_lt_of_cell hx3) hx3
        have CALL := hid fun X : Aft w3.heap.size w3 => aft_call ((IH.out (front ++ [p]) x X.val (by rw [HP.out]; simp) HX.out.2 ((L.out.bl hbw3.out).bl X.prop) ((R.out.bl hbw3.out).bl X.prop) ((PG.out.bl hbw3.out).bl X.prop)).mono fun e w' h => (show e = .returned (.int .i64 V) ∧ Below X.val.heap.size X.val w' from ⟨by rw [h.1, HVV.out], h.2⟩)) (Nat.le_refl _)
        have hfl : (front ++ [p]).length = t + 1 := by rw [List.length_append, HT.out]; rfl
        rw [hfl] at CALL
        have s1 : IntKind.i64.wrap ((t : Int) + 1) = ((t + 1 : Nat) : Int) := IntWalk.i64_in _ (by omega)
        clear hfl
        go_wp2_with fail
        refine wp_region_aft (Below.refl w3.heap.size w3) (by kernel_rfl) (by kernel_rfl) ?_
        repeat (go_big_quiet_step ((go_at_call 64; exact CALL.out _)))
        refine wpQuiet_nil ?_
        rintro w4 ⟨⟨_, hb4⟩, rfl⟩
        have hbr4 := btr hbr3 hb4
        clear hm1 hm2 hrr hxr CALL hc3 hx3 s1 q13 q23
        have HN := hid (show (p.take (k + 1)).foldl (mostStep l r ps b) (-1) = if 0 < v ∧ 0 ≤ V then max z (v + V) else z by rw [HZS.out, ← HZ.out, HXE.out, mostStep, HV.out, HVV.out])
        by_cases hpos : 0 < v
        case neg =>
          have HF := hid (show (p.take (k + 1)).foldl (mostStep l r ps b) (-1) = z by rw [HN.out, if_neg (fun h => hpos h.1)])
          go_wp2_with fail
          go_roundg (gk - 1)
          case measure => have := HKG.out; omega
          case rel => exact ⟨k + 1, z, by have := HKG.out; omega, by go_num, rfl, HF.out.symm, hz1, hz2, hbr4⟩
        case pos =>
          by_cases hposV : 0 ≤ V
          case neg =>
            have HF := hid (show (p.take (k + 1)).foldl (mostStep l r ps b) (-1) = z by rw [HN.out, if_neg (fun h => hposV h.2)])
            go_wp2_with fail
            go_roundg (gk - 1)
            case measure => have := HKG.out; omega
            case rel => exact ⟨k + 1, z, by have := HKG.out; omega, by go_num, rfl, HF.out.symm, hz1, hz2, hbr4⟩
          case pos =>
            have HF := hid (show (p.take (k + 1)).foldl (mostStep l r ps b) (-1) = max z (v + V) by rw [HN.out, if_pos ⟨hpos, hposV⟩])
            go_wp2_with fail
            all_goals
              go_roundg (gk - 1)
              case measure => have := HKG.out; omega
              case rel => exact ⟨k + 1, max z (v + V), by have := HKG.out; omega, by go_num, (by first | rfl | (congr 1; omega)), HF.out.symm, by omega, by omega, hbr4⟩
set_option maxRecDepth 100000 in
set_option maxHeartbeats 4000000 in
theorem specReadingBest_any (A B C : Option Addr) (n c m e0 q d lo : Nat) (l : List Int) (r page : List (List Int)) (w : World) (hl : Rd intS lo w.heap.size w A n l) (hr : Rd (sliceS intS) lo w.heap.size w B m r) (hp : Rd (sliceS intS) lo w.heap.size w C q page) :
    Calls Try.prog 28 #[.agg #[.slice A n c, .slice B m e0], .slice C q d] w (RetIB w (bestV l r page)) := by
  obtain ⟨i0, hi1, hz0, hz1, hz2⟩ := info_parts (show (Try.prog.info? 3).map (fun i => (i.zero, i.size, i.bytes)) = some (some (.int .i64 0), 1, 8) by kernel_rfl)
  have HI := hid (And.intro hi1 (And.intro hz0 (And.intro hz1 hz2)))
  clear hi1 hz0 hz1 hz2
  have L := hid hl
  have R := hid hr
  have PG := hid hp
  clear hl hr hp
  have b0 := bnew w (.cells #[.slice A n c, .slice B m e0] 26)
  have c0 := heap_alloc_new w (.cells #[.slice A n c, .slice B m e0] 26)
  have z0 : (w.alloc (.cells #[.slice A n c, .slice B m e0] 26)).heap.size = w.heap.size + 1 := by simp
  have B0 := hid b0
  have C0 := hid c0
  have Z0 := hid z0
  clear b0 c0 z0
  go_enter Try.func28, Try.ntmps28
  go_wp2_with fail
  have b1 := bnew (w.alloc (.cells #[.slice A n c, .slice B m e0] 26)) (.cells #[] 3)
  have hO0 := OwnR.nil (S := intS) (base := w.heap.size + 1) (w := w.alloc (.cells #[.slice A n c, .slice B m e0] 26)) (e := 3) (by simp) #[] rfl
  rw [Z0.out] at hO0
  have hc1 := (b1.block w.heap.size (by rw [Z0.out]; omega)).trans C0.out
  have z1 : ((w.alloc (.cells #[.slice A n c, .slice B m e0] 26)).alloc (.cells #[] 3)).heap.size = w.heap.size + 2 := by simp
  have B1 := hid (btr B0.out b1)
  have HO0 := hid hO0
  have C1 := hid hc1
  generalize (w.alloc (.cells #[.slice A n c, .slice B m e0] 26)).alloc (.cells #[] 3) = w1 at *
  clear b1 hO0 hc1
  refine (specReadingsMany_any A B C n c m e0 q d lo l r page w1 (L.out.bl B1.out) (R.out.bl B1.out) (PG.out.bl B1.out)).mono ?_
  rintro e w2 ⟨rfl, hb2⟩
  have B2 := hid (btr B1.out hb2)
  have cc := (hb2.block w.heap.size (by omega)).trans C1.out
  have hz2 := hb2.size
  have HO2 := hid (HO0.out.bl hb2)
  have CC := hid cc
  obtain ⟨k1, k2, _, _⟩ := at_get' cc
  clear hb2 cc
  obtain ⟨M, hM⟩ : ∃ M, manyV l r page = M := ⟨_, rfl⟩
  rw [hM]
  by_cases hM1 : M < 1
  case pos =>
    have HF := hid (show bestV l r page = none by
      unfold bestV
      rw [if_neg]
      intro h
      rw [Bool.and_eq_true, decide_eq_true_eq] at h
      rw [manyV, if_pos h.1] at hM
      omega)
    clear hM
    go_wp2_with fail
    go_ret2
    exact RetIB.of (by rw [HF.out]; rfl) (by rw [HF.out]; rfl) rfl (HO2.out.low (by omega)) B2.out
  case neg =>
  have hok : bothOk l r page = true := by
    cases h : bothOk l r page with
    | true => rfl
    | false => rw [manyV, h] at hM; simp at hM; omega
  have hpos0 : 0 < manyOf l r page (-1) := by rw [manyV, if_pos hok] at hM; omega
  have HF := hid (show bestV l r page = some (bestOf l r page (-1)) by unfold bestV; rw [if_pos (by simp [hok, hpos0])])
  have hok2 := pageOk_yes (bothOk_yes hok).2
  have HOK := hid hok
  have HOK2 := hid hok2.2
  have hq8 : q ≤ 8 := by rw [PG.out.1]; exact hok2.1
  have hqp := hid PG.out.1
  have HP0 := hid hpos0
  clear hM hok hpos0 hok2
  go_wp2_with fail
  go_loopg [6, 7, 8] q (fun gk out before at_ wr => ∃ (k : Nat) (bb : Int) (xs : List Int) (A' : Option Addr) (c' : Nat), k + gk = q ∧ at_ = .int .i64 k ∧ before = .int .i64 bb ∧ out = .slice A' xs.length c' ∧ xs.length = k ∧ OwnR intS (w.heap.size + 1) wr 3 (.slice A' xs.length c') xs ∧ xs ++ bestOf l r (page.drop k) bb = bestOf l r page (-1) ∧ bb < n ∧ 0 ≤ mostOf l r (page.drop k) bb ∧ Below (w.heap.size + 1) w2 wr)
  case atStart => exact ⟨0, -1, [], _, _, Nat.zero_add _, rfl, rfl, rfl, rfl, HO2.out, rfl, by omega, (most_many l r page (-1)).2 HP0.out, Below.refl _ _⟩
  case round =>
    obtain ⟨k, bb, xs, A', c', hkg, rfl, rfl, rfl, hxl, hO, hfx, hbn, hmp, hbr⟩ := hrel
    have HKG := hid hkg
    have HXL := hid hxl
    have HFX := hid hfx
    have HMP := hid hmp
    have HO := hid hO
    have hk : k ≤ q := by omega
    have hxs8 : xs.length ≤ 8 := by omega
    have hbw := B2.out.trans (hbr.mono (by omega))
    clear hkg hxl hfx hmp hO
    by_cases hlt : k < q
    case neg =>
      obtain rfl : k = q := by omega
      have HE := hid (show xs = bestOf l r page (-1) by
        have := HFX.out
        rw [List.drop_eq_nil_of_le (by rw [hqp.out]; omega)] at this
        simpa [bestOf] using this)
      go_wp2_with fail
      go_ret2
      exact RetIB.of (by rw [HF.out]; exact HE.out.symm) (by rw [HF.out]; rfl) rfl (HO.out.low (by omega)) hbw
    case pos =>
      have hki : (k : Int) < (q : Int) := by omega
      have hkp : k < page.length := by rw [← hqp.out]; exact hlt
      obtain ⟨p, hpe⟩ : ∃ p, gt page k = p := ⟨_, rfl⟩
      have hdk : page.drop k = p :: page.drop (k + 1) := by rw [drop_gt hkp, hpe]
      have hpx := hid (show ∀ x ∈ p, 0 ≤ x ∧ x < (n : Int) from fun x hx => by rw [L.out.1]; exact (HOK2.out p (hpe ▸ gt_mem hkp)).2 x hx)
      have hm2 := HMP.out
      rw [hdk] at hm2
      obtain ⟨x, hax, hxm, hxc, hxw, hxmost, hfind⟩ := best_pick hm2
      have HMK := hid (show mostOf l r (page.drop k) bb = mostOf l r (p :: page.drop (k + 1)) bb by rw [hdk])
      obtain ⟨Mk, hMk⟩ : ∃ Mk, mostOf l r (p :: page.drop (k + 1)) bb = Mk := ⟨_, rfl⟩
      have hMk0 : 0 ≤ Mk := by rw [← hMk]; exact hm2
      have hMk1 : Mk ≤ 72 := by
        rw [← hMk, ← hdk]
        have h1 := most_le (bothOk_yes HOK.out).1 (page.drop k) bb (by rw [← L.out.1]; exact hbn) (fun q hq => (HOK2.out q (List.mem_of_mem_drop hq)).2)
        have h2 := hqp.out
        simp at h1
        omega
      have HMOST := hid (show ∀ y ∈ p, mostOf l r (page.drop (k + 1)) y ≤ 72 from fun y hy => by
        have h1 := most_le (bothOk_yes HOK.out).1 (page.drop (k + 1)) y ((HOK2.out p (hpe ▸ gt_mem hkp)).2 y hy).2 (fun q hq => (HOK2.out q (List.mem_of_mem_drop hq)).2)
        have h2 := hqp.out
        simp at h1
        omega)
      rw [hMk] at hfind HMK
      have HNEW := hid (show xs ++ [x] ++ bestOf l r (page.drop (k + 1)) x = bestOf l r page (-1) by rw [← HFX.out, hdk, bestOf_cons hm2 hax]; simp)
      obtain ⟨bp, op, rfl, _, hbp, hcp⟩ := PG.out.2.2 (by omega)
      obtain ⟨RA, rc, rcell, _, hrow⟩ := hcp.row hlt
      rw [hpe] at rcell hrow
      have hp63 := hrow.2.1
      have HROW := hid hrow
      have HXN := hid (hpx.out x hxm)
      have HXMOST := hid hxmost
      have HFIND := hid hfind
      have PRE : Hid (page = page.take k ++ p :: page.drop (k + 1)) := hid (by rw [← hdk, List.take_append_drop])
      have PRE0 : Hid (page = page.take k ++ page.drop k) := hid (by rw [List.take_append_drop])
      have HTK := hid (show (page.take k ++ [p]).length = k + 1 by simp; omega)
      have HTK0 := hid (show (page.take k).length = k by simp; omega)
      have HBW := hid hbw
      have q0 := (hbr.cell (p := ⟨w.heap.size, 0, none⟩) (Nat.lt_succ_self _)).trans k1
      have q00 := (hbr.cell (p := ⟨w.heap.size, 1, none⟩) (Nat.lt_succ_self _)).trans k2
      clear hpe hdk hm2 hfind hxm hxc hxw hax hxmost hcp hrow hbw hMk
      go_wp2_with fail
      have hcm := l5Most_any A B (some ⟨bp, op, none⟩) n c m e0 q d lo l r page HOK.out (page.drop k) (page.take k) bb wr PRE0.out hbn (L.out.bl HBW.out) (R.out.bl HBW.out) (PG.out.bl HBW.out)
      rw [HTK0.out, HMK.out] at hcm
      refine hcm.mono ?_
      clear hcm
      rintro e wq ⟨rfl, hbq⟩
      have HBWq := hid (btr HBW.out hbq)
      have hzq := hbq.size
      have hzw := hbr.size
      have hbrq : Below (w.heap.size + 1) w2 wq := hbr.trans (hbq.mono (by omega))
      have HOq := hid (HO.out.bl hbq)
      clear hbq q0 q00 hzq hzw
      go_wp2_with fail
      obtain ⟨wo, hwo⟩ : ∃ wo : World, wo = wq := ⟨_, rfl⟩
      obtain ⟨go_, hgo⟩ : ∃ g : Nat, g = gk := ⟨_, rfl⟩
      rw [← hwo] at hbrq HOq HBWq ⊢
      rw [← hgo] at HKG
      have HGO := hid hgo
      clear hwo hgo hbr HO HBW
      go_loopg [7, 10] p.length (fun gk2 bv kv wr => ∃ j : Nat, j + gk2 = p.length ∧ kv = .int .i64 j ∧ bv = .int .i64 bb ∧ (p.drop j).find? (fun y => decide (candV l r (page.drop (k + 1)) bb y = Mk)) = some x ∧ Below wo.heap.size wo wr)
      case atStart => exact ⟨0, Nat.zero_add _, rfl, rfl, HFIND.out, Below.refl _ _⟩
      case round =>
        obtain ⟨j, hjg, rfl, rfl, hfj, hbx⟩ := hrel
        have HJG := hid hjg
        have HFJ := hid hfj
        have hj : j ≤ p.length := by omega
        have hjl : j < p.length := by
          by_cases h : j < p.length
          · exact h
          · rw [List.drop_eq_nil_of_le (show p.length ≤ j by omega)] at hfj; cases hfj
        have hji : (j : Int) < (p.length : Int) := by omega
        clear hjg hfj
        have hbwx := btr HBWq.out hbx
        have cp := bcl hbwx rcell
        obtain ⟨bx, ox, rfl, _, hbbx, hcx⟩ := HROW.out.2.2 (by omega)
        have cx := bcl hbwx (hcx.int hjl)
        obtain ⟨y, hye⟩ : ∃ y, gt p j = y := ⟨_, rfl⟩
        rw [hye] at cx
        have hym : y ∈ p := hye ▸ gt_mem hjl
        obtain ⟨hy0, hyn⟩ := hpx.out y hym
        have HFD := hid (find_drop (g := fun y => decide (candV l r (page.drop (k + 1)) bb y = Mk)) hjl)
        have HYE := hid hye
        have HBWX := hid hbwx
        clear hcx hye hbwx
        have hzx := hbx.size
        have hzr := hbrq.size
        have q1 := bcl hbx ((hbrq.cell (p := ⟨w.heap.size, 0, none⟩) (Nat.lt_succ_self _)).trans k1)
        have q2 := bcl hbx ((hbrq.cell (p := ⟨w.heap.size, 1, none⟩) (Nat.lt_succ_self _)).trans k2)
        have hm1 := aft_cell (block_lt_of_cell q1) q1
        have hm2 := aft_cell (block_lt_of_cell q2) q2
        have hrr := aft_cell (block_lt_of_cell cp) cp
        have hxr := aft_cell (block_lt_of_cell cx) cx
        obtain ⟨v, hv⟩ : ∃ v, wgt l r bb y = v := ⟨_, rfl⟩
        obtain ⟨V, hV⟩ : ∃ V, mostOf l r (page.drop (k + 1)) y = V := ⟨_, rfl⟩
        have hvb : 0 ≤ v ∧ v ≤ 9 := by rw [← hv]; exact wgt_bd (bothOk_yes HOK.out).1 (by rw [← L.out.1]; exact hbn) hy0 (by rw [← L.out.1]; exact hyn)
        obtain ⟨v0, v9⟩ := hvb
        have hV1 : -1 ≤ V := by rw [← hV]; exact most_ge l r _ y
        have hV2 : V ≤ 72 := by rw [← hV]; exact HMOST.out y hym
        have HV := hid (And.intro hv hV)
        have CALL1 := hid fun X : Aft wr.heap.size wr => aft_call ((l5Weight_any A B n c m e0 lo l r bb y X.val ((L.out.bl HBWX.out).bl X.prop) ((R.out.bl HBWX.out).bl X.prop) (bothOk_yes HOK.out).1 hbn hy0 hyn).mono fun e w' h => (show e = .returned (.int .i64 v) ∧ Below X.val.heap.size X.val w' from ⟨by rw [h.1, HV.out.1], h.2⟩)) (Nat.le_refl _)
        clear hv hV hym
        go_wp2_with fail
        refine wp_region_aft (Below.refl wr.heap.size wr) (by kernel_rfl) (by kernel_rfl) ?_
        repeat (go_big_quiet_step ((go_at_call 61; exact CALL1.out _)))
        refine wpQuiet_nil ?_
        rintro w3 ⟨⟨_, hb3⟩, rfl⟩
        have hbx3 := btr hbx hb3
        have cp3 := bcl hb3 cp
        have cx3 := bcl hb3 cx
        have q13 := bcl hb3 q1
        have q23 := bcl hb3 q2
        clear hm1 hm2 hrr hxr CALL1 cp cx q1 q2 hzx
        go_wp2_with fail
        have HB3 := hid (btr HBWq.out hbx3)
        have hm1 := aft_cell (block_lt_of_cell q13) q13
        have hm2 := aft_cell (block_lt_of_cell q23) q23
        have hrr := aft_cell (block_lt_of_cell cp3) cp3
        have hxr := aft_cell (block_lt_of_cell cx3) cx3
        have CALL2 := hid fun X : Aft w3.heap.size w3 => aft_call ((l5Most_any A B (some ⟨bp, op, none⟩) n c m e0 q d lo l r page HOK.out (page.drop (k + 1)) (page.take k ++ [p]) y X.val (by have := PRE.out; rw [List.append_assoc]; exact this) hyn ((L.out.bl HB3.out).bl X.prop) ((R.out.bl HB3.out).bl X.prop) ((PG.out.bl HB3.out).bl X.prop)).mono fun e w' h => (show e = .returned (.int .i64 V) ∧ Below X.val.heap.size X.val w' from ⟨by rw [h.1, HV.out.2], h.2⟩)) (Nat.le_refl _)
        rw [HTK.out] at CALL2
        have s1 : IntKind.i64.wrap ((k : Int) + 1) = ((k + 1 : Nat) : Int) := IntWalk.i64_in _ (by omega)
        refine wp_region_aft (Below.refl w3.heap.size w3) (by kernel_rfl) (by kernel_rfl) ?_
        repeat (go_big_quiet_step ((go_at_call 64; exact CALL2.out _)))
        refine wpQuiet_nil ?_
        rintro w4 ⟨⟨_, hb4⟩, rfl⟩
        have hbx4 := btr hbx3 hb4
        have cp4 := bcl hb4 cp3
        have cx4 := bcl hb4 cx3
        clear hm1 hm2 hrr hxr CALL2 cp3 cx3 q13 q23 s1 HB3
        have HCV := hid (show candV l r (page.drop (k + 1)) bb y = if 0 < v ∧ 0 ≤ V then v + V else -1 by unfold candV; rw [HV.out.1, HV.out.2])
        by_cases hgood : (0 < v ∧ 0 ≤ V) ∧ v + V = Mk
        case neg =>
          have HN := hid (show (p.drop (j + 1)).find? (fun y => decide (candV l r (page.drop (k + 1)) bb y = Mk)) = some x by
            have := HFJ.out
            rw [HFD.out, HYE.out, if_neg] at this
            · exact this
            · rw [decide_eq_true_eq, HCV.out]
              intro h
              by_cases hc : 0 < v ∧ 0 ≤ V
              · rw [if_pos hc] at h; exact hgood ⟨hc, h⟩
              · rw [if_neg hc] at h; omega)
          by_cases hp1 : 0 < v
          case neg =>
            clear hgood
            go_wp2_with fail
            go_roundg (gk - 1)
            case measure => have := HJG.out; omega
            case rel => exact ⟨j + 1, by have := HJG.out; omega, by go_num, rfl, HN.out, hbx4⟩
          case pos =>
            by_cases hp2 : 0 ≤ V
            case neg =>
              clear hgood
              go_wp2_with fail
              go_roundg (gk - 1)
              case measure => have := HJG.out; omega
              case rel => exact ⟨j + 1, by have := HJG.out; omega, by go_num, rfl, HN.out, hbx4⟩
            case pos =>
              have hp3 : ((v + V) == Mk) = false := by simp; intro h; exact hgood ⟨⟨hp1, hp2⟩, h⟩
              clear hgood
              go_wp2_with fail
              go_roundg (gk - 1)
              case measure => have := HJG.out; omega
              case rel => exact ⟨j + 1, by have := HJG.out; omega, by go_num, rfl, HN.out, hbx4⟩
        case pos =>
          obtain ⟨⟨hp1, hp2⟩, hp3⟩ := hgood
          have HYX := hid (show y = x by
            have := HFJ.out
            rw [HFD.out, HYE.out, if_pos (by rw [decide_eq_true_eq, HCV.out, if_pos ⟨hp1, hp2⟩]; exact hp3)] at this
            injection this)
          have hp4 : ((v + V) == Mk) = true := by simpa using hp3
          have HO3 := hid (HOq.out.bl hbx4)
          have hz3 := (btr HBWq.out hbx4).size
          have HB3 := hid (hbrq.trans (hbx4.mono (by omega)))
          have hz5 := HB3.out.size
          have hl4 : (xs ++ [y]).length = xs.length + 1 := by simp
          clear hp3
          go_wp2_with (at_builtin; refine wpList_append_R rfl (.tmp 81) (.tmp 83) _ rfl intS Try.underlying23 HI.out rfl (by decide) rfl (HO3.out.al _) (y := y) rfl (heap_alloc_new _ _) rfl (by simp [Value.oneCell']) rfl (by omega) (by omega) (by simp; omega) ?_; intro A2 c2 w5 hO4 hb4)
          go_roundg (go_ - 1)
          case measure => have h1 := HKG.out; have h2 := HGO.out; omega
          case rel => exact ⟨k + 1, y, xs ++ [y], A2, c2, by have := HKG.out; omega, by go_num, rfl, by rw [hl4], by rw [hl4, HXL.out], by rw [hl4]; exact hO4, by rw [HYX.out]; exact HNEW.out, by rw [HYX.out]; exact HXN.out.2, by rw [HYX.out]; exact HXMOST.out, HB3.out.trans (((bnew _ _).mono (by omega)).trans hb4)⟩
end Go.Proofs.Ytfjoininagdlcaa
