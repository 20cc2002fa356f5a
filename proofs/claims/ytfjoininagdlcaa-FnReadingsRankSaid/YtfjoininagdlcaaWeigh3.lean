/- ReadingWeight: what the reference's and the program's functions return. -/
import Derived.Test.YtfjoininagdlcaaWeigh2
namespace Go.Proofs.Ytfjoininagdlcaa
open Go.RowKit
theorem allHas_bd {n : Int} {page : List (List Int)} {xs : List Int} (hp : ∀ p ∈ page, ∀ x ∈ p, 0 ≤ x ∧ x < n) (h : allHas page xs = true) (hl : xs.length ≤ page.length) : ∀ y ∈ xs, 0 ≤ y ∧ y < n := by
  induction xs generalizing page with
  | nil => intro y hy; cases hy
  | cons x xs ih =>
    cases page with
    | nil => simp at hl
    | cons p ps =>
      have h' : (hasI p x && allHas ps xs) = true := h
      rw [Bool.and_eq_true] at h'
      intro y hy
      rcases List.mem_cons.1 hy with rfl | hy
      · exact hp p (List.mem_cons_self ..) _ (hasI_iff.1 h'.1)
      · exact ih (fun q hq => hp q (List.mem_cons_of_mem _ hq)) h'.2 (by simpa using hl) y hy
set_option maxRecDepth 100000 in
set_option maxHeartbeats 2000000 in
theorem specReadingWeight_any (A B C D : Option Addr) (n c m e0 q d k0 d0 lo : Nat) (l : List Int) (r page : List (List Int)) (xs : List Int) (w : World) (hl : Rd intS lo w.heap.size w A n l) (hr : Rd (sliceS intS) lo w.heap.size w B m r) (hp : Rd (sliceS intS) lo w.heap.size w C q page) (hx : Rd intS lo w.heap.size w D k0 xs) :
    Calls Try.prog 19 #[.agg #[.slice A n c, .slice B m e0], .slice C q d, .slice D k0 d0] w fun e w' => e = .returned (.int .i64 (weightOf l r page xs)) ∧ Below w.heap.size w w' := by
  have L := hid hl
  have R := hid hr
  have P := hid hp
  have X := hid hx
  have hnl := hid hl.1
  have hmr := hid hr.1
  have hqp := hid hp.1
  have hkx := hid hx.1
  have hq63 := hp.2.1
  have hk63 := hx.2.1
  clear hl hr hp hx
  have b0 := bnew w (.cells #[.slice A n c, .slice B m e0] 26)
  have c0 := heap_alloc_new w (.cells #[.slice A n c, .slice B m e0] 26)
  have z0 : (w.alloc (.cells #[.slice A n c, .slice B m e0] 26)).heap.size = w.heap.size + 1 := by simp
  have B0 := hid b0
  have C0 := hid c0
  have Z0 := hid z0
  clear b0 c0 z0
  go_enter Try.func19, Try.ntmps19
  go_wp2_with fail
  refine (l5Both_any A B C n c m e0 q d lo l r page _ (L.out.bl B0.out) (R.out.bl B0.out) (P.out.bl B0.out)).mono ?_
  rintro e w1 ⟨rfl, hb1⟩
  have B1 := hid (btr B0.out hb1)
  have cc := (hb1.block w.heap.size (by rw [Z0.out]; omega)).trans C0.out
  have hz1 := hb1.size
  rw [Z0.out] at hz1
  have CC := hid cc
  clear hb1 cc
  by_cases hok : bothOk l r page = true
  case neg =>
    have hok' : bothOk l r page = false := by simpa using hok
    have HF := hid (show weightOf l r page xs = -1 by simp [weightOf, hok'])
    rw [hok']
    clear hok
    go_wp2_with fail
    go_ret
    exact ⟨ret_int HF.out.symm, B1.out⟩
  case pos =>
    rw [hok]
    have HOK := hid hok
    clear hok
    by_cases hkq : k0 = q
    case neg =>
      have t1 : ((k0 : Int) != (q : Int)) = true := by simp; omega
      have HF := hid (show weightOf l r page xs = -1 by
        have : ¬ xs.length = page.length := by rw [← hkx.out, ← hqp.out]; exact hkq
        simp [weightOf, this])
      clear hkq
      go_wp2_with fail
      go_ret
      exact ⟨ret_int HF.out.symm, B1.out⟩
    case pos =>
      have t1 : ((k0 : Int) != (q : Int)) = false := by simp [hkq]
      have HKQ := hid hkq
      clear hkq
      have HFF := hid (show weightOf l r page xs = refW l r (-1) 0 page xs by
        have h1 : xs.length = page.length := by rw [← hkx.out, ← hqp.out, HKQ.out]
        simp [weightOf, HOK.out, h1])
      have hpg := hid (pageOk_yes (bothOk_yes HOK.out).2).2
      have hp8 := (pageOk_yes (bothOk_yes HOK.out).2).1
      have hk8 : k0 ≤ 8 := by have := HKQ.out; have := hqp.out; omega
      clear hp8
      go_wp2_with fail
      go_loopg [7, 8, 9] k0 (fun gk s b i wr => ∃ (k : Nat) (z bb : Int), k + gk = k0 ∧ i = .int .i64 k ∧ s = .int .i64 z ∧ b = .int .i64 bb ∧ 0 ≤ z ∧ z ≤ 9 * k ∧ bb < n ∧ -1 ≤ bb ∧ refW l r (-1) 0 page xs = refW l r bb z (page.drop k) (xs.drop k) ∧ Below w1.heap.size w1 wr)
      case atStart => exact ⟨0, 0, -1, Nat.zero_add _, rfl, rfl, rfl, by omega, by omega, by omega, by omega, rfl, Below.refl _ _⟩
      case round =>
        obtain ⟨k, z, bb, hkg, rfl, rfl, rfl, hz0, hz1', hbn, hb1, hs, hbr⟩ := hrel
        have HKG := hid hkg
        have HS := hid hs
        have hk : k ≤ k0 := by omega
        clear hkg hs
        by_cases hlt : k < k0
        case neg =>
          obtain rfl : k = k0 := by omega
          have HF := hid (show weightOf l r page xs = z by
            rw [HFF.out, HS.out, show xs.drop k = [] from List.drop_eq_nil_of_le (by rw [hkx.out]; omega)]
            cases page.drop k <;> rfl)
          go_wp2
          go_ret
          exact ⟨ret_int HF.out.symm, B1.out.trans (hbr.mono B1.out.size)⟩
        case pos =>
          have hki : (k : Int) < (k0 : Int) := by omega
          have hkq' : k < q := by have := HKQ.out; omega
          have hkqi : (k : Int) < (q : Int) := by omega
          have hbw := btr B1.out hbr
          have hX3 := X.out.2.2
          obtain ⟨bx, ox, rfl, _, hbbx, hcx⟩ := hX3 (by omega)
          have cx := bcl hbw (hcx.int hlt)
          have hP3 := P.out.2.2
          obtain ⟨bp, op, rfl, _, hbbp, hcp⟩ := hP3 (by omega)
          obtain ⟨RA, rc, rcell, _, hrow⟩ := hcp.row hkq'
          have cp := bcl hbw rcell
          have hdx := hid (drop_gt (l := xs) (k := k) (by rw [← hkx.out]; exact hlt))
          have hdp := hid (drop_gt (l := page) (k := k) (by rw [← hqp.out]; exact hkq'))
          have hin := hid (hpg.out _ (gt_mem (l := page) (k := k) (by rw [← hqp.out]; exact hkq'))).2
          obtain ⟨x, hxe⟩ : ∃ x, gt xs k = x := ⟨_, rfl⟩
          obtain ⟨pl, hpe⟩ : ∃ p, gt page k = p := ⟨_, rfl⟩
          rw [hxe] at cx
          rw [hpe] at cp hrow hin
          have ROW := hid (hrow.bl hbw)
          have HX := hid hxe
          have HPE := hid hpe
          have HBW := hid hbw
          have hh1 := l5Has_any RA pl.length rc lo pl x wr (hrow.bl hbw)
          have HAS := hid fun w' (h : Below wr.heap.size wr w') => l5Has_any RA pl.length rc lo pl x w' (ROW.out.bl h)
          clear hX3 hcx hP3 hcp hrow rcell hxe hpe hbw hh1
          go_wp2_with fail
          go_quiet ((go_at_call 60; exact Calls.quiet_of_same ((HAS.out _ (below_drewN (Below.refl _ _) _)).mono fun e w' h => ⟨h.1, h.2.symm⟩)))
          by_cases hhas : hasI pl x = true
          case neg =>
            have hh' : hasI pl x = false := by simpa using hhas
            have HF := hid (show weightOf l r page xs = -1 by rw [HFF.out, HS.out, hdx.out, hdp.out, HX.out, HPE.out, refW, hh']; simp)
            rw [hh']
            clear hhas
            go_wp2
            go_ret
            exact ⟨ret_int HF.out.symm, below_drewN (B1.out.trans (hbr.mono B1.out.size)) _⟩
          case pos =>
            rw [hhas]
            have HHAS := hid hhas
            obtain ⟨hx0, hxn⟩ := hin.out x (hasI_iff.1 hhas)
            rw [← hnl.out] at hxn
            have wb := wgt_bd (bothOk_yes HOK.out).1 (b := bb) (x := x) (by rw [← hnl.out]; exact hbn) hx0 (by rw [← hnl.out]; exact hxn)
            obtain ⟨v, hv⟩ : ∃ v, wgt l r bb x = v := ⟨_, rfl⟩
            have HV := hid hv
            rw [hv] at wb
            obtain ⟨v0, v1⟩ := wb
            have hbr' : Below w1.heap.size w1 (wr.drewN nq) := below_drewN hbr _
            have hbw' := hid (below_drewN (B := w.heap.size) HBW.out nq)
            have cx' : (wr.drewN nq).cell? ⟨bx, ox + k, none⟩ = some (.int .i64 x) := cx
            clear hhas hv cx cp hbr
            go_wp2_with fail
            generalize wr.drewN nq = w2 at *
            have hz2 := hbr'.size
            have hm1 := aft_cell (B := w2.heap.size) (w0 := w2) (by omega) (bcl hbr' (show w1.cell? ⟨w.heap.size, 0, none⟩ = some (.slice A n c) from (at_get' CC.out).1))
            have hm2 := aft_cell (B := w2.heap.size) (w0 := w2) (by omega) (bcl hbr' (show w1.cell? ⟨w.heap.size, 1, none⟩ = some (.slice B m e0) from (at_get' CC.out).2.1))
            have hx2 := aft_cell (B := w2.heap.size) (w0 := w2) (block_lt_of_cell cx') cx'
            have CALL := hid fun p : Aft w2.heap.size w2 => aft_call (l5Weight_any A B n c m e0 lo l r bb x p.val ((L.out.bl hbw'.out).bl p.prop) ((R.out.bl hbw'.out).bl p.prop) (bothOk_yes HOK.out).1 hbn hx0 hxn) (Nat.le_refl _)
            refine wp_region_aft (Below.refl w2.heap.size w2) (by kernel_rfl) (by kernel_rfl) ?_
            repeat (go_big_quiet_step (fail))
            go_big_quiet_step ((go_at_call 61; exact CALL.out _))
            repeat (go_big_quiet_step (fail))
            refine wpQuiet_nil ?_
            rintro _ ⟨⟨w3, hb3⟩, rfl⟩
            rw [HV.out]
            have hbr3 := btr hbr' hb3
            have cx3 := bcl hb3 cx'
            clear hb3 hbr' hm1 hm2 hx2 cx'
            by_cases e0' : v = 0
            case pos =>
              have HF := hid (show weightOf l r page xs = -1 by rw [HFF.out, HS.out, hdx.out, hdp.out, HX.out, HPE.out, refW, HHAS.out, HV.out, if_pos rfl, if_pos e0'])
              subst e0'
              go_wp2
              go_ret
              exact ⟨ret_int HF.out.symm, B1.out.trans (hbr3.mono B1.out.size)⟩
            case neg =>
              have t2 : (v == 0) = false := by simpa using e0'
              have HF := hid (show refW l r (-1) 0 page xs = refW l r x (z + v) (page.drop (k + 1)) (xs.drop (k + 1)) by rw [HS.out, hdx.out, hdp.out, HX.out, HPE.out, refW, HHAS.out, HV.out, if_pos rfl, if_neg e0'])
              clear e0'
              go_wp2
              go_roundg (gk - 1)
              case measure => have := HKG.out; omega
              case rel => exact ⟨k + 1, z + v, x, by have := HKG.out; omega, by go_num, rfl, rfl, by omega, by omega, hxn, by omega, HF.out, hbr3⟩
set_option maxRecDepth 100000 in
set_option maxHeartbeats 2000000 in
theorem implReadingWeight_any (A B C D : Option Addr) (n c m e0 q d k0 d0 lo : Nat) (l : List Int) (r page : List (List Int)) (xs : List Int) (w : World) (hl : Rd intS lo w.heap.size w A n l) (hr : Rd (sliceS intS) lo w.heap.size w B m r) (hp : Rd (sliceS intS) lo w.heap.size w C q page) (hx : Rd intS lo w.heap.size w D k0 xs) (hkd : k0 ≤ d0) :
    Calls Try.prog 18 #[.agg #[.slice A n c, .slice B m e0], .slice C q d, .slice D k0 d0] w fun e w' => e = .returned (.int .i64 (weightOf l r page xs)) ∧ Below w.heap.size w w' := by
  have L := hid hl
  have R := hid hr
  have P := hid hp
  have X := hid hx
  have hnl := hid hl.1
  have hqp := hid hp.1
  have hkx := hid hx.1
  have hq63 := hp.2.1
  have hk63 := hx.2.1
  clear hl hr hp hx
  have b0 := bnew w (.cells #[.slice A n c, .slice B m e0] 26)
  have c0 := heap_alloc_new w (.cells #[.slice A n c, .slice B m e0] 26)
  have z0 : (w.alloc (.cells #[.slice A n c, .slice B m e0] 26)).heap.size = w.heap.size + 1 := by simp
  have B0 := hid b0
  have C0 := hid c0
  have Z0 := hid z0
  clear b0 c0 z0
  go_enter Try.func18, Try.ntmps18
  go_wp2_with fail
  refine (modelAndPage_any A B C n c m e0 q d lo l r page _ (L.out.bl B0.out) (R.out.bl B0.out) (P.out.bl B0.out)).mono ?_
  rintro e w1 ⟨rfl, hb1⟩
  have B1 := hid (btr B0.out hb1)
  have cc := (hb1.block w.heap.size (by rw [Z0.out]; omega)).trans C0.out
  have hz1 := hb1.size
  rw [Z0.out] at hz1
  have CC := hid cc
  clear hb1 cc
  by_cases hok : bothOk l r page = true
  case neg =>
    have hok' : bothOk l r page = false := by simpa using hok
    have HF := hid (show weightOf l r page xs = -1 by simp [weightOf, hok'])
    rw [hok']
    clear hok
    go_wp2_with fail
    go_ret
    exact ⟨ret_int HF.out.symm, B1.out⟩
  case pos =>
    rw [hok]
    have HOK := hid hok
    clear hok
    by_cases hkq : k0 = q
    case neg =>
      have t1 : ((k0 : Int) != (q : Int)) = true := by simp; omega
      have HF := hid (show weightOf l r page xs = -1 by
        have : ¬ xs.length = page.length := by rw [← hkx.out, ← hqp.out]; exact hkq
        simp [weightOf, this])
      clear hkq
      go_wp2_with fail
      go_ret
      exact ⟨ret_int HF.out.symm, B1.out⟩
    case pos =>
      have t1 : ((k0 : Int) != (q : Int)) = false := by simp [hkq]
      have HKQ := hid hkq
      clear hkq
      have HXP := hid (show xs.length = page.length by rw [← hkx.out, ← hqp.out, HKQ.out])
      have HFF := hid (show weightOf l r page xs = if allHas page xs then sumW l r (-1) 0 xs else -1 by
        rw [← refW_eq l r page xs (-1) 0 HXP.out]
        simp [weightOf, HOK.out, HXP.out])
      have hpg := hid (pageOk_yes (bothOk_yes HOK.out).2).2
      have hp8 := (pageOk_yes (bothOk_yes HOK.out).2).1
      have hk8 : k0 ≤ 8 := by have := HKQ.out; have := hqp.out; omega
      clear hp8
      go_wp2_with fail
      go_loopg [22] k0 (fun gk i wr => ∃ (k : Nat), k + gk = k0 ∧ i = .int .i64 k ∧ allHas page xs = allHas (page.drop k) (xs.drop k) ∧ w1 = wr)
      case atStart => exact ⟨0, Nat.zero_add _, rfl, rfl, rfl⟩
      case round =>
        obtain ⟨k, hkg, rfl, hs, rfl⟩ := hrel
        have HKG := hid hkg
        have HS := hid hs
        have hk : k ≤ k0 := by omega
        clear hkg hs
        by_cases hlt : k < k0
        case neg =>
          obtain rfl : k = k0 := by omega
          have hall : allHas page xs = true := by
            rw [HS.out, show xs.drop k = [] from List.drop_eq_nil_of_le (by rw [hkx.out]; omega)]
            cases page.drop k <;> rfl
          have HF := hid (show weightOf l r page xs = sumW l r (-1) 0 xs by rw [HFF.out, hall]; simp)
          have hbd := allHas_bd (fun p hp => (hpg.out p hp).2) hall (Nat.le_of_eq HXP.out)
          rw [← hnl.out] at hbd
          have HBD := hid hbd
          obtain ⟨m1, m2, _, _⟩ := at_get' CC.out
          clear hall hbd
          go_wp2_with fail
          refine (sum_any A B D n c m e0 k d0 lo l r xs _ (L.out.bl B1.out) (R.out.bl B1.out) (X.out.bl B1.out) hkd (bothOk_yes HOK.out).1 HBD.out hk8).mono ?_
          rintro e w2 ⟨rfl, hb2⟩
          go_wp2_with fail
          go_ret
          exact ⟨ret_int HF.out.symm, btr B1.out hb2⟩
        case pos =>
          have hki : (k : Int) < (k0 : Int) := by omega
          have hkq' : k < q := by have := HKQ.out; omega
          have hkqi : (k : Int) < (q : Int) := by omega
          have hX3 := X.out.2.2
          obtain ⟨bx, ox, rfl, _, hbbx, hcx⟩ := hX3 (by omega)
          have cx := bcl B1.out (hcx.int hlt)
          have hP3 := P.out.2.2
          obtain ⟨bp, op, rfl, _, hbbp, hcp⟩ := hP3 (by omega)
          obtain ⟨RA, rc, rcell, _, hrow⟩ := hcp.row hkq'
          have cp := bcl B1.out rcell
          have hdx := hid (drop_gt (l := xs) (k := k) (by rw [← hkx.out]; exact hlt))
          have hdp := hid (drop_gt (l := page) (k := k) (by rw [← hqp.out]; exact hkq'))
          obtain ⟨x, hxe⟩ : ∃ x, gt xs k = x := ⟨_, rfl⟩
          obtain ⟨pl, hpe⟩ : ∃ p, gt page k = p := ⟨_, rfl⟩
          rw [hxe] at cx
          rw [hpe] at cp hrow
          have ROW := hid (hrow.bl B1.out)
          have HX := hid hxe
          have HPE := hid hpe
          clear hX3 hcx hP3 hcp hrow rcell hxe hpe
          have hsplit := hid (show allHas page xs = (hasI pl x && allHas (page.drop (k + 1)) (xs.drop (k + 1))) by rw [HS.out, hdx.out, hdp.out, HX.out, HPE.out]; rfl)
          go_wp2_with fail
          refine (contains_any RA pl.length rc lo pl x _ ROW.out).mono ?_
          rintro e w' ⟨rfl, rfl⟩
          by_cases hhas : hasI pl x = true
          case neg =>
            have hh' : hasI pl x = false := by simpa using hhas
            have HF := hid (show weightOf l r page xs = -1 by rw [HFF.out, hsplit.out, hh', Bool.false_and]; rfl)
            rw [hh']
            clear hhas
            go_wp2
            go_ret
            exact ⟨ret_int HF.out.symm, B1.out⟩
          case pos =>
            have HF := hid (show allHas page xs = allHas (page.drop (k + 1)) (xs.drop (k + 1)) by rw [hsplit.out, hhas, Bool.true_and])
            rw [hhas]
            clear hhas
            go_wp2
            go_roundg (gk - 1)
            case measure => have := HKG.out; omega
            case rel => exact ⟨k + 1, by have := HKG.out; omega, by go_num, HF.out, rfl⟩
end Go.Proofs.Ytfjoininagdlcaa
