/- Written forms and lines: validity, lengths. -/
import Derived.Test.YtigemahbopligaaLine2
import Derived.IntWalk
namespace Go.Proofs.Ytigemahbopligaa
open Go.RowKit
attribute [local go_sem] Oper.semAt_some
theorem lenOf_bd {o : List (Int × Int)} (h : outOk o = true) : 0 ≤ lenOf o ∧ lenOf o ≤ 24 := by
  obtain ⟨hl, h8⟩ := outOk_yes h
  have := sumSz_bd (linked_ok hl)
  unfold lenOf
  rw [if_pos h]
  omega
theorem lengths_drop {l : List WrT} {k : Nat} (h : k < l.length) : lengthsOf (l.drop k) = lenOf (gt l k).1 + lengthsOf (l.drop (k + 1)) := by rw [drop_gt h, lengthsOf]
set_option maxHeartbeats 400000 in
theorem implOutlineValid_any (A : Option Addr) (n c lo : Nat) (o : List (Int × Int)) (w : World) (hx : Rd strokeS lo w.heap.size w A n o) :
    Calls Try.prog 87 #[.slice A n c] w fun e w' => e = .returned (.bool (outOk o)) ∧ Below w.heap.size w w' := by
  have HV := hid (chainOf_any A n c lo o w hx)
  clear hx
  obtain ⟨x, hx⟩ : ∃ x, outOk o = x := ⟨_, rfl⟩
  have HX := hid hx
  clear hx
  go_enter Try.func87, Try.ntmps87
  go_wp2_with fail
  refine HV.out.mono ?_
  rintro e w1 ⟨p, rfl, hb1, _⟩
  rw [HX.out]
  go_wp2
  go_ret
  exact ⟨ret_bool HX.out.symm, hb1⟩
set_option maxHeartbeats 1000000 in
theorem specWrittenValid_any (A : Option Addr) (n c lo : Nat) (p : Int) (o : List (Int × Int)) (w : World) (hx : Rd strokeS lo w.heap.size w A n o) :
    Calls Try.prog 73 #[.agg #[.slice A n c, .int .i64 p]] w fun e w' => e = .returned (.bool (writtenOk (o, p))) ∧ Below w.heap.size w w' := by
  have hb0 := bnew w (.cells #[.slice A n c, .int .i64 p] 51)
  have h0 := heap_alloc_new w (.cells #[.slice A n c, .int .i64 p] 51)
  have HX := hid (specOutlineValid_any A n c lo o _ (hx.bl hb0))
  have HB0 := hid hb0
  have H0 := hid h0
  clear hx hb0 h0
  obtain ⟨x, hx⟩ : ∃ x, outOk o = x := ⟨_, rfl⟩
  have HK := hid hx
  have HV := hid (show writtenOk (o, p) = (x && inB p 0 2) by unfold writtenOk; rw [hx])
  clear hx
  cases x with
  | false =>
    go_enter Try.func73, Try.ntmps73
    go_wp2_with fail
    refine HX.out.mono ?_
    rintro e w1 ⟨rfl, hb1⟩
    rw [HK.out]
    have HB1 := hid (btr HB0.out hb1)
    clear hb1
    go_wp2_with fail
    go_ret
    exact ⟨ret_bool (by rw [HV.out, Bool.false_and]), HB1.out⟩
  | true =>
    go_enter Try.func73, Try.ntmps73
    go_wp2_with fail
    refine HX.out.mono ?_
    rintro e w1 ⟨rfl, hb1⟩
    rw [HK.out]
    obtain ⟨_, k1, _, _⟩ := at_get ((hb1.block w.heap.size (by simp)).trans H0.out)
    have HB1 := hid (btr HB0.out hb1)
    clear hb1
    go_wp2_with (go_at_call 39; refine (l6In_any _ _ _ _).mono ?_; rintro e w' ⟨rfl, rfl⟩)
    go_ret
    exact ⟨ret_bool (by rw [HV.out, Bool.true_and]), HB1.out⟩
set_option maxHeartbeats 1000000 in
theorem implWrittenValid_any (A : Option Addr) (n c lo : Nat) (p : Int) (o : List (Int × Int)) (w : World) (hx : Rd strokeS lo w.heap.size w A n o) :
    Calls Try.prog 74 #[.agg #[.slice A n c, .int .i64 p]] w fun e w' => e = .returned (.bool (writtenOk (o, p))) ∧ Below w.heap.size w w' := by
  have hb0 := bnew w (.cells #[.slice A n c, .int .i64 p] 51)
  have h0 := heap_alloc_new w (.cells #[.slice A n c, .int .i64 p] 51)
  have HX := hid (implOutlineValid_any A n c lo o _ (hx.bl hb0))
  have HB0 := hid hb0
  have H0 := hid h0
  clear hx hb0 h0
  obtain ⟨x, hx⟩ : ∃ x, outOk o = x := ⟨_, rfl⟩
  have HK := hid hx
  have HV := hid (show writtenOk (o, p) = (x && inB p 0 2) by unfold writtenOk; rw [hx])
  clear hx
  cases x with
  | false =>
    go_enter Try.func74, Try.ntmps74
    go_wp2_with fail
    refine HX.out.mono ?_
    rintro e w1 ⟨rfl, hb1⟩
    rw [HK.out]
    have HB1 := hid (btr HB0.out hb1)
    clear hb1
    go_wp2_with fail
    go_ret
    exact ⟨ret_bool (by rw [HV.out, Bool.false_and]), HB1.out⟩
  | true =>
    by_cases hp0 : 0 ≤ p
    case neg =>
      have HI := hid (show inB p 0 2 = false from inB_no.2 (by omega))
      go_enter Try.func74, Try.ntmps74
      go_wp2_with fail
      refine HX.out.mono ?_
      rintro e w1 ⟨rfl, hb1⟩
      rw [HK.out]
      obtain ⟨_, k1, _, _⟩ := at_get ((hb1.block w.heap.size (by simp)).trans H0.out)
      have HB1 := hid (btr HB0.out hb1)
      clear hb1
      go_wp2_with fail
      go_ret
      exact ⟨ret_bool (by rw [HV.out, HI.out]; rfl), HB1.out⟩
    case pos =>
      by_cases hp3 : p < 3
      case pos =>
        have HI := hid (show inB p 0 2 = true from inB_yes.2 (by omega))
        go_enter Try.func74, Try.ntmps74
        go_wp2_with fail
        refine HX.out.mono ?_
        rintro e w1 ⟨rfl, hb1⟩
        rw [HK.out]
        obtain ⟨_, k1, _, _⟩ := at_get ((hb1.block w.heap.size (by simp)).trans H0.out)
        have HB1 := hid (btr HB0.out hb1)
        clear hb1
        go_wp2_with fail
        go_ret
        exact ⟨ret_bool (by rw [HV.out, HI.out]; rfl), HB1.out⟩
      case neg =>
        have HI := hid (show inB p 0 2 = false from inB_no.2 (by omega))
        go_enter Try.func74, Try.ntmps74
        go_wp2_with fail
        refine HX.out.mono ?_
        rintro e w1 ⟨rfl, hb1⟩
        rw [HK.out]
        obtain ⟨_, k1, _, _⟩ := at_get ((hb1.block w.heap.size (by simp)).trans H0.out)
        have HB1 := hid (btr HB0.out hb1)
        clear hb1
        go_wp2_with fail
        go_ret
        exact ⟨ret_bool (by rw [HV.out, HI.out, decide_eq_false (by omega)]; rfl), HB1.out⟩
set_option maxHeartbeats 1000000 in
theorem specLineValid_any (A : Option Addr) (n c lo : Nat) (l : List WrT) (w : World) (hx : Rd writtenS lo w.heap.size w A n l) :
    Calls Try.prog 53 #[.slice A n c] w fun e w' => e = .returned (.bool (lineOk l)) ∧ Below w.heap.size w w' := by
  obtain ⟨e1, e2, e3⟩ := hx
  have E1 := hid e1; clear e1
  have E3 := hid e3; clear e3
  go_enter Try.func53, Try.ntmps53
  go_wp2_with fail
  go_loopw [3] (fun i wr => ∃ k : Nat, k ≤ n ∧ i = .int .i64 k ∧ l.all writtenOk = (l.drop k).all writtenOk ∧ Below w.heap.size w wr) (fun i _ => n - (intOf i).toNat)
  case atStart => exact ⟨0, Nat.zero_le _, rfl, rfl, Below.refl _ _⟩
  case round =>
    obtain ⟨k, hk, rfl, hr, hb⟩ := hrel
    have HR := hid hr; clear hr
    have HB := hid hb; clear hb
    by_cases hlt : k < n
    · obtain ⟨b, off, rfl, _, hbb, hcx⟩ := E3.out (by omega)
      obtain ⟨A1, c1, x0, x1, x3, x4⟩ := hcx.written hlt
      have cx0 := bcl HB.out x0
      have cx1 := bcl HB.out x1
      have hcall := specWrittenValid_any A1 _ c1 lo (gt l k).2 _ _ (x4.bl HB.out)
      have HD := hid (drop_gt (l := l) (by rw [← E1.out]; exact hlt))
      obtain ⟨y, hy⟩ : ∃ y, writtenOk (gt l k) = y := ⟨_, rfl⟩
      rw [show writtenOk ((gt l k).1, (gt l k).2) = y from hy] at hcall
      have HY := hid hy
      clear hcx x0 x1 x3 x4 hy
      cases y with
      | false =>
        go_wp2_with fail
        refine hcall.mono ?_
        rintro e w1 ⟨rfl, hb1⟩
        have HB1 := hid (btr HB.out hb1)
        clear hb1 hcall
        go_wp2_with fail
        go_ret
        exact ⟨ret_bool (by unfold lineOk; rw [HR.out, HD.out, List.all_cons, HY.out, Bool.false_and, Bool.and_false]), HB1.out⟩
      | true =>
        go_wp2_with fail
        refine hcall.mono ?_
        rintro e w1 ⟨rfl, hb1⟩
        have HB1 := hid (btr HB.out hb1)
        clear hb1 hcall
        go_wp2_with fail
        go_roundw
        case rel => exact ⟨k + 1, by omega, by go_num, by rw [HR.out, HD.out, List.all_cons, HY.out, Bool.true_and], HB1.out⟩
        case measure => simp [intOf]; omega
    · obtain rfl : k = n := by omega
      have HF := hid (show lineOk l = decide (l.length ≤ 20) by
        unfold lineOk
        rw [HR.out, List.drop_eq_nil_of_le (by rw [E1.out]; omega)]
        exact Bool.and_true _)
      by_cases h20 : k ≤ 20
      · have h20i : (k : Int) ≤ 20 := by omega
        go_wp2_with fail
        go_ret
        exact ⟨ret_bool (by rw [HF.out, decide_eq_true (by rw [← E1.out]; exact h20)]), HB.out⟩
      · have h20i : ¬ (k : Int) ≤ 20 := by omega
        go_wp2_with fail
        go_ret
        exact ⟨ret_bool (by rw [HF.out, decide_eq_false (by rw [← E1.out]; exact h20)]), HB.out⟩
set_option maxHeartbeats 1000000 in
theorem implLineValid_any (A : Option Addr) (n c lo : Nat) (l : List WrT) (w : World) (hx : Rd writtenS lo w.heap.size w A n l) :
    Calls Try.prog 55 #[.slice A n c] w fun e w' => e = .returned (.bool (lineOk l)) ∧ Below w.heap.size w w' := by
  obtain ⟨e1, e2, e3⟩ := hx
  have E1 := hid e1; clear e1
  have E3 := hid e3; clear e3
  by_cases h20 : n ≤ 20
  case neg =>
    have h20i : (20 : Int) < (n : Int) := by omega
    have HF := hid (show lineOk l = false by unfold lineOk; rw [decide_eq_false (by rw [← E1.out]; exact h20), Bool.false_and])
    go_enter Try.func55, Try.ntmps55
    go_wp2_with fail
    go_ret
    exact ⟨ret_bool HF.out.symm, Below.refl _ _⟩
  case pos =>
  have h20i : ¬ (20 : Int) < (n : Int) := by omega
  have HF := hid (show lineOk l = l.all writtenOk by unfold lineOk; rw [decide_eq_true (by rw [← E1.out]; exact h20), Bool.true_and])
  go_enter Try.func55, Try.ntmps55
  go_wp2_with fail
  go_loopw [4, 10] (fun _ i wr => ∃ k : Nat, k ≤ n ∧ i = .int .i64 k ∧ l.all writtenOk = (l.drop k).all writtenOk ∧ Below w.heap.size w wr) (fun _ i _ => n - (intOf i).toNat)
  case atStart => exact ⟨0, Nat.zero_le _, rfl, rfl, Below.refl _ _⟩
  case round =>
    obtain ⟨k, hk, rfl, hr, hb⟩ := hrel
    have HR := hid hr; clear hr
    have HB := hid hb; clear hb
    by_cases hlt : k < n
    · obtain ⟨b, off, rfl, _, hbb, hcx⟩ := E3.out (by omega)
      obtain ⟨A1, c1, x0, x1, x3, x4⟩ := hcx.written hlt
      have cx0 := bcl HB.out x0
      have cx1 := bcl HB.out x1
      have hbx := fun (o : Obj) => bnew wr o
      have hcall := fun (o : Obj) => implWrittenValid_any A1 _ c1 lo (gt l k).2 _ _ ((x4.bl HB.out).bl (bnew wr o))
      have HD := hid (drop_gt (l := l) (by rw [← E1.out]; exact hlt))
      obtain ⟨y, hy⟩ : ∃ y, writtenOk (gt l k) = y := ⟨_, rfl⟩
      rw [show writtenOk ((gt l k).1, (gt l k).2) = y from hy] at hcall
      have HY := hid hy
      have HCA := hid hcall
      clear hcx x0 x1 x3 x4 hy hbx hcall
      cases y with
      | false =>
        go_wp2_with fail
        refine (HCA.out _).mono ?_
        rintro e w1 ⟨rfl, hb1⟩
        have HB1 := hid (btr HB.out (btr (bnew wr _) hb1))
        clear hb1 HCA
        go_wp2_with fail
        go_ret
        exact ⟨ret_bool (by rw [HF.out, HR.out, HD.out, List.all_cons, HY.out, Bool.false_and]), HB1.out⟩
      | true =>
        go_wp2_with fail
        refine (HCA.out _).mono ?_
        rintro e w1 ⟨rfl, hb1⟩
        have HB1 := hid (btr HB.out (btr (bnew wr _) hb1))
        clear hb1 HCA
        go_wp2_with fail
        go_roundw
        case rel => exact ⟨k + 1, by omega, by go_num, by rw [HR.out, HD.out, List.all_cons, HY.out, Bool.true_and], HB1.out⟩
        case measure => simp [intOf]; omega
    · obtain rfl : k = n := by omega
      go_wp2_with fail
      go_ret
      exact ⟨ret_bool (by rw [HF.out, HR.out, List.drop_eq_nil_of_le (by rw [E1.out]; omega)]; rfl), HB.out⟩
set_option maxHeartbeats 1000000 in
theorem specLineLength_any (A : Option Addr) (n c lo : Nat) (l : List WrT) (w : World) (hx : Rd writtenS lo w.heap.size w A n l) :
    Calls Try.prog 24 #[.slice A n c] w fun e w' => e = .returned (.int .i64 (lineV l)) ∧ Below w.heap.size w w' := by
  have HV := hid (specLineValid_any A n c lo l w hx)
  obtain ⟨e1, e2, e3⟩ := hx
  have E1 := hid e1; clear e1
  have E3 := hid e3; clear e3
  obtain ⟨x, hx1⟩ : ∃ x, lineOk l = x := ⟨_, rfl⟩
  have HX1 := hid hx1
  cases x with
  | false =>
    have HF := hid (show lineV l = -1 by unfold lineV; rw [hx1])
    clear hx1
    go_enter Try.func24, Try.ntmps24
    go_wp2_with fail
    refine HV.out.mono ?_
    rintro e w1 ⟨rfl, hb1⟩
    rw [HX1.out]
    have HB1 := hid hb1
    clear hb1
    go_wp2_with fail
    go_ret
    exact ⟨ret_int HF.out.symm, HB1.out⟩
  | true =>
    have HF := hid (show lineV l = lengthsOf l by unfold lineV; rw [hx1])
    have hok := hx1
    unfold lineOk at hok
    rw [Bool.and_eq_true, decide_eq_true_eq, List.all_eq_true] at hok
    have HOK := hid hok.2
    have hn20 : n ≤ 20 := by rw [E1.out]; exact hok.1
    clear hx1 hok
    go_enter Try.func24, Try.ntmps24
    go_wp2_with fail
    refine HV.out.mono ?_
    rintro e w1 ⟨rfl, hb1⟩
    rw [HX1.out]
    have HB1 := hid hb1
    clear hb1
    go_wp2_with fail
    go_loopg [3, 4] n (fun gk x i wr => ∃ (k : Nat) (y : Int), k + gk = n ∧ i = .int .i64 k ∧ x = .int .i64 y ∧ lengthsOf l = y + lengthsOf (l.drop k) ∧ 0 ≤ y ∧ y ≤ 24 * k ∧ Below w.heap.size w wr)
    case atStart => exact ⟨0, 0, Nat.zero_add _, rfl, rfl, by rw [List.drop_zero, Int.zero_add], by omega, by omega, HB1.out⟩
    case round =>
      obtain ⟨k, y, hkg, rfl, rfl, hl, hy0, hy1, hb⟩ := hrel
      have HKG := hid hkg
      have HL := hid hl
      have HB := hid hb
      have hk : k ≤ n := by omega
      clear hkg hl hb
      by_cases hlt : k < n
      · have hki : (k : Int) < (n : Int) := by omega
        obtain ⟨b, off, rfl, _, hbb, hcx⟩ := E3.out (by omega)
        obtain ⟨A1, c1, x0, x1, x3, x4⟩ := hcx.written hlt
        have cx0 := bcl HB.out x0
        have cx1 := bcl HB.out x1
        have hcall := (specOutlineLength_any A1 _ c1 lo _ _ (x4.bl HB.out))
        have hkl : k < l.length := by rw [← E1.out]; exact hlt
        have HD := hid (lengths_drop hkl)
        have hwo := HOK.out _ (gt_mem hkl)
        unfold writtenOk at hwo
        rw [Bool.and_eq_true] at hwo
        have hbd := lenOf_bd hwo.1
        obtain ⟨q, hq⟩ : ∃ q, lenOf (gt l k).1 = q := ⟨_, rfl⟩
        rw [hq] at hbd HD hcall
        have hwr : IntKind.i64.wrap (y + q) = y + q := IntWalk.i64_in _ (by omega)
        clear hcx x0 x1 x3 x4 hwo hq hkl
        go_wp2_with fail
        refine hcall.mono ?_
        rintro e w4 ⟨rfl, hb1⟩
        have HB4 := hid (btr HB.out hb1)
        clear hb1 hcall
        go_wp2_with fail
        go_roundg (gk - 1)
        case measure => have := HKG.out; omega
        case rel => exact ⟨k + 1, y + q, by have := HKG.out; omega, by go_num, rfl, by rw [HL.out, HD.out]; omega, by omega, by omega, HB4.out⟩
      · obtain rfl : k = n := by omega
        have hfin := HL.out
        rw [show l.drop k = [] from List.drop_eq_nil_of_le (by rw [← E1.out]; exact Nat.le_refl _)] at hfin
        have HFI := hid (show y = lineV l by rw [HF.out, hfin]; show y = y + 0; omega)
        clear hfin
        go_wp2_with fail
        go_ret
        exact ⟨ret_int HFI.out, HB.out⟩
set_option maxHeartbeats 1000000 in
theorem implLineLength_any (A : Option Addr) (n c lo : Nat) (l : List WrT) (w : World) (hx : Rd writtenS lo w.heap.size w A n l) :
    Calls Try.prog 26 #[.slice A n c] w fun e w' => e = .returned (.int .i64 (lineV l)) ∧ Below w.heap.size w w' := by
  have HV := hid (implLineValid_any A n c lo l w hx)
  obtain ⟨e1, e2, e3⟩ := hx
  have E1 := hid e1; clear e1
  have E3 := hid e3; clear e3
  obtain ⟨x, hx1⟩ : ∃ x, lineOk l = x := ⟨_, rfl⟩
  have HX1 := hid hx1
  cases x with
  | false =>
    have HF := hid (show lineV l = -1 by unfold lineV; rw [hx1])
    clear hx1
    go_enter Try.func26, Try.ntmps26
    go_wp2_with fail
    refine HV.out.mono ?_
    rintro e w1 ⟨rfl, hb1⟩
    rw [HX1.out]
    have HB1 := hid hb1
    clear hb1
    go_wp2_with fail
    go_ret
    exact ⟨ret_int HF.out.symm, HB1.out⟩
  | true =>
    have HF := hid (show lineV l = lengthsOf l by unfold lineV; rw [hx1])
    have hok := hx1
    unfold lineOk at hok
    rw [Bool.and_eq_true, decide_eq_true_eq, List.all_eq_true] at hok
    have HOK := hid hok.2
    have hn20 : n ≤ 20 := by rw [E1.out]; exact hok.1
    clear hx1 hok
    go_enter Try.func26, Try.ntmps26
    go_wp2_with fail
    refine HV.out.mono ?_
    rintro e w1 ⟨rfl, hb1⟩
    rw [HX1.out]
    have HB1 := hid hb1
    clear hb1
    go_wp2_with fail
    go_loopg [3, 5, 11] n (fun gk x _ i wr => ∃ (k : Nat) (y : Int), k + gk = n ∧ i = .int .i64 k ∧ x = .int .i64 y ∧ lengthsOf l = y + lengthsOf (l.drop k) ∧ 0 ≤ y ∧ y ≤ 24 * k ∧ Below w.heap.size w wr)
    case atStart => exact ⟨0, 0, Nat.zero_add _, rfl, rfl, by rw [List.drop_zero, Int.zero_add], by omega, by omega, HB1.out⟩
    case round =>
      obtain ⟨k, y, hkg, rfl, rfl, hl, hy0, hy1, hb⟩ := hrel
      have HKG := hid hkg
      have HL := hid hl
      have HB := hid hb
      have hk : k ≤ n := by omega
      clear hkg hl hb
      by_cases hlt : k < n
      · have hki : (k : Int) < (n : Int) := by omega
        obtain ⟨b, off, rfl, _, hbb, hcx⟩ := E3.out (by omega)
        obtain ⟨A1, c1, x0, x1, x3, x4⟩ := hcx.written hlt
        have cx0 := bcl HB.out x0
        have cx1 := bcl HB.out x1
        have hcall := fun (o : Obj) => (implOutlineLength_any A1 _ c1 lo _ _ ((x4.bl HB.out).bl (bnew wr o)))
        have hkl : k < l.length := by rw [← E1.out]; exact hlt
        have HD := hid (lengths_drop hkl)
        have hwo := HOK.out _ (gt_mem hkl)
        unfold writtenOk at hwo
        rw [Bool.and_eq_true] at hwo
        have hbd := lenOf_bd hwo.1
        obtain ⟨q, hq⟩ : ∃ q, lenOf (gt l k).1 = q := ⟨_, rfl⟩
        rw [hq] at hbd HD hcall
        have hwr : IntKind.i64.wrap (y + q) = y + q := IntWalk.i64_in _ (by omega)
        clear hcx x0 x1 x3 x4 hwo hq hkl
        go_wp2_with fail
        refine (hcall _).mono ?_
        rintro e w4 ⟨rfl, hb1⟩
        have HB4 := hid (btr HB.out (btr (bnew wr _) hb1))
        clear hb1 hcall
        go_wp2_with fail
        go_roundg (gk - 1)
        case measure => have := HKG.out; omega
        case rel => exact ⟨k + 1, y + q, by have := HKG.out; omega, by go_num, rfl, by rw [HL.out, HD.out]; omega, by omega, by omega, HB4.out⟩
      · obtain rfl : k = n := by omega
        have hfin := HL.out
        rw [show l.drop k = [] from List.drop_eq_nil_of_le (by rw [← E1.out]; exact Nat.le_refl _)] at hfin
        have HFI := hid (show y = lineV l by rw [HF.out, hfin]; show y = y + 0; omega)
        clear hfin
        go_wp2_with fail
        go_ret
        exact ⟨ret_int HFI.out, HB.out⟩
end Go.Proofs.Ytigemahbopligaa
