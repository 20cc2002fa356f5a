/- ModelTurn: what the reference's function returns. -/
import Derived.Test.YteccacnojmilcaaTurnDef
import Derived.Test.YteccacnojmilcaaForce3
import Derived.Test.YteccacnojmilcaaAtTwo
import Derived.Test.YteccacnojmilcaaWeigh
import Derived.Deep.LoopGhost
namespace Go.Proofs.Yteccacnojmilcaa
open Go.RowKit
/-- A model and whether there is one. -/
def RetM (w : World) (V : Option (List Int × List (List Int))) (e : Ending) (w' : World) : Prop :=
  match V with
  | none => e = .returned (.tuple #[.agg #[.slice none 0 0, .slice none 0 0], .bool false]) ∧ Below w.heap.size w w'
  | some (l, r) => ∃ g c A d rs, e = .returned (.tuple #[.agg #[.slice (some ⟨g, 0, none⟩) l.length c, .slice A r.length d], .bool true]) ∧ RowAt w' 3 (g, c, l) ∧ w.heap.size ≤ g ∧ NestR (g + 1) w'.heap.size w' 34 3 (.slice A r.length d) rs ∧ rs.map (·.2.2) = r ∧ Below w.heap.size w w'
theorem Filled.kept {w w' : World} {g e n k : Nat} {l : List Int} (h : Filled intS 0 0 w g e n k l) (hb : w'.heap[g]? = w.heap[g]?) : Filled intS 0 0 w' g e n k l := by
  obtain ⟨cur, h1, h2, h3, h4, h5⟩ := h
  exact ⟨cur, hb.trans h1, h2, h3, h4, h5⟩
/-- The parameter's block and the result's block. -/
structure TW (w W : World) (t : TypeId) (u v : Value) : Prop where
  p0 : W.heap[w.heap.size]? = some (.cells #[u, v] t (0, 0))
  p1 : W.heap[w.heap.size + 1]? = some (.cells #[.slice none 0 0, .slice none 0 0] t (0, 0))
  b : Below w.heap.size w W
  z : w.heap.size + 2 ≤ W.heap.size
theorem TW.new (w : World) (t : TypeId) (u v : Value) : TW w ((w.alloc (.cells #[u, v] t)).alloc (.cells #[.slice none 0 0, .slice none 0 0] t)) t u v := by
  have p1 := heap_alloc_new (w.alloc (.cells #[u, v] t)) (.cells #[.slice none 0 0, .slice none 0 0] t)
  rw [World.size_alloc] at p1
  exact ⟨((bnew _ _).block w.heap.size (by simp)).trans (heap_alloc_new w _), p1, btr (bnew w _) (bnew _ _), by simp⟩
theorem TW.chg {w W W' : World} {t : TypeId} {u v : Value} (h : TW w W t u v) {D : Nat → Prop} (hc : Chg D W W') (hd : ∀ k, D k → w.heap.size + 2 ≤ k) : TW w W' t u v := by
  have hz := h.z
  exact ⟨(hc.block _ (by omega) (fun e => by have := hd _ e; omega)).trans h.p0, (hc.block _ (by omega) (fun e => by have := hd _ e; omega)).trans h.p1, h.b.trans (hc.below (by omega) (fun k e => by have := hd k e; omega)), by have := hc.size; omega⟩
theorem TW.bl {w W W' : World} {t : TypeId} {u v : Value} (h : TW w W t u v) (hb : Below W.heap.size W W') : TW w W' t u v := h.chg (chg_below hb) (fun k e => by have := h.z; omega)
set_option maxHeartbeats 400000 in
theorem l5Swap_any (i : Int) (a b : Nat) (w : World) :
    Calls Try.prog 46 #[.int .i64 i, .int .i64 a, .int .i64 b] w fun e w' => e = .returned (.int .i64 (swZ a b i)) ∧ w' = w := by
  by_cases h1 : i = a
  · have t1 : (i == (a : Int)) = true := by rw [beq_iff_eq]; exact h1
    have hv : swZ a b i = b := by unfold swZ; rw [if_pos h1]
    clear h1
    go_enter Try.func46, Try.ntmps46
    go_wp2
    go_ret
    exact ⟨by rw [hv]; rfl, rfl⟩
  · have t1 : (i == (a : Int)) = false := by rw [beq_eq_false_iff_ne]; exact h1
    by_cases h2 : i = b
    · have t2 : (i == (b : Int)) = true := by rw [beq_iff_eq]; exact h2
      have hv : swZ a b i = a := by unfold swZ; rw [if_neg h1, if_pos h2]
      clear h1 h2
      go_enter Try.func46, Try.ntmps46
      go_wp2
      go_ret
      exact ⟨by rw [hv]; rfl, rfl⟩
    · have t2 : (i == (b : Int)) = false := by rw [beq_eq_false_iff_ne]; exact h2
      have hv : swZ a b i = i := by unfold swZ; rw [if_neg h1, if_neg h2]
      clear h1 h2
      go_enter Try.func46, Try.ntmps46
      go_wp2
      go_ret
      exact ⟨by rw [hv]; rfl, rfl⟩
set_option maxRecDepth 100000 in
set_option maxHeartbeats 4000000 in
theorem specModelTurn_any (A B : Option Addr) (n c m e0 : Nat) (x y : Int) (l : List Int) (r : List (List Int)) (w : World) (hl : Rd intS 0 w.heap.size w A n l) (hr : Rd (sliceS intS) 0 w.heap.size w B m r) :
    Calls Try.prog 22 #[.agg #[.slice A n c, .slice B m e0], .int .i64 x, .int .i64 y] w (RetM w (turnV l r x y)) := by
  obtain ⟨j0, hj1, hy0, hy1, hy2⟩ := info_parts (show (Try.prog.info? 34).map (fun i => (i.zero, i.size, i.bytes)) = some (some (.slice none 0 0), 1, 24) by kernel_rfl)
  have HJ := hid (And.intro hj1 (And.intro hy0 (And.intro hy1 hy2)))
  clear hj1 hy0 hy1 hy2
  have hln := hl.1
  have h63 := hl.2.1
  have HLN := hid hln
  have L := hid hl
  have R := hid hr
  obtain ⟨i0, hi1, hz0, hz1, hz2⟩ := info_parts (show (Try.prog.info? 3).map (fun i => (i.zero, i.size, i.bytes)) = some (some (.int .i64 0), 1, 8) by kernel_rfl)
  have T0 := hid (TW.new w 41 (.slice A n c) (.slice B m e0))
  clear hl hr hln
  by_cases hok : modelOk l r = true
  case neg =>
    have hok' : modelOk l r = false := by simpa using hok
    have HF := hid (show turnV l r x y = none by unfold turnV; rw [hok']; rfl)
    rw [HF.out]
    clear hok
    go_enter Try.func22, Try.ntmps22
    go_wp2_with fail
    refine (specModelValid_any A B n c m e0 0 l r _ (L.out.bl T0.out.b) (R.out.bl T0.out.b)).mono ?_
    rintro e w1 ⟨rfl, hb1⟩
    rw [hok']
    have T1 := hid (T0.out.bl hb1)
    clear hb1
    obtain ⟨q0, q1, q2, q3⟩ := at_get T1.out.p1
    go_wp2_with fail
    obtain ⟨k0, k1, _, _⟩ := at_get (at_set1 (v := .slice none 0 0) (at_set0 (v := .slice none 0 0) T1.out.p1))
    refine ⟨rfl, .tuple #[.agg #[.slice none 0 0, .slice none 0 0], .bool false], by simp [results, Try.results22, go_sem, k0, k1], rfl, ?_⟩
    exact (T1.out.b.setCell (p := ⟨w.heap.size + 1, 0, none⟩) (by show w.heap.size ≤ w.heap.size + 1; omega) _).setCell (p := ⟨w.heap.size + 1, 1, none⟩) (by show w.heap.size ≤ w.heap.size + 1; omega) _
  case pos =>
  have HOK := hid hok
  by_cases hx : inB x 0 ((n : Int) - 1) = true
  case neg =>
    have hx' : inB x 0 ((n : Int) - 1) = false := by simpa using hx
    have HF := hid (show turnV l r x y = none by unfold turnV; rw [← HLN.out, hx']; simp)
    rw [HF.out]
    clear hx hok
    go_enter Try.func22, Try.ntmps22
    go_wp2_with fail
    refine (specModelValid_any A B n c m e0 0 l r _ (L.out.bl T0.out.b) (R.out.bl T0.out.b)).mono ?_
    rintro e w1 ⟨rfl, hb1⟩
    rw [HOK.out]
    have T1 := hid (T0.out.bl hb1)
    clear hb1
    go_wp2_with fail
    refine (l6In_any x 0 ((n : Int) - 1) _).mono ?_
    rintro e w2 ⟨rfl, rfl⟩
    rw [hx']
    obtain ⟨q0, q1, q2, q3⟩ := at_get T1.out.p1
    go_wp2_with fail
    obtain ⟨k0, k1, _, _⟩ := at_get (at_set1 (v := .slice none 0 0) (at_set0 (v := .slice none 0 0) T1.out.p1))
    refine ⟨rfl, .tuple #[.agg #[.slice none 0 0, .slice none 0 0], .bool false], by simp [results, Try.results22, go_sem, k0, k1], rfl, ?_⟩
    exact (T1.out.b.setCell (p := ⟨w.heap.size + 1, 0, none⟩) (by show w.heap.size ≤ w.heap.size + 1; omega) _).setCell (p := ⟨w.heap.size + 1, 1, none⟩) (by show w.heap.size ≤ w.heap.size + 1; omega) _
  case pos =>
  by_cases hy : inB y 0 ((n : Int) - 1) = true
  case neg =>
    have hy' : inB y 0 ((n : Int) - 1) = false := by simpa using hy
    have HF := hid (show turnV l r x y = none by unfold turnV; rw [← HLN.out, hy']; simp)
    rw [HF.out]
    clear hy hok
    go_enter Try.func22, Try.ntmps22
    go_wp2_with fail
    refine (specModelValid_any A B n c m e0 0 l r _ (L.out.bl T0.out.b) (R.out.bl T0.out.b)).mono ?_
    rintro e w1 ⟨rfl, hb1⟩
    rw [HOK.out]
    have T1 := hid (T0.out.bl hb1)
    clear hb1
    go_wp2_with fail
    refine (l6In_any x 0 ((n : Int) - 1) _).mono ?_
    rintro e w2 ⟨rfl, rfl⟩
    rw [hx]
    go_wp2_with fail
    refine (l6In_any y 0 ((n : Int) - 1) _).mono ?_
    rintro e w2 ⟨rfl, rfl⟩
    rw [hy']
    obtain ⟨q0, q1, q2, q3⟩ := at_get T1.out.p1
    go_wp2_with fail
    obtain ⟨k0, k1, _, _⟩ := at_get (at_set1 (v := .slice none 0 0) (at_set0 (v := .slice none 0 0) T1.out.p1))
    refine ⟨rfl, .tuple #[.agg #[.slice none 0 0, .slice none 0 0], .bool false], by simp [results, Try.results22, go_sem, k0, k1], rfl, ?_⟩
    exact (T1.out.b.setCell (p := ⟨w.heap.size + 1, 0, none⟩) (by show w.heap.size ≤ w.heap.size + 1; omega) _).setCell (p := ⟨w.heap.size + 1, 1, none⟩) (by show w.heap.size ≤ w.heap.size + 1; omega) _
  case pos =>
  have hx2 := hx
  have hy2 := hy
  rw [inB_yes] at hx hy
  obtain ⟨hx0, hx1⟩ := hx
  obtain ⟨hy0, hy1⟩ := hy
  obtain ⟨a, rfl⟩ := Int.eq_ofNat_of_zero_le hx0
  obtain ⟨b, rfl⟩ := Int.eq_ofNat_of_zero_le hy0
  have hln := HLN.out
  obtain ⟨m1, m2, m3, m4, m5⟩ := modelOk_yes hok
  have hmr := R.out.1
  have HF := hid (show turnV l r (a : Int) (b : Int) = some (turnI a b l, turnM a b r) by unfold turnV; rw [hok, ← HLN.out, hx2, hy2]; rfl)
  rw [HF.out]
  have han : a < n := by omega
  have hbn : b < n := by omega
  have hn6 : n ≤ 6 := by omega
  have hn1 : 1 ≤ n := by omega
  have HMK := hid fun w => make_rule (P := Try.prog) Try.underlying34 hi1 hz0 hz1 hz2 (n := n) (by omega) (by omega) w
  clear hi1 hz0 hz1 hz2
  have HMN := hid (show m = n by omega)
  have HR5 := hid m5
  have HMR := hid hmr
  clear hok hx0 hx1 hy0 hy1 hln m1 m2 m3 m4 m5 hmr
  go_enter Try.func22, Try.ntmps22
  go_wp2_with fail
  refine (specModelValid_any A B n c m e0 0 l r _ (L.out.bl T0.out.b) (R.out.bl T0.out.b)).mono ?_
  rintro e w1 ⟨rfl, hb1⟩
  rw [HOK.out]
  have T1 := hid (T0.out.bl hb1)
  clear hb1
  go_wp2_with fail
  refine (l6In_any (a : Int) 0 ((n : Int) - 1) _).mono ?_
  rintro e w2 ⟨rfl, rfl⟩
  rw [hx2]
  go_wp2_with fail
  refine (l6In_any (b : Int) 0 ((n : Int) - 1) _).mono ?_
  rintro e w2 ⟨rfl, rfl⟩
  rw [hy2]
  have hmk := HMK.out
  go_wp2_with fail
  clear hmk
  have hwz := T1.out.z
  obtain ⟨T, hT⟩ : ∃ T, w1.heap.size + 1 + 1 = T := ⟨_, rfl⟩
  have HT := hid hT
  have f0 := (Filled.new intS 0 0 w1 3 (madeCells #[Value.int .i64 0] n) (turnI a b l) (by rw [size_madeCells, turnI_len, ← HLN.out]; show n = n * 1; omega) (by rw [turnI_len, ← HLN.out]; exact h63))
  rw [turnI_len, ← HLN.out] at f0
  have hbb := (bnew (w1.alloc (.cells (madeCells #[Value.int .i64 0] n) 3)) (.cells #[] 34))
  have hbc := btr hbb (bnew _ (.cells #[.slice (some ⟨w1.heap.size, 0, none⟩) n n, .slice (some ⟨w1.heap.size + 1, 0, none⟩) 0 0] 41))
  have F0 := hid (f0.kept (hbc.block w1.heap.size (by simp)))
  have n0 := ((NestR.nil (lo := w1.heap.size + 1) (hi := w1.heap.size + 1) (et := 34) (ei := 3) (w := w1.alloc (.cells (madeCells #[Value.int .i64 0] n) 3)) (by simp) #[] rfl).al (.cells #[.slice (some ⟨w1.heap.size, 0, none⟩) n n, .slice (some ⟨w1.heap.size + 1, 0, none⟩) 0 0] 41))
  rw [World.size_alloc] at n0
  have N0 := hid (n0.wide (hi' := (((w1.alloc (.cells (madeCells #[Value.int .i64 0] n) 3)).alloc (.cells #[] 34)).alloc (.cells #[.slice (some ⟨w1.heap.size, 0, none⟩) n n, .slice (some ⟨w1.heap.size + 1, 0, none⟩) 0 0] 41)).heap.size) (by simp))
  have m0 := heap_alloc_new ((w1.alloc (.cells (madeCells #[Value.int .i64 0] n) 3)).alloc (.cells #[] 34)) (.cells #[.slice (some ⟨w1.heap.size, 0, none⟩) n n, .slice (some ⟨w1.heap.size + 1, 0, none⟩) 0 0] 41)
  rw [show ((w1.alloc (.cells (madeCells #[Value.int .i64 0] n) 3)).alloc (.cells #[] 34)).heap.size = w1.heap.size + 1 + 1 by simp, hT] at m0
  have M0 := hid m0
  have T2 := hid (T1.out.bl (btr (bnew w1 (.cells (madeCells #[Value.int .i64 0] n) 3)) (hbc.mono (by simp) |> fun h => h)))
  rw [hT]
  clear f0 n0 m0 hbb hbc hT
  go_loopg [10] n (fun gk i wr => ∃ (k : Nat) (rs : List RowD) (g d0 : Nat), k + gk = n ∧ i = .int .i64 k ∧ Filled intS 0 0 wr w1.heap.size 3 n k (turnI a b l) ∧ NestR (w1.heap.size + 1) wr.heap.size wr 34 3 (.slice (some ⟨g, 0, none⟩) rs.length d0) rs ∧ rs.map (·.2.2) = (turnM a b r).take k ∧ rs.length = k ∧
    wr.heap[T]? = some (.cells #[.slice (some ⟨w1.heap.size, 0, none⟩) n n, .slice (some ⟨g, 0, none⟩) rs.length d0] 41 (0, 0)) ∧ (g ≠ T ∧ ∀ q ∈ rs, q.1 ≠ T) ∧ TW w wr 41 (.slice A n c) (.slice B m e0))
  case atStart => exact ⟨0, [], _, _, Nat.zero_add _, rfl, F0.out, N0.out, rfl, rfl, M0.out, ⟨by have := HT.out; omega, (fun q hq => by cases hq)⟩, T2.out⟩
  case round =>
    clear F0 N0 M0 T2
    obtain ⟨k, rs, g, d0, hkg, rfl, hF, hN, hrm, hrl, hM, hsep, hTW⟩ := hrel
    have HKG := hid hkg
    have HF1 := hid hF
    have HN := hid hN
    have HRM := hid hrm
    have HRL := hid hrl
    have HM := hid hM
    have HSEP := hid hsep
    have HTW := hid hTW
    have hk : k ≤ n := by omega
    have hrl8 : rs.length ≤ 8 := by omega
    have hgs := hF.lt
    have hTl := (Array.getElem?_eq_some_iff.1 hM).1
    obtain ⟨hgl, hgh⟩ := hN.own.own_lt (k := g) rfl
    obtain ⟨tc0, tc1, tf0, tf1⟩ := at_get hM
    obtain ⟨pc0, pc1, _, _⟩ := at_get hTW.p0
    clear hkg hF hN hrm hrl hM hsep
    by_cases hlt : k < n
    case neg =>
      obtain rfl : n = k := by omega
      obtain ⟨rc0, rc1, rf0, rf1⟩ := at_get hTW.p1
      have hTR : w.heap.size + 1 < T := by have := HT.out; omega
      have hTR2 : ¬ T = w.heap.size + 1 := by omega
      clear hTW hk hlt
      go_wp2_with fail
      obtain ⟨k0, k1, _, _⟩ := at_get (at_set1 (v := .slice (some ⟨g, 0, none⟩) rs.length d0) (at_set0 (v := .slice (some ⟨w1.heap.size, 0, none⟩) n n) HTW.out.p1))
      have hcR := ((Chg.refl (fun q => q = w.heap.size + 1) wr).set (p := ⟨w.heap.size + 1, 0, none⟩) rfl (.slice (some ⟨w1.heap.size, 0, none⟩) n n)).set (p := ⟨w.heap.size + 1, 1, none⟩) rfl (.slice (some ⟨g, 0, none⟩) rs.length d0)
      have hll : n = (turnI a b l).length := by rw [turnI_len]; exact HLN.out
      have hrr : rs.length = (turnM a b r).length := by rw [turnM_len, HRL.out, ← HMR.out, HMN.out]
      refine ⟨rfl, .tuple #[.agg #[.slice (some ⟨w1.heap.size, 0, none⟩) n n, .slice (some ⟨g, 0, none⟩) rs.length d0], .bool true], by simp [results, Try.results22, go_sem, k0, k1], w1.heap.size, n, some ⟨g, 0, none⟩, d0, rs, by rw [← hll, ← hrr], (HF1.out.kept (hcR.block _ hgs (fun e => by omega))).rowAt, by omega, ?_, by rw [HRM.out, List.take_of_length_le (by rw [← hrr, HRL.out]; exact Nat.le_refl _)], ?_⟩
      · rw [← hrr]
        exact (HN.out.keep hcR (fun q hq e => by have := (HN.out.own.own_lt hq).1; omega) (fun q hq e => by have := (HN.out.row q hq).1; omega)).wide hcR.size
      · exact HTW.out.b.trans (hcR.below (by have := HTW.out.z; omega) (fun q e => by omega))
    case pos =>
      have hki : (k : Int) < (n : Int) := by omega
      have hsk := sw_lt han hbn hlt
      have hski : ((sw a b k : Nat) : Int) < (n : Int) := by omega
      have L2 := hid (L.out.bl hTW.b)
      have R2 := hid (R.out.bl hTW.b)
      have hsum := L.out.2.2
      obtain ⟨bA, oA, rfl, _, _, _⟩ := hsum (by omega)
      have ci : wr.cell? ⟨bA, oA + sw a b k, none⟩ = some (.int .i64 (gt l (sw a b k))) := by
        obtain ⟨b', off', e, _, _, ha⟩ := L2.out.2.2 (by omega)
        injection e with e
        injection e with e1 e2
        subst e1 e2
        exact ha.int hsk
      obtain ⟨S, hS⟩ : ∃ S, sw a b k = S := ⟨_, rfl⟩
      have DIR := hid fun w' : World => (l5Swap_any (k : Int) a b w').mono fun e w'' (h : _ ∧ w'' = w') => (⟨by rw [h.1, swZ_nat, hS], h.2⟩ : e = .returned (.int .i64 (S : Int)) ∧ w'' = w')
      rw [hS] at ci hski hsk
      have HS := hid hS
      obtain ⟨⟨v0, hv0⟩, hv1⟩ := HF1.out.at_ (i := k) (by show k < n * 1; omega)
      clear hS hTW hsum
      go_wp2_with fail
      refine wp_region_still_tail 12 (by kernel_rfl) (by kernel_rfl) ?_
      simp only [List.take_succ_cons, List.take_zero, List.drop_succ_cons, List.drop_zero]
      repeat still_step
      still_call (DIR.out _)
      repeat still_step
      try refine wpStill_nil ?_
      change wpList _ _ _ _ _ wr.drew
      have hmk := HMK.out
      go_wp2_with fail
      clear hmk v0 hv0 hv1 ci tc0 tc1 tf0 tf1 pc0 pc1 DIR
      have hcS := ((Chg.refl (fun q => q = w1.heap.size) wr).set (p := ⟨w1.heap.size, k, none⟩) rfl (.int .i64 (gt l S)))
      have hF2 := HF1.out.set1 rfl hlt (v := .int .i64 (gt l S)) (by show Value.int .i64 (gt l S) = .int .i64 (gt (turnI a b l) k); rw [turnI_gt (by rw [← HLN.out]; exact hlt), HS.out]) (.inr (Nat.zero_le _))
      have F2 := hid hF2
      have N2 := hid ((HN.out.keep hcS (fun q hq e => by have := (HN.out.own.own_lt hq).1; omega) (fun q hq e => by have := (HN.out.row q hq).1; omega)).wide hcS.size)
      have M2 := hid ((hcS.block T hTl (fun e => by have := HT.out; omega)).trans HM.out)
      have T2 := hid (HTW.out.chg hcS (fun q e => by omega))
      have hXs : (wr.setCell ⟨w1.heap.size, k, none⟩ (.int .i64 (gt l S))).heap.size = wr.heap.size := by simp
      have g0 := Filled.new intS 0 0 (wr.setCell ⟨w1.heap.size, k, none⟩ (.int .i64 (gt l S))) 3 (madeCells #[Value.int .i64 0] n) (turnI a b (gt r S))
      have hrS : (gt r S).length = n := by rw [(HR5.out _ (gt_mem (by rw [← HMR.out, HMN.out]; exact hsk))).1, ← HLN.out]
      rw [turnI_len, hrS, hXs] at g0
      have G0 := hid (g0 (by rw [size_madeCells]; show n = n * 1; omega) h63)
      have HRS := hid hrS
      have HXS := hid hXs
      clear hF2 g0 hrS hXs hcS HF1 HN HM HTW
      generalize (wr.setCell ⟨w1.heap.size, k, none⟩ (.int .i64 (gt l S))) = X at *
      obtain ⟨gR, hgR⟩ : ∃ gR, wr.heap.size = gR := ⟨_, rfl⟩
      rw [hgR] at hTl hgs hgh ⊢
      have HG := hid hgR
      have G1 := hid (hgR ▸ G0.out)
      have HXS2 := hid (hgR ▸ HXS.out)
      clear hgR G0 HXS
      obtain ⟨gko, hgo⟩ : ∃ x : Nat, x = gk := ⟨_, rfl⟩
      subst hgo
      go_loopg [12] n (fun gk i wr => ∃ j : Nat, j + gk = n ∧ i = .int .i64 j ∧ Filled intS 0 0 wr gR 3 n j (turnI a b (gt r S)) ∧ Chg (fun q => q = gR) (X.alloc (.cells (madeCells #[Value.int .i64 0] n) 3)) wr)
      case atStart => exact ⟨0, Nat.zero_add _, rfl, G1.out.kept rfl, (Chg.refl _ _).drew⟩
      case round =>
        clear G1
        obtain ⟨j, hjg, rfl, hF, hC⟩ := hrel
        have HJG := hid hjg
        have HFR := hid hF
        have hXs := HXS2.out
        have hCX : Chg (fun q => q = gR) X wr := (chg_new X _ _).trans hC
        have hgr := hF.lt
        have hsz := hCX.size
        have HCX := hid hCX
        have HCX0 := hid hC
        have hj : j ≤ n := by omega
        have hM3 := (hCX.block T (by omega) (fun e => by omega)).trans M2.out
        have hT3 := T2.out.chg hCX (fun q e => by omega)
        have HM3 := hid hM3
        have HT3 := hid hT3
        have HN3 := hid ((N2.out.keep hCX (fun q hq e => by have := (N2.out.own.own_lt hq).2; omega) (fun q hq e => by have := (N2.out.row q hq).2.1; omega)).wide hsz)
        have HF3 := hid (F2.out.kept (hCX.block _ (by omega) (fun e => by omega)))
        obtain ⟨tc0, tc1, tf0, tf1⟩ := at_get hM3
        obtain ⟨pc0, pc1, _, _⟩ := at_get hT3.p0
        clear hjg hF hC hCX hM3 hT3
        by_cases hjn : j < n
        case neg =>
          obtain rfl : n = j := by omega
          have hrow := HFR.out.rowAt
          have HROW := hid hrow
          clear hrow hjn hj
          go_wp2_with (at_builtin; refine wpList_append_rowV rfl (.tmp 80) (.tmp 82) _ rfl Try.underlying22 HJ.out (v := .slice (some ⟨g, 0, none⟩) rs.length d0) rfl rfl (HN3.out.al _) (r := (gR, n, turnI a b (gt r S))) (by show Value.slice _ (turnI a b (gt r S)).length _ = _; rw [turnI_len, HRS.out]) rfl (heap_alloc_new _ _) (HROW.out.al _) (by show w1.heap.size + 1 ≤ gR; omega) (fun e => by have e2 : some g = some gR := e; injection e2 with e2; omega) (fun q hq e => by have := (N2.out.row q hq).2.1; have e2 : q.1 = gR := e; omega) (by omega) (by simp <;> omega) (by simp <;> omega) ?_; intro A3 c3 w3 hN4 hc3 hg3; obtain ⟨g3, rfl, hg3⟩ := hg3; have hc4 : Chg (fun q => q = g) wr w3 := (chg_new wr _ _).trans (hc3.wide (fun q h => by have h' : some g = some q := h; injection h' with h'; exact h'.symm)); have hM4 := (hc4.block T (by omega) (fun e => HSEP.out.1 e.symm)).trans HM3.out; obtain ⟨mc2, mc3, mf2, mf3⟩ := at_get hM4; have HM4 := hid hM4; have HN4 := hid hN4; have HC4 := hid hc4; clear hM4 hN4 hc4 hc3)
          have hg3T : g3 ≠ T := by
            rcases hg3 with e | e
            · have e2 : some g = some g3 := e
              injection e2 with e2
              have := HSEP.out.1
              omega
            · rw [World.size_alloc] at e
              omega
          have hg3l : w1.heap.size + 1 ≤ g3 := by
            rcases hg3 with e | e
            · have e2 : some g = some g3 := e
              injection e2 with e2
              omega
            · rw [World.size_alloc] at e
              omega
          have hcT := (Chg.refl (fun q => q = T) w3).set (p := ⟨T, 1, none⟩) rfl (.slice (some ⟨g3, 0, none⟩) (rs.length + 1) c3)
          have hz4 := HC4.out.size
          go_roundg (gko - 1)
          case measure => have := HKG.out; omega
          case rel =>
            refine ⟨k + 1, rs ++ [(gR, n, turnI a b (gt r S))], g3, c3, by have := HKG.out; omega, by go_num, ?_, ?_, ?_, by rw [List.length_append, HRL.out]; rfl, ?_, ⟨hg3T, fun q hq => ?_⟩, ?_⟩
            · exact (HF3.out.kept (HC4.out.block _ (by omega) (fun e => by omega))).kept (hcT.block _ (by omega) (fun e => by have := HT.out; omega))
            · rw [List.length_append]
              exact (HN4.out.keep hcT (fun q hq e => by have h' : some g3 = some q := hq; injection h' with h'; omega) (fun q hq e => by
                rcases List.mem_append.1 hq with hq | hq
                · exact HSEP.out.2 q hq e
                · rw [List.mem_singleton] at hq; subst hq; have e' : gR = T := e; omega)).wide (by simp)
            · rw [List.map_append, HRM.out, take_gt (by rw [turnM_len, ← HMR.out, HMN.out]; exact hlt), turnM_gt (by rw [← HMR.out, HMN.out]; exact han) (by rw [← HMR.out, HMN.out]; exact hbn) (by rw [← HMR.out, HMN.out]; exact hlt), HS.out]
              rfl
            · rw [List.length_append]
              exact at_set1 HM4.out
            · rcases List.mem_append.1 hq with hq | hq
              · exact HSEP.out.2 q hq
              · rw [List.mem_singleton] at hq; subst hq; show gR ≠ T; omega
            · exact (HT3.out.chg HC4.out (fun q e => by omega)).chg hcT (fun q e => by have := HT.out; omega)
        case pos =>
          have hji : (j : Int) < (n : Int) := by omega
          have hsj := sw_lt han hbn hjn
          have hsji : ((sw a b j : Nat) : Int) < (n : Int) := by omega
          have R3 := hid (R.out.bl HT3.out.b)
          have hmn := HMN.out
          obtain ⟨bB, oB, hBB, _, _, hatB⟩ := R3.out.2.2 (by omega)
          obtain ⟨AX, cX, cx, _, hRX⟩ := hatB.row (k := S) (by omega)
          rw [HRS.out] at cx hRX
          obtain ⟨bx, ox, hAX, _, _, hatx⟩ := hRX.2.2 (by omega)
          have ci := hatx.int hsj
          subst hAX
          obtain ⟨S2, hS2⟩ : ∃ S2, sw a b j = S2 := ⟨_, rfl⟩
          have DIR1 := hid fun w' : World => (l5Swap_any (k : Int) a b w').mono fun e w'' (h : _ ∧ w'' = w') => (⟨by rw [h.1, swZ_nat, HS.out], h.2⟩ : e = .returned (.int .i64 (S : Int)) ∧ w'' = w')
          have DIR2 := hid fun w' : World => (l5Swap_any (j : Int) a b w').mono fun e w'' (h : _ ∧ w'' = w') => (⟨by rw [h.1, swZ_nat, hS2], h.2⟩ : e = .returned (.int .i64 (S2 : Int)) ∧ w'' = w')
          have hvj : gt (turnI a b (gt r S)) j = gt (gt r S) S2 := by rw [turnI_gt (by rw [HRS.out]; exact hjn), hS2]
          have hSm : (S : Int) < (m : Int) := by omega
          rw [hS2] at ci hsji hsj
          obtain ⟨y, hy⟩ : ∃ y, gt (gt r S) S2 = y := ⟨_, rfl⟩
          rw [hy] at ci hvj
          have HVJ := hid hvj
          obtain ⟨⟨v0, hv0⟩, hv1⟩ := HFR.out.at_ (i := j) (by show j < n * 1; omega)
          subst hBB
          clear hS2 hRX hatB hatx hmn hy hvj hXs
          go_wp2_with fail
          refine wp_region_still_tail 17 (by kernel_rfl) (by kernel_rfl) ?_
          simp only [List.take_succ_cons, List.take_zero, List.drop_succ_cons, List.drop_zero]
          repeat still_step
          still_call (DIR1.out _)
          repeat still_step
          still_call (DIR2.out _)
          repeat still_step
          try refine wpStill_nil ?_
          change wpList _ _ _ _ _ wr.drew
          go_wp2_with fail
          have hcS := (Chg.refl (fun q => q = gR) wr).set (p := ⟨gR, j, none⟩) rfl (.int .i64 y)
          have hF5 := HFR.out.set1 rfl hjn (v := .int .i64 y) (by show Value.int .i64 y = .int .i64 (gt (turnI a b (gt r S)) j); rw [HVJ.out]) (.inr (Nat.zero_le _))
          go_roundg (gk - 1)
          case measure => have := HJG.out; omega
          case rel => exact ⟨j + 1, by have := HJG.out; omega, by go_num, hF5.kept rfl, ((HCX0.out).trans hcS).drew⟩
end Go.Proofs.Yteccacnojmilcaa
