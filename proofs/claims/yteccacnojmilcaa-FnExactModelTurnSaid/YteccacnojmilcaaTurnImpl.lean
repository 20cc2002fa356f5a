/- ModelTurn: what the program's function returns. -/
import Derived.Test.YteccacnojmilcaaTurnFns
import Derived.Test.YteccacnojmilcaaNestTurn
import Derived.Test.YteccacnojmilcaaNestFns
import Derived.Test.YteccacnojmilcaaNestSet
import Derived.Test.YteccacnojmilcaaRegInv
namespace Go.Proofs.Yteccacnojmilcaa
open Go.RowKit
theorem RowAt.set {w : World} {e : TypeId} {g c : Nat} {l : List Int} (h : RowAt w e (g, c, l)) {j : Nat} (hj : j < l.length) (x : Int) : RowAt (w.setCell ⟨g, j, none⟩ (.int .i64 x)) e (g, c, l.set j x) := by
  obtain ⟨cur, h1, h2, h3, h4, h5⟩ := h
  have h2' : l.length ≤ c := h2
  have h3' : l.length ≤ cur.size := h3
  refine ⟨_, heap_setCell_same w g j cur e _ h1, by show (l.set j x).length ≤ c; rw [List.length_set]; exact h2, by show (l.set j x).length ≤ _; rw [List.length_set, Array.size_setIfInBounds]; exact h3, by show (l.set j x).length ≤ _; rw [List.length_set]; exact h4, fun i hi => ?_⟩
  have hi' : i < l.length := by have hi2 : i < (l.set j x).length := hi; rwa [List.length_set] at hi2
  rw [Array.getElem?_setIfInBounds]
  show _ = some (Value.int .i64 (gt (l.set j x) i))
  by_cases e : j = i
  · subst e
    rw [if_pos rfl, if_pos (by omega)]
    simp [gt, hi']
  · rw [if_neg e]
    have := h5 i hi'
    rw [this]
    simp [gt, List.getElem?_set, e]
theorem RowAt.at_ {w : World} {e : TypeId} {g c : Nat} {l : List Int} (h : RowAt w e (g, c, l)) {j : Nat} (hj : j < l.length) : w.cell? ⟨g, j, none⟩ = some (.int .i64 (gt l j)) ∧ w.frozen? ⟨g, j, none⟩ = false := by
  obtain ⟨cur, h1, h2, h3, h4, h5⟩ := h
  exact ⟨by rw [cell_of_row w g _ cur e (0, 0) h1]; exact h5 j hj, frozen_of_row _ _ _ _ _ h1⟩
/-- Two places of a list, exchanged by two stores. -/
theorem set_turn {α : Type} [Inhabited α] {l : List α} {a b : Nat} (ha : a < l.length) (hb : b < l.length) : (l.set a (gt l b)).set b (gt l a) = turnI a b l := by
  refine ext_gt (by rw [turnI_len]; simp) fun k hk => ?_
  have hk' : k < l.length := by simpa using hk
  rw [turnI_gt hk']
  unfold sw gt
  simp only [List.getD_eq_getElem?_getD, List.getElem?_set, List.length_set]
  by_cases h1 : b = k
  · subst h1
    by_cases h2 : b = a
    · subst h2; simp [hk']
    · have h3 : ¬ a = b := fun e => h2 e.symm
      simp [h2, hk']
  · by_cases h2 : a = k
    · subst h2
      have h3 : ¬ b = a := h1
      simp [h3, ha, hb]
    · have h3 : ¬ k = a := fun e => h2 e.symm
      have h4 : ¬ k = b := fun e => h1 e.symm
      simp [h1, h2, h3, h4]
set_option maxRecDepth 100000 in
set_option maxHeartbeats 4000000 in
theorem implModelTurn_any (A B : Option Addr) (n c m e0 : Nat) (x y : Int) (l : List Int) (r : List (List Int)) (w : World) (hl : Rd intS 0 w.heap.size w A n l) (hr : Rd (sliceS intS) 0 w.heap.size w B m r) :
    Calls Try.prog 24 #[.agg #[.slice A n c, .slice B m e0], .int .i64 x, .int .i64 y] w (RetM w (turnV l r x y)) := by
  obtain ⟨j0, hj1, hy0, hy1, hy2⟩ := info_parts (show (Try.prog.info? 34).map (fun i => (i.zero, i.size, i.bytes)) = some (some (.slice none 0 0), 1, 24) by kernel_rfl)
  have HJ := hid (And.intro hj1 (And.intro hy0 (And.intro hy1 hy2)))
  clear hj1 hy0 hy1 hy2
  have hln := hl.1
  have h63 := hl.2.1
  have HLN := hid hln
  have L := hid hl
  have R := hid hr
  have T0 := hid (TW.new w 41 (.slice A n c) (.slice B m e0))
  clear hl hr hln
  by_cases hok : modelOk l r = true
  case neg =>
    have hok' : modelOk l r = false := by simpa using hok
    have HF := hid (show turnV l r x y = none by unfold turnV; rw [hok']; rfl)
    rw [HF.out]
    clear hok
    obtain ⟨pc0, pc1, _, _⟩ := at_get T0.out.p0
    go_enter Try.func24, Try.ntmps24
    go_wp2_with fail
    refine (implModelValid_any A B n c m e0 0 l r _ (L.out.bl T0.out.b) (R.out.bl T0.out.b)).mono ?_
    rintro e w1 ⟨rfl, hb1⟩
    have T1 := hid (T0.out.bl hb1)
    clear hb1 pc0 pc1
    obtain ⟨pc0, pc1, _, _⟩ := at_get T1.out.p0
    rw [hok']
    obtain ⟨q0, q1, q2, q3⟩ := at_get T1.out.p1
    go_wp2_with fail
    obtain ⟨k0, k1, _, _⟩ := at_get (at_set1 (v := .slice none 0 0) (at_set0 (v := .slice none 0 0) T1.out.p1))
    refine ⟨rfl, .tuple #[.agg #[.slice none 0 0, .slice none 0 0], .bool false], by simp [results, Try.results24, go_sem, k0, k1], rfl, ?_⟩
    exact (T1.out.b.setCell (p := ⟨w.heap.size + 1, 0, none⟩) (by show w.heap.size ≤ w.heap.size + 1; omega) _).setCell (p := ⟨w.heap.size + 1, 1, none⟩) (by show w.heap.size ≤ w.heap.size + 1; omega) _
  case pos =>
  have HOK := hid hok
  by_cases hx0 : 0 ≤ x
  case neg =>
    have hx0' : x < 0 := by omega
    have HF := hid (show turnV l r x y = none by unfold turnV; rw [inB_no.2 (fun h => hx0 h.1)]; simp)
    rw [HF.out]
    clear hok hx0
    obtain ⟨pc0, pc1, _, _⟩ := at_get T0.out.p0
    go_enter Try.func24, Try.ntmps24
    go_wp2_with fail
    refine (implModelValid_any A B n c m e0 0 l r _ (L.out.bl T0.out.b) (R.out.bl T0.out.b)).mono ?_
    rintro e w1 ⟨rfl, hb1⟩
    have T1 := hid (T0.out.bl hb1)
    clear hb1 pc0 pc1
    obtain ⟨pc0, pc1, _, _⟩ := at_get T1.out.p0
    rw [HOK.out]
    obtain ⟨q0, q1, q2, q3⟩ := at_get T1.out.p1
    go_wp2_with fail
    obtain ⟨k0, k1, _, _⟩ := at_get (at_set1 (v := .slice none 0 0) (at_set0 (v := .slice none 0 0) T1.out.p1))
    refine ⟨rfl, .tuple #[.agg #[.slice none 0 0, .slice none 0 0], .bool false], by simp [results, Try.results24, go_sem, k0, k1], rfl, ?_⟩
    exact (T1.out.b.setCell (p := ⟨w.heap.size + 1, 0, none⟩) (by show w.heap.size ≤ w.heap.size + 1; omega) _).setCell (p := ⟨w.heap.size + 1, 1, none⟩) (by show w.heap.size ≤ w.heap.size + 1; omega) _
  case pos =>
  have hx0' : ¬ x < 0 := by omega
  by_cases hx1 : x < n
  case neg =>
    have hx1' : (n : Int) ≤ x := by omega
    have HF := hid (show turnV l r x y = none by unfold turnV; rw [inB_no.2 (fun h => by have := h.2; have := HLN.out; omega)]; simp)
    rw [HF.out]
    clear hok hx1
    obtain ⟨pc0, pc1, _, _⟩ := at_get T0.out.p0
    go_enter Try.func24, Try.ntmps24
    go_wp2_with fail
    refine (implModelValid_any A B n c m e0 0 l r _ (L.out.bl T0.out.b) (R.out.bl T0.out.b)).mono ?_
    rintro e w1 ⟨rfl, hb1⟩
    have T1 := hid (T0.out.bl hb1)
    clear hb1 pc0 pc1
    obtain ⟨pc0, pc1, _, _⟩ := at_get T1.out.p0
    rw [HOK.out]
    go_wp2_with fail
    refine (modelSize_any A B n c m e0 _).mono ?_
    rintro e w2 ⟨rfl, hb1⟩
    have T2 := hid (T1.out.bl hb1)
    clear hb1 pc0 pc1
    obtain ⟨pc0, pc1, _, _⟩ := at_get T2.out.p0
    obtain ⟨q0, q1, q2, q3⟩ := at_get T2.out.p1
    go_wp2_with fail
    obtain ⟨k0, k1, _, _⟩ := at_get (at_set1 (v := .slice none 0 0) (at_set0 (v := .slice none 0 0) T2.out.p1))
    refine ⟨rfl, .tuple #[.agg #[.slice none 0 0, .slice none 0 0], .bool false], by simp [results, Try.results24, go_sem, k0, k1], rfl, ?_⟩
    exact (T2.out.b.setCell (p := ⟨w.heap.size + 1, 0, none⟩) (by show w.heap.size ≤ w.heap.size + 1; omega) _).setCell (p := ⟨w.heap.size + 1, 1, none⟩) (by show w.heap.size ≤ w.heap.size + 1; omega) _
  case pos =>
  have hx1' : ¬ (n : Int) ≤ x := by omega
  by_cases hy0 : 0 ≤ y
  case neg =>
    have hy0' : y < 0 := by omega
    have HF := hid (show turnV l r x y = none by unfold turnV; rw [show inB y 0 ((l.length : Int) - 1) = false from inB_no.2 (fun h => hy0 h.1)]; simp)
    rw [HF.out]
    clear hok hy0
    obtain ⟨pc0, pc1, _, _⟩ := at_get T0.out.p0
    go_enter Try.func24, Try.ntmps24
    go_wp2_with fail
    refine (implModelValid_any A B n c m e0 0 l r _ (L.out.bl T0.out.b) (R.out.bl T0.out.b)).mono ?_
    rintro e w1 ⟨rfl, hb1⟩
    have T1 := hid (T0.out.bl hb1)
    clear hb1 pc0 pc1
    obtain ⟨pc0, pc1, _, _⟩ := at_get T1.out.p0
    rw [HOK.out]
    go_wp2_with fail
    refine (modelSize_any A B n c m e0 _).mono ?_
    rintro e w2 ⟨rfl, hb1⟩
    have T2 := hid (T1.out.bl hb1)
    clear hb1 pc0 pc1
    obtain ⟨pc0, pc1, _, _⟩ := at_get T2.out.p0
    obtain ⟨q0, q1, q2, q3⟩ := at_get T2.out.p1
    go_wp2_with fail
    obtain ⟨k0, k1, _, _⟩ := at_get (at_set1 (v := .slice none 0 0) (at_set0 (v := .slice none 0 0) T2.out.p1))
    refine ⟨rfl, .tuple #[.agg #[.slice none 0 0, .slice none 0 0], .bool false], by simp [results, Try.results24, go_sem, k0, k1], rfl, ?_⟩
    exact (T2.out.b.setCell (p := ⟨w.heap.size + 1, 0, none⟩) (by show w.heap.size ≤ w.heap.size + 1; omega) _).setCell (p := ⟨w.heap.size + 1, 1, none⟩) (by show w.heap.size ≤ w.heap.size + 1; omega) _
  case pos =>
  have hy0' : ¬ y < 0 := by omega
  by_cases hy1 : y < n
  case neg =>
    have hy1' : (n : Int) ≤ y := by omega
    have HF := hid (show turnV l r x y = none by unfold turnV; rw [show inB y 0 ((l.length : Int) - 1) = false from inB_no.2 (fun h => by have := h.2; have := HLN.out; omega)]; simp)
    rw [HF.out]
    clear hok hy1
    obtain ⟨pc0, pc1, _, _⟩ := at_get T0.out.p0
    go_enter Try.func24, Try.ntmps24
    go_wp2_with fail
    refine (implModelValid_any A B n c m e0 0 l r _ (L.out.bl T0.out.b) (R.out.bl T0.out.b)).mono ?_
    rintro e w1 ⟨rfl, hb1⟩
    have T1 := hid (T0.out.bl hb1)
    clear hb1 pc0 pc1
    obtain ⟨pc0, pc1, _, _⟩ := at_get T1.out.p0
    rw [HOK.out]
    go_wp2_with fail
    refine (modelSize_any A B n c m e0 _).mono ?_
    rintro e w2 ⟨rfl, hb1⟩
    have T2 := hid (T1.out.bl hb1)
    clear hb1 pc0 pc1
    obtain ⟨pc0, pc1, _, _⟩ := at_get T2.out.p0
    go_wp2_with fail
    refine (modelSize_any A B n c m e0 _).mono ?_
    rintro e w3 ⟨rfl, hb1⟩
    have T3 := hid (T2.out.bl hb1)
    clear hb1 pc0 pc1
    obtain ⟨pc0, pc1, _, _⟩ := at_get T3.out.p0
    obtain ⟨q0, q1, q2, q3⟩ := at_get T3.out.p1
    go_wp2_with fail
    obtain ⟨k0, k1, _, _⟩ := at_get (at_set1 (v := .slice none 0 0) (at_set0 (v := .slice none 0 0) T3.out.p1))
    refine ⟨rfl, .tuple #[.agg #[.slice none 0 0, .slice none 0 0], .bool false], by simp [results, Try.results24, go_sem, k0, k1], rfl, ?_⟩
    exact (T3.out.b.setCell (p := ⟨w.heap.size + 1, 0, none⟩) (by show w.heap.size ≤ w.heap.size + 1; omega) _).setCell (p := ⟨w.heap.size + 1, 1, none⟩) (by show w.heap.size ≤ w.heap.size + 1; omega) _
  case pos =>
  have hy1' : ¬ (n : Int) ≤ y := by omega
  obtain ⟨a, rfl⟩ := Int.eq_ofNat_of_zero_le hx0
  obtain ⟨b, rfl⟩ := Int.eq_ofNat_of_zero_le hy0
  have hln := HLN.out
  obtain ⟨m1, m2, m3, m4, m5⟩ := modelOk_yes hok
  have hmr := R.out.1
  have HF := hid (show turnV l r (a : Int) (b : Int) = some (turnI a b l, turnM a b r) by unfold turnV; rw [hok, inB_yes.2 ⟨by omega, by omega⟩, inB_yes.2 ⟨by omega, by omega⟩]; rfl)
  rw [HF.out]
  have han : a < n := by omega
  have hbn : b < n := by omega
  have hn6 : n ≤ 6 := by omega
  have hn1 : 1 ≤ n := by omega
  have HMN := hid (show m = n by omega)
  have HR5 := hid m5
  have HMR := hid hmr
  clear hok hx0 hx1 hy0 hy1 hln m1 m2 m3 m4 m5 hmr
  obtain ⟨pc0, pc1, _, _⟩ := at_get T0.out.p0
  go_enter Try.func24, Try.ntmps24
  go_wp2_with fail
  refine (implModelValid_any A B n c m e0 0 l r _ (L.out.bl T0.out.b) (R.out.bl T0.out.b)).mono ?_
  rintro e w1 ⟨rfl, hb1⟩
  have T1 := hid (T0.out.bl hb1)
  clear hb1 pc0 pc1
  obtain ⟨pc0, pc1, _, _⟩ := at_get T1.out.p0
  rw [HOK.out]
  go_wp2_with fail
  refine (modelSize_any A B n c m e0 _).mono ?_
  rintro e w2 ⟨rfl, hb1⟩
  have T2 := hid (T1.out.bl hb1)
  clear hb1 pc0 pc1
  obtain ⟨pc0, pc1, _, _⟩ := at_get T2.out.p0
  go_wp2_with fail
  refine (modelSize_any A B n c m e0 _).mono ?_
  rintro e w3 ⟨rfl, hb1⟩
  have T3 := hid (T2.out.bl hb1)
  clear hb1 pc0 pc1
  obtain ⟨pc0, pc1, _, _⟩ := at_get T3.out.p0
  obtain ⟨bA, oA, rfl⟩ : ∃ bA oA, A = some ⟨bA, oA, none⟩ := by
    obtain ⟨bA, oA, h, _⟩ := L.out.2.2 (by omega)
    exact ⟨bA, oA, h⟩
  go_wp2_with fail
  refine (clone_any bA oA n c 0 l w3 (L.out.bl T3.out.b) (by omega) (by omega)).mono ?_
  rintro e w4 ⟨gS, dS, rfl, hra, hgl, hb4⟩
  have T4 := hid (T3.out.bl hb4)
  have RS := hid hra
  have hgs4 := hra.lt
  have hz3 := T3.out.z
  clear hb4 hra pc0 pc1
  obtain ⟨pc0, pc1, _, _⟩ := at_get T4.out.p0
  go_wp2_with fail
  obtain ⟨T, hT⟩ : ∃ T, w4.heap.size = T := ⟨_, rfl⟩
  have HT := hid hT
  have hm4 := heap_alloc_new w4 (.cells #[.slice (some ⟨gS, 0, none⟩) n dS, .slice none 0 0] 41)
  have hb5 := bnew w4 (.cells #[.slice (some ⟨gS, 0, none⟩) n dS, .slice none 0 0] 41)
  have hs5 : (w4.alloc (.cells #[.slice (some ⟨gS, 0, none⟩) n dS, .slice none 0 0] 41)).heap.size = w4.heap.size + 1 := by simp
  rw [hT] at hm4 hs5 hgs4 ⊢
  have HM := hid hm4
  have T5 := hid (T4.out.bl hb5)
  have RS5 := hid (RS.out.kept (hb5.block _ (by rw [hT]; exact hgs4)))
  have HS5 := hid hs5
  clear hm4 hb5 hs5 hT RS T4
  generalize (w4.alloc (.cells #[.slice (some ⟨gS, 0, none⟩) n dS, .slice none 0 0] 41)) = w5 at *
  have hl1 : a < l.length := by rw [← HLN.out]; exact han
  have hl2 : b < l.length := by rw [← HLN.out]; exact hbn
  have hai : (a : Int) < (n : Int) := by omega
  have hbi : (b : Int) < (n : Int) := by omega
  have hT5 : T < w5.heap.size := by have := HS5.out; omega
  obtain ⟨va, hva⟩ : ∃ v, gt l a = v := ⟨_, rfl⟩
  obtain ⟨vb, hvb⟩ : ∃ v, gt l b = v := ⟨_, rfl⟩
  have HVA := hid hva
  have HVB := hid hvb
  clear hva hvb pc0 pc1
  refine wp_region_invH (by kernel_rfl) (by kernel_rfl) (fun L act X => ∃ v40 v41 v42 v43 v44 v45 v46 v47 v48 v49 v50 v51 v52 v53 v54 v55 v56 v57 : Value, act = { tmps := #[Value.agg #[Value.slice (some ⟨bA, oA, none⟩) n c, Value.slice B m e0], Value.int IntKind.i64 ↑a, Value.int IntKind.i64 ↑b, Value.pointer (some ⟨w.heap.size, 0, none⟩), undef, undef, Value.pointer (some ⟨w.heap.size + 1, 0, none⟩), Value.bool false, Value.pointer (some ⟨T, 0, none⟩), undef, undef, undef, Value.agg #[Value.slice (some ⟨bA, oA, none⟩) n c, Value.slice B m e0], Value.bool true, Value.bool false, Value.bool false, Value.int IntKind.i64 ↑a, Value.bool (decide (↑a < 0)), Value.bool (decide (↑a < 0)), Value.bool (decide (↑a < 0)), Value.int IntKind.i64 ↑a, Value.agg #[Value.slice (some ⟨bA, oA, none⟩) n c, Value.slice B m e0], Value.int IntKind.i64 ↑n, Value.bool false, Value.bool (decide (↑a < 0)), Value.bool (decide (↑a < 0)), Value.int IntKind.i64 ↑b, Value.bool (decide (↑b < 0)), Value.bool (decide (↑a < 0) || decide (↑b < 0)), Value.bool (decide (↑a < 0) || decide (↑b < 0)), Value.int IntKind.i64 ↑b, Value.agg #[Value.slice (some ⟨bA, oA, none⟩) n c, Value.slice B m e0], Value.int IntKind.i64 ↑n, Value.bool false, Value.bool (decide (↑a < 0) || decide (↑b < 0)), undef, Value.pointer (some ⟨w.heap.size, 0, none⟩), Value.slice (some ⟨bA, oA, none⟩) n c, Value.slice (some ⟨gS, 0, none⟩) n dS, Value.agg #[Value.slice (some ⟨gS, 0, none⟩) n dS, Value.slice none 0 0], v40, v41, v42, v43, v44, v45, v46, v47, v48, v49, v50, v51, v52, v53, v54, v55, v56, v57, undef, undef, undef, undef, undef, undef, undef, undef, undef, undef, undef, undef, undef, undef, undef, undef, undef, undef, undef, undef, undef, undef, undef, undef, undef, undef, undef, undef, undef, undef, undef, undef, undef, undef, undef, undef, undef, undef, undef, undef, undef, undef, undef, undef, undef, undef, undef, undef, undef], defers := [] } ∧
    (Chg (fun k => k = gS) w5 X) ∧ (L 10 = false → L 17 = false) ∧ (L 15 = false → L 17 = false) ∧ (L 17 = false → L 19 = false) ∧ (L 17 = false → RowAt X 3 (gS, dS, l)) ∧ (L 17 = true → L 19 = false → RowAt X 3 (gS, dS, l.set a vb)) ∧ (L 0 = true → v40 = .pointer (some ⟨T, 0, none⟩)) ∧ (L 1 = true → v41 = .slice (some ⟨gS, 0, none⟩) n dS) ∧ (L 2 = true → v42 = .int .i64 a) ∧ (L 3 = true → v43 = .pointer (some ⟨T, 0, none⟩)) ∧ (L 4 = true → v44 = .slice (some ⟨gS, 0, none⟩) n dS) ∧ (L 5 = true → v45 = .int .i64 b) ∧ (L 6 = true → v46 = .pointer (some ⟨T, 0, none⟩)) ∧ (L 7 = true → v47 = .slice (some ⟨gS, 0, none⟩) n dS) ∧ (L 8 = true → v48 = .int .i64 b) ∧ (L 9 = true → v49 = .pointer (some ⟨gS, b, none⟩)) ∧ (L 10 = true → v50 = .int .i64 vb) ∧ (L 11 = true → v51 = .pointer (some ⟨T, 0, none⟩)) ∧ (L 12 = true → v52 = .slice (some ⟨gS, 0, none⟩) n dS) ∧ (L 13 = true → v53 = .int .i64 a) ∧ (L 14 = true → v54 = .pointer (some ⟨gS, a, none⟩)) ∧ (L 15 = true → v55 = .int .i64 va) ∧ (L 16 = true → v56 = .pointer (some ⟨gS, a, none⟩)) ∧ (L 18 = true → v57 = .pointer (some ⟨gS, b, none⟩)) ∧ (L 19 = true → RowAt X 3 (gS, dS, (l.set a vb).set b va))) ?_ ⟨?_, ?_, ?_, ?_, ?_, ?_, ?_, ?_, ?_, ?_, ?_, ?_, ?_, ?_, ?_, ?_, ?_, ?_, ?_, ?_, trivial⟩ ?_
  · exact ⟨_, _, _, _, _, _, _, _, _, _, _, _, _, _, _, _, _, _, rfl, (Chg.refl _ _).drew, fun _ => rfl, fun _ => rfl, fun _ => rfl, fun _ => RS5.out, fun h => (by cases h), fun h => (by cases h), fun h => (by cases h), fun h => (by cases h), fun h => (by cases h), fun h => (by cases h), fun h => (by cases h), fun h => (by cases h), fun h => (by cases h), fun h => (by cases h), fun h => (by cases h), fun h => (by cases h), fun h => (by cases h), fun h => (by cases h), fun h => (by cases h), fun h => (by cases h), fun h => (by cases h), fun h => (by cases h), fun h => (by cases h), fun h => (by cases h)⟩
  · rintro L act X K0 ⟨v40, v41, v42, v43, v44, v45, v46, v47, v48, v49, v50, v51, v52, v53, v54, v55, v56, v57, rfl, hC, o10, o15, o17, hA, hB, f0, f1, f2, f3, f4, f5, f6, f7, f8, f9, f10, f11, f12, f13, f14, f15, f16, f18, fz⟩ hL hd hK
    clear hd
    refine ⟨rfl, ?_⟩
    go_simp
    exact hK _ _ ⟨_, _, _, _, _, _, _, _, _, _, _, _, _, _, _, _, _, _, rfl, hC, o10, o15, o17, hA, hB, fun _ => rfl, f1, f2, f3, f4, f5, f6, f7, f8, f9, f10, f11, f12, f13, f14, f15, f16, f18, fz⟩
  · rintro L act X K0 ⟨v40, v41, v42, v43, v44, v45, v46, v47, v48, v49, v50, v51, v52, v53, v54, v55, v56, v57, rfl, hC, o10, o15, o17, hA, hB, f0, f1, f2, f3, f4, f5, f6, f7, f8, f9, f10, f11, f12, f13, f14, f15, f16, f18, fz⟩ hL hd hK
    have d0 := hd ⟨0, .data⟩ (by simp) rfl
    obtain rfl := f0 d0
    obtain ⟨q0, q1, _, _⟩ := at_get ((hC.block T hT5 (fun e => by omega)).trans HM.out)
    clear hd
    refine ⟨rfl, ?_⟩
    go_simp
    exact hK _ _ ⟨_, _, _, _, _, _, _, _, _, _, _, _, _, _, _, _, _, _, rfl, hC, o10, o15, o17, hA, hB, f0, fun _ => rfl, f2, f3, f4, f5, f6, f7, f8, f9, f10, f11, f12, f13, f14, f15, f16, f18, fz⟩
  · rintro L act X K0 ⟨v40, v41, v42, v43, v44, v45, v46, v47, v48, v49, v50, v51, v52, v53, v54, v55, v56, v57, rfl, hC, o10, o15, o17, hA, hB, f0, f1, f2, f3, f4, f5, f6, f7, f8, f9, f10, f11, f12, f13, f14, f15, f16, f18, fz⟩ hL hd hK
    clear hd
    refine ⟨rfl, ?_⟩
    go_simp
    exact hK _ _ ⟨_, _, _, _, _, _, _, _, _, _, _, _, _, _, _, _, _, _, rfl, hC, o10, o15, o17, hA, hB, f0, f1, fun _ => rfl, f3, f4, f5, f6, f7, f8, f9, f10, f11, f12, f13, f14, f15, f16, f18, fz⟩
  · rintro L act X K0 ⟨v40, v41, v42, v43, v44, v45, v46, v47, v48, v49, v50, v51, v52, v53, v54, v55, v56, v57, rfl, hC, o10, o15, o17, hA, hB, f0, f1, f2, f3, f4, f5, f6, f7, f8, f9, f10, f11, f12, f13, f14, f15, f16, f18, fz⟩ hL hd hK
    clear hd
    refine ⟨rfl, ?_⟩
    go_simp
    exact hK _ _ ⟨_, _, _, _, _, _, _, _, _, _, _, _, _, _, _, _, _, _, rfl, hC, o10, o15, o17, hA, hB, f0, f1, f2, fun _ => rfl, f4, f5, f6, f7, f8, f9, f10, f11, f12, f13, f14, f15, f16, f18, fz⟩
  · rintro L act X K0 ⟨v40, v41, v42, v43, v44, v45, v46, v47, v48, v49, v50, v51, v52, v53, v54, v55, v56, v57, rfl, hC, o10, o15, o17, hA, hB, f0, f1, f2, f3, f4, f5, f6, f7, f8, f9, f10, f11, f12, f13, f14, f15, f16, f18, fz⟩ hL hd hK
    have d3 := hd ⟨3, .data⟩ (by simp) rfl
    obtain rfl := f3 d3
    obtain ⟨q0, q1, _, _⟩ := at_get ((hC.block T hT5 (fun e => by omega)).trans HM.out)
    clear hd
    refine ⟨rfl, ?_⟩
    go_simp
    exact hK _ _ ⟨_, _, _, _, _, _, _, _, _, _, _, _, _, _, _, _, _, _, rfl, hC, o10, o15, o17, hA, hB, f0, f1, f2, f3, fun _ => rfl, f5, f6, f7, f8, f9, f10, f11, f12, f13, f14, f15, f16, f18, fz⟩
  · rintro L act X K0 ⟨v40, v41, v42, v43, v44, v45, v46, v47, v48, v49, v50, v51, v52, v53, v54, v55, v56, v57, rfl, hC, o10, o15, o17, hA, hB, f0, f1, f2, f3, f4, f5, f6, f7, f8, f9, f10, f11, f12, f13, f14, f15, f16, f18, fz⟩ hL hd hK
    clear hd
    refine ⟨rfl, ?_⟩
    go_simp
    exact hK _ _ ⟨_, _, _, _, _, _, _, _, _, _, _, _, _, _, _, _, _, _, rfl, hC, o10, o15, o17, hA, hB, f0, f1, f2, f3, f4, fun _ => rfl, f6, f7, f8, f9, f10, f11, f12, f13, f14, f15, f16, f18, fz⟩
  · rintro L act X K0 ⟨v40, v41, v42, v43, v44, v45, v46, v47, v48, v49, v50, v51, v52, v53, v54, v55, v56, v57, rfl, hC, o10, o15, o17, hA, hB, f0, f1, f2, f3, f4, f5, f6, f7, f8, f9, f10, f11, f12, f13, f14, f15, f16, f18, fz⟩ hL hd hK
    clear hd
    refine ⟨rfl, ?_⟩
    go_simp
    exact hK _ _ ⟨_, _, _, _, _, _, _, _, _, _, _, _, _, _, _, _, _, _, rfl, hC, o10, o15, o17, hA, hB, f0, f1, f2, f3, f4, f5, fun _ => rfl, f7, f8, f9, f10, f11, f12, f13, f14, f15, f16, f18, fz⟩
  · rintro L act X K0 ⟨v40, v41, v42, v43, v44, v45, v46, v47, v48, v49, v50, v51, v52, v53, v54, v55, v56, v57, rfl, hC, o10, o15, o17, hA, hB, f0, f1, f2, f3, f4, f5, f6, f7, f8, f9, f10, f11, f12, f13, f14, f15, f16, f18, fz⟩ hL hd hK
    have d6 := hd ⟨6, .data⟩ (by simp) rfl
    obtain rfl := f6 d6
    obtain ⟨q0, q1, _, _⟩ := at_get ((hC.block T hT5 (fun e => by omega)).trans HM.out)
    clear hd
    refine ⟨rfl, ?_⟩
    go_simp
    exact hK _ _ ⟨_, _, _, _, _, _, _, _, _, _, _, _, _, _, _, _, _, _, rfl, hC, o10, o15, o17, hA, hB, f0, f1, f2, f3, f4, f5, f6, fun _ => rfl, f8, f9, f10, f11, f12, f13, f14, f15, f16, f18, fz⟩
  · rintro L act X K0 ⟨v40, v41, v42, v43, v44, v45, v46, v47, v48, v49, v50, v51, v52, v53, v54, v55, v56, v57, rfl, hC, o10, o15, o17, hA, hB, f0, f1, f2, f3, f4, f5, f6, f7, f8, f9, f10, f11, f12, f13, f14, f15, f16, f18, fz⟩ hL hd hK
    clear hd
    refine ⟨rfl, ?_⟩
    go_simp
    exact hK _ _ ⟨_, _, _, _, _, _, _, _, _, _, _, _, _, _, _, _, _, _, rfl, hC, o10, o15, o17, hA, hB, f0, f1, f2, f3, f4, f5, f6, f7, fun _ => rfl, f9, f10, f11, f12, f13, f14, f15, f16, f18, fz⟩
  · rintro L act X K0 ⟨v40, v41, v42, v43, v44, v45, v46, v47, v48, v49, v50, v51, v52, v53, v54, v55, v56, v57, rfl, hC, o10, o15, o17, hA, hB, f0, f1, f2, f3, f4, f5, f6, f7, f8, f9, f10, f11, f12, f13, f14, f15, f16, f18, fz⟩ hL hd hK
    have d7 := hd ⟨7, .data⟩ (by simp) rfl
    obtain rfl := f7 d7
    have d8 := hd ⟨8, .data⟩ (by simp) rfl
    obtain rfl := f8 d8
    clear hd
    refine ⟨rfl, ?_⟩
    go_simp
    exact hK _ _ ⟨_, _, _, _, _, _, _, _, _, _, _, _, _, _, _, _, _, _, rfl, hC, o10, o15, o17, hA, hB, f0, f1, f2, f3, f4, f5, f6, f7, f8, fun _ => rfl, f10, f11, f12, f13, f14, f15, f16, f18, fz⟩
  · rintro L act X K0 ⟨v40, v41, v42, v43, v44, v45, v46, v47, v48, v49, v50, v51, v52, v53, v54, v55, v56, v57, rfl, hC, o10, o15, o17, hA, hB, f0, f1, f2, f3, f4, f5, f6, f7, f8, f9, f10, f11, f12, f13, f14, f15, f16, f18, fz⟩ hL hd hK
    have d9 := hd ⟨9, .data⟩ (by simp) rfl
    obtain rfl := f9 d9
    have q0 := ((hA (o10 hL)).at_ hl2).1
    rw [HVB.out] at q0
    clear hd
    refine ⟨rfl, ?_⟩
    go_simp
    exact hK _ _ ⟨_, _, _, _, _, _, _, _, _, _, _, _, _, _, _, _, _, _, rfl, hC, fun h => (by cases h), o15, o17, hA, hB, f0, f1, f2, f3, f4, f5, f6, f7, f8, f9, fun _ => rfl, f11, f12, f13, f14, f15, f16, f18, fz⟩
  · rintro L act X K0 ⟨v40, v41, v42, v43, v44, v45, v46, v47, v48, v49, v50, v51, v52, v53, v54, v55, v56, v57, rfl, hC, o10, o15, o17, hA, hB, f0, f1, f2, f3, f4, f5, f6, f7, f8, f9, f10, f11, f12, f13, f14, f15, f16, f18, fz⟩ hL hd hK
    clear hd
    refine ⟨rfl, ?_⟩
    go_simp
    exact hK _ _ ⟨_, _, _, _, _, _, _, _, _, _, _, _, _, _, _, _, _, _, rfl, hC, o10, o15, o17, hA, hB, f0, f1, f2, f3, f4, f5, f6, f7, f8, f9, f10, fun _ => rfl, f12, f13, f14, f15, f16, f18, fz⟩
  · rintro L act X K0 ⟨v40, v41, v42, v43, v44, v45, v46, v47, v48, v49, v50, v51, v52, v53, v54, v55, v56, v57, rfl, hC, o10, o15, o17, hA, hB, f0, f1, f2, f3, f4, f5, f6, f7, f8, f9, f10, f11, f12, f13, f14, f15, f16, f18, fz⟩ hL hd hK
    have d11 := hd ⟨11, .data⟩ (by simp) rfl
    obtain rfl := f11 d11
    obtain ⟨q0, q1, _, _⟩ := at_get ((hC.block T hT5 (fun e => by omega)).trans HM.out)
    clear hd
    refine ⟨rfl, ?_⟩
    go_simp
    exact hK _ _ ⟨_, _, _, _, _, _, _, _, _, _, _, _, _, _, _, _, _, _, rfl, hC, o10, o15, o17, hA, hB, f0, f1, f2, f3, f4, f5, f6, f7, f8, f9, f10, f11, fun _ => rfl, f13, f14, f15, f16, f18, fz⟩
  · rintro L act X K0 ⟨v40, v41, v42, v43, v44, v45, v46, v47, v48, v49, v50, v51, v52, v53, v54, v55, v56, v57, rfl, hC, o10, o15, o17, hA, hB, f0, f1, f2, f3, f4, f5, f6, f7, f8, f9, f10, f11, f12, f13, f14, f15, f16, f18, fz⟩ hL hd hK
    clear hd
    refine ⟨rfl, ?_⟩
    go_simp
    exact hK _ _ ⟨_, _, _, _, _, _, _, _, _, _, _, _, _, _, _, _, _, _, rfl, hC, o10, o15, o17, hA, hB, f0, f1, f2, f3, f4, f5, f6, f7, f8, f9, f10, f11, f12, fun _ => rfl, f14, f15, f16, f18, fz⟩
  · rintro L act X K0 ⟨v40, v41, v42, v43, v44, v45, v46, v47, v48, v49, v50, v51, v52, v53, v54, v55, v56, v57, rfl, hC, o10, o15, o17, hA, hB, f0, f1, f2, f3, f4, f5, f6, f7, f8, f9, f10, f11, f12, f13, f14, f15, f16, f18, fz⟩ hL hd hK
    have d12 := hd ⟨12, .data⟩ (by simp) rfl
    obtain rfl := f12 d12
    have d13 := hd ⟨13, .data⟩ (by simp) rfl
    obtain rfl := f13 d13
    clear hd
    refine ⟨rfl, ?_⟩
    go_simp
    exact hK _ _ ⟨_, _, _, _, _, _, _, _, _, _, _, _, _, _, _, _, _, _, rfl, hC, o10, o15, o17, hA, hB, f0, f1, f2, f3, f4, f5, f6, f7, f8, f9, f10, f11, f12, f13, fun _ => rfl, f15, f16, f18, fz⟩
  · rintro L act X K0 ⟨v40, v41, v42, v43, v44, v45, v46, v47, v48, v49, v50, v51, v52, v53, v54, v55, v56, v57, rfl, hC, o10, o15, o17, hA, hB, f0, f1, f2, f3, f4, f5, f6, f7, f8, f9, f10, f11, f12, f13, f14, f15, f16, f18, fz⟩ hL hd hK
    have d14 := hd ⟨14, .data⟩ (by simp) rfl
    obtain rfl := f14 d14
    have q0 := ((hA (o15 hL)).at_ hl1).1
    rw [HVA.out] at q0
    clear hd
    refine ⟨rfl, ?_⟩
    go_simp
    exact hK _ _ ⟨_, _, _, _, _, _, _, _, _, _, _, _, _, _, _, _, _, _, rfl, hC, o10, fun h => (by cases h), o17, hA, hB, f0, f1, f2, f3, f4, f5, f6, f7, f8, f9, f10, f11, f12, f13, f14, fun _ => rfl, f16, f18, fz⟩
  · rintro L act X K0 ⟨v40, v41, v42, v43, v44, v45, v46, v47, v48, v49, v50, v51, v52, v53, v54, v55, v56, v57, rfl, hC, o10, o15, o17, hA, hB, f0, f1, f2, f3, f4, f5, f6, f7, f8, f9, f10, f11, f12, f13, f14, f15, f16, f18, fz⟩ hL hd hK
    have d1 := hd ⟨1, .data⟩ (by simp) rfl
    obtain rfl := f1 d1
    have d2 := hd ⟨2, .data⟩ (by simp) rfl
    obtain rfl := f2 d2
    clear hd
    refine ⟨rfl, ?_⟩
    go_simp
    exact hK _ _ ⟨_, _, _, _, _, _, _, _, _, _, _, _, _, _, _, _, _, _, rfl, hC, o10, o15, o17, hA, hB, f0, f1, f2, f3, f4, f5, f6, f7, f8, f9, f10, f11, f12, f13, f14, f15, fun _ => rfl, f18, fz⟩
  · rintro L act X K0 ⟨v40, v41, v42, v43, v44, v45, v46, v47, v48, v49, v50, v51, v52, v53, v54, v55, v56, v57, rfl, hC, o10, o15, o17, hA, hB, f0, f1, f2, f3, f4, f5, f6, f7, f8, f9, f10, f11, f12, f13, f14, f15, f16, f18, fz⟩ hL hd hK
    have d16 := hd ⟨16, .data⟩ (by simp) rfl
    obtain rfl := f16 d16
    have d10 := hd ⟨10, .data⟩ (by simp) rfl
    obtain rfl := f10 d10
    have d15 := hd ⟨15, .phase⟩ (by simp) rfl
    obtain rfl := f15 d15
    obtain ⟨q0, q1⟩ := (hA hL).at_ hl1
    have hc := (Chg.refl (fun k => k = gS) X).set (p := ⟨gS, a, none⟩) rfl (.int .i64 vb)
    clear hd
    refine ⟨rfl, ?_⟩
    go_simp
    exact hK _ _ ⟨_, _, _, _, _, _, _, _, _, _, _, _, _, _, _, _, _, _, rfl, hC.trans hc, fun h => absurd (d10.symm.trans h) (by decide), fun h => absurd (d15.symm.trans h) (by decide), fun h => (by cases h), fun h => (by cases h), fun _ _ => (hA hL).set hl1 vb, f0, f1, f2, f3, f4, f5, f6, f7, f8, f9, f10, f11, f12, f13, f14, f15, f16, f18, fun h => absurd ((o17 hL).symm.trans h) (by decide)⟩
  · rintro L act X K0 ⟨v40, v41, v42, v43, v44, v45, v46, v47, v48, v49, v50, v51, v52, v53, v54, v55, v56, v57, rfl, hC, o10, o15, o17, hA, hB, f0, f1, f2, f3, f4, f5, f6, f7, f8, f9, f10, f11, f12, f13, f14, f15, f16, f18, fz⟩ hL hd hK
    have d4 := hd ⟨4, .data⟩ (by simp) rfl
    obtain rfl := f4 d4
    have d5 := hd ⟨5, .data⟩ (by simp) rfl
    obtain rfl := f5 d5
    clear hd
    refine ⟨rfl, ?_⟩
    go_simp
    exact hK _ _ ⟨_, _, _, _, _, _, _, _, _, _, _, _, _, _, _, _, _, _, rfl, hC, o10, o15, o17, hA, hB, f0, f1, f2, f3, f4, f5, f6, f7, f8, f9, f10, f11, f12, f13, f14, f15, f16, fun _ => rfl, fz⟩
  · rintro L act X K0 ⟨v40, v41, v42, v43, v44, v45, v46, v47, v48, v49, v50, v51, v52, v53, v54, v55, v56, v57, rfl, hC, o10, o15, o17, hA, hB, f0, f1, f2, f3, f4, f5, f6, f7, f8, f9, f10, f11, f12, f13, f14, f15, f16, f18, fz⟩ hL hd hK
    have d18 := hd ⟨18, .data⟩ (by simp) rfl
    obtain rfl := f18 d18
    have d15 := hd ⟨15, .data⟩ (by simp) rfl
    obtain rfl := f15 d15
    have d17 := hd ⟨17, .phase⟩ (by simp) rfl
    have hBx := hB d17 hL
    obtain ⟨q0, q1⟩ := hBx.at_ (j := b) (by rw [List.length_set]; exact hl2)
    have hc := (Chg.refl (fun k => k = gS) X).set (p := ⟨gS, b, none⟩) rfl (.int .i64 va)
    clear hd
    refine ⟨rfl, ?_⟩
    go_simp
    exact hK _ _ ⟨_, _, _, _, _, _, _, _, _, _, _, _, _, _, _, _, _, _, rfl, hC.trans hc, o10, o15, fun h => absurd (d17.symm.trans h) (by decide), fun h => absurd (d17.symm.trans h) (by decide), fun _ h => (by cases h), f0, f1, f2, f3, f4, f5, f6, f7, f8, f9, f10, f11, f12, f13, f14, f15, f16, f18, fun _ => hBx.set (by rw [List.length_set]; exact hl2) va⟩
  · rintro L act X hLL ⟨v40, v41, v42, v43, v44, v45, v46, v47, v48, v49, v50, v51, v52, v53, v54, v55, v56, v57, rfl, hC, o10, o15, o17, hA, hB, f0, f1, f2, f3, f4, f5, f6, f7, f8, f9, f10, f11, f12, f13, f14, f15, f16, f18, fz⟩
    have hZ := fz (hLL 19 (by simp))
    clear f0 f1 f2 f3 f4 f5 f6 f7 f8 f9 f10 f11 f12 f13 f14 f15 f16 f18 fz o10 o15 o17 hA hB hLL
    have hfin : (l.set a vb).set b va = turnI a b l := by rw [← HVA.out, ← HVB.out]; exact set_turn hl1 hl2
    rw [hfin] at hZ
    have hXz := hC.size
    have RSX := hid hZ
    have MX := hid ((hC.block T hT5 (fun e => by omega)).trans HM.out)
    have TX := hid (T5.out.chg hC (fun k e => by omega))
    clear hZ hfin hC HM T5 RS5
    obtain ⟨pc0, pc1, _, _⟩ := at_get TX.out.p0
    have hgS2 : w.heap.size + 2 ≤ gS := by omega
    go_wp2_with fail
    go_loopg [61] m (fun gk i wr => ∃ (k : Nat) (rs : List RowD) (A2 : Option Addr) (d0 : Nat), k + gk = m ∧ i = .int .i64 k ∧ RowAt wr 3 (gS, dS, turnI a b l) ∧ NestR (gS + 1) wr.heap.size wr 34 3 (.slice A2 rs.length d0) rs ∧ rs.map (·.2.2) = (r.map (turnI a b)).take k ∧ rs.length = k ∧
      wr.heap[T]? = some (.cells #[.slice (some ⟨gS, 0, none⟩) n dS, .slice A2 rs.length d0] 41 (0, 0)) ∧ ((Value.slice A2 rs.length d0).ownBlock ≠ some T ∧ ∀ q ∈ rs, q.1 ≠ T) ∧ TW w wr 41 (.slice (some ⟨bA, oA, none⟩) n c) (.slice B m e0) ∧ T < wr.heap.size)
    case atStart => exact ⟨0, [], none, 0, Nat.zero_add _, rfl, RSX.out, NestR.nil0, rfl, rfl, MX.out, ⟨(fun e => by cases e), (fun q hq => by cases hq)⟩, TX.out, by omega⟩
    case round =>
      clear RSX MX TX pc0 pc1
      obtain ⟨k, rs, A2, d0, hkg, rfl, hRS, hN, hrm, hrl, hM, hsep, hTW, hTl⟩ := hrel
      have HKG := hid hkg
      have RSX := hid hRS
      have HN := hid hN
      have HRM := hid hrm
      have HRL := hid hrl
      have HM := hid hM
      have HSEP := hid hsep
      have HTW := hid hTW
      have hk : k ≤ m := by omega
      have hmn := HMN.out
      have hrl8 : rs.length ≤ 8 := by omega
      have hgs := hRS.lt
      have hgs2 : gS < wr.heap.size := hgs
      obtain ⟨tc0, tc1, tf0, tf1⟩ := at_get hM
      clear hkg hRS hN hrm hrl hM hsep hgs
      by_cases hlt : k < m
      case neg =>
        obtain rfl : m = k := by omega
        have hn2 : rs.length = n := by have := HRL.out; omega
        obtain ⟨g, rfl, -⟩ := HN.out.own.blk (by omega)
        have HN2 := hid hn2
        have hrm2 : rs.map (·.2.2) = r.map (turnI a b) := by rw [HRM.out, List.take_of_length_le (by rw [List.length_map, ← HMR.out]; exact Nat.le_refl _)]
        have HRM2 := hid hrm2
        obtain ⟨vs, hvs⟩ : ∃ vs : List Value, rs.map rowV = vs := ⟨_, rfl⟩
        have hvl : vs.length = n := by rw [← hvs, List.length_map]; exact hn2
        have HVL := hid hvl
        have hown := HN.out.own
        rw [hvs] at hown
        have HOWN := hid hown
        have HVS := hid hvs
        obtain ⟨Aa, na, ca, hva2⟩ : ∃ A n c, gt vs a = .slice A n c := by rw [← hvs, gt_map (by omega)]; exact ⟨_, _, _, rfl⟩
        obtain ⟨Ab, nb, cb, hvb2⟩ : ∃ A n c, gt vs b = .slice A n c := by rw [← hvs, gt_map (by omega)]; exact ⟨_, _, _, rfl⟩
        have HVA2 := hid hva2
        have HVB2 := hid hvb2
        have hgT : g ≠ T := fun e => HSEP.out.1 (by rw [e]; rfl)
        have hgl9 := (hown.own_lt (k := g) rfl).1
        have hkv1 : a < vs.length := by rw [hvl]; exact han
        have hkv2 : b < vs.length := by rw [hvl]; exact hbn
        have hai2 : (a : Int) < (rs.length : Int) := by omega
        have hbi2 : (b : Int) < (rs.length : Int) := by omega
        have ham2 : a < rs.length := by omega
        have hbm2 : b < rs.length := by omega
        clear hn2 hrm2 hvl hown hvs hva2 hvb2 hTW hmn
        go_wp2_with fail
        refine wp_region_invH (by kernel_rfl) (by kernel_rfl) (fun L act X => ∃ v88 v89 v90 v91 v92 v93 v94 v95 v96 v97 v98 v99 v100 v101 v102 v103 v104 v105 : Value, act = { tmps := #[Value.agg #[Value.slice (some ⟨bA, oA, none⟩) n c, Value.slice B m e0], Value.int IntKind.i64 ↑a, Value.int IntKind.i64 ↑b, Value.pointer (some ⟨w.heap.size, 0, none⟩), undef, undef, Value.pointer (some ⟨w.heap.size + 1, 0, none⟩), Value.bool false, Value.pointer (some ⟨T, 0, none⟩), undef, u10, u11, Value.agg #[Value.slice (some ⟨bA, oA, none⟩) n c, Value.slice B m e0], Value.bool true, Value.bool false, Value.bool false, Value.int IntKind.i64 ↑a, Value.bool (decide (a < 0)), Value.bool (decide (a < 0)), Value.bool (decide (a < 0)), Value.int IntKind.i64 ↑a, Value.agg #[Value.slice (some ⟨bA, oA, none⟩) n c, Value.slice B m e0], Value.int IntKind.i64 ↑n, Value.bool false, Value.bool (decide (a < 0)), Value.bool (decide (a < 0)), Value.int IntKind.i64 ↑b, Value.bool (decide (b < 0)), Value.bool (decide (a < 0) || decide (b < 0)), Value.bool (decide (a < 0) || decide (b < 0)), Value.int IntKind.i64 ↑b, Value.agg #[Value.slice (some ⟨bA, oA, none⟩) n c, Value.slice B m e0], Value.int IntKind.i64 ↑n, Value.bool false, Value.bool (decide (a < 0) || decide (b < 0)), undef, Value.pointer (some ⟨w.heap.size, 0, none⟩), Value.slice (some ⟨bA, oA, none⟩) n c, Value.slice (some ⟨gS, 0, none⟩) n dS, Value.agg #[Value.slice (some ⟨gS, 0, none⟩) n dS, Value.slice none 0 0], v40, v41, v42, v43, v44, v45, v46, v47, v48, v49, v50, v51, v52, v53, v54, v55, v56, v57, Value.pointer (some ⟨w.heap.size, 1, none⟩), Value.slice B m e0, Value.int IntKind.i64 ↑m, Value.int IntKind.i64 ↑m, Value.bool false, u63, u64, u65, u66, u67, u68, u69, u70, u71, u72, u73, u74, u75, u76, u77, u78, u79, u80, u81, u82, u83, u84, u85, u86, u87, v88, v89, v90, v91, v92, v93, v94, v95, v96, v97, v98, v99, v100, v101, v102, v103, v104, v105, undef], defers := [] } ∧
          (Chg (fun k => k = g) wr X) ∧ (L 10 = false → L 17 = false) ∧ (L 15 = false → L 17 = false) ∧ (L 17 = false → L 19 = false) ∧ (L 17 = false → OwnR valS (gS + 1) X 34 (.slice (some ⟨g, 0, none⟩) rs.length d0) (vs)) ∧ (L 17 = true → L 19 = false → OwnR valS (gS + 1) X 34 (.slice (some ⟨g, 0, none⟩) rs.length d0) (vs.set a (Value.slice Ab nb cb))) ∧ (L 0 = true → v88 = .pointer (some ⟨T, 1, none⟩)) ∧ (L 1 = true → v89 = .slice (some ⟨g, 0, none⟩) rs.length d0) ∧ (L 2 = true → v90 = .int .i64 a) ∧ (L 3 = true → v91 = .pointer (some ⟨T, 1, none⟩)) ∧ (L 4 = true → v92 = .slice (some ⟨g, 0, none⟩) rs.length d0) ∧ (L 5 = true → v93 = .int .i64 b) ∧ (L 6 = true → v94 = .pointer (some ⟨T, 1, none⟩)) ∧ (L 7 = true → v95 = .slice (some ⟨g, 0, none⟩) rs.length d0) ∧ (L 8 = true → v96 = .int .i64 b) ∧ (L 9 = true → v97 = .pointer (some ⟨g, b, none⟩)) ∧ (L 10 = true → v98 = (Value.slice Ab nb cb)) ∧ (L 11 = true → v99 = .pointer (some ⟨T, 1, none⟩)) ∧ (L 12 = true → v100 = .slice (some ⟨g, 0, none⟩) rs.length d0) ∧ (L 13 = true → v101 = .int .i64 a) ∧ (L 14 = true → v102 = .pointer (some ⟨g, a, none⟩)) ∧ (L 15 = true → v103 = (Value.slice Aa na ca)) ∧ (L 16 = true → v104 = .pointer (some ⟨g, a, none⟩)) ∧ (L 18 = true → v105 = .pointer (some ⟨g, b, none⟩)) ∧ (L 19 = true → OwnR valS (gS + 1) X 34 (.slice (some ⟨g, 0, none⟩) rs.length d0) ((vs.set a (Value.slice Ab nb cb)).set b (Value.slice Aa na ca)))) ?_ ⟨?_, ?_, ?_, ?_, ?_, ?_, ?_, ?_, ?_, ?_, ?_, ?_, ?_, ?_, ?_, ?_, ?_, ?_, ?_, ?_, trivial⟩ ?_
        · exact ⟨_, _, _, _, _, _, _, _, _, _, _, _, _, _, _, _, _, _, rfl, (Chg.refl _ _).drew, fun _ => rfl, fun _ => rfl, fun _ => rfl, fun _ => HOWN.out.flat valS_flat (Chg.refl (fun _ => False) wr).drew (fun _ _ h => h), fun h => (by cases h), fun h => (by cases h), fun h => (by cases h), fun h => (by cases h), fun h => (by cases h), fun h => (by cases h), fun h => (by cases h), fun h => (by cases h), fun h => (by cases h), fun h => (by cases h), fun h => (by cases h), fun h => (by cases h), fun h => (by cases h), fun h => (by cases h), fun h => (by cases h), fun h => (by cases h), fun h => (by cases h), fun h => (by cases h), fun h => (by cases h), fun h => (by cases h)⟩
        · rintro L act X K0 ⟨v88, v89, v90, v91, v92, v93, v94, v95, v96, v97, v98, v99, v100, v101, v102, v103, v104, v105, rfl, hC, o10, o15, o17, hA, hB, f0, f1, f2, f3, f4, f5, f6, f7, f8, f9, f10, f11, f12, f13, f14, f15, f16, f18, fz⟩ hL hd hK
          clear hd
          refine ⟨rfl, ?_⟩
          go_simp
          exact hK _ _ ⟨_, _, _, _, _, _, _, _, _, _, _, _, _, _, _, _, _, _, rfl, hC, o10, o15, o17, hA, hB, fun _ => rfl, f1, f2, f3, f4, f5, f6, f7, f8, f9, f10, f11, f12, f13, f14, f15, f16, f18, fz⟩
        · rintro L act X K0 ⟨v88, v89, v90, v91, v92, v93, v94, v95, v96, v97, v98, v99, v100, v101, v102, v103, v104, v105, rfl, hC, o10, o15, o17, hA, hB, f0, f1, f2, f3, f4, f5, f6, f7, f8, f9, f10, f11, f12, f13, f14, f15, f16, f18, fz⟩ hL hd hK
          have d0 := hd ⟨0, .data⟩ (by simp) rfl
          obtain rfl := f0 d0
          obtain ⟨q0, q1, _, _⟩ := at_get ((hC.block T hTl (fun e => hgT e.symm)).trans HM.out)
          clear hd
          refine ⟨rfl, ?_⟩
          go_simp
          exact hK _ _ ⟨_, _, _, _, _, _, _, _, _, _, _, _, _, _, _, _, _, _, rfl, hC, o10, o15, o17, hA, hB, f0, fun _ => rfl, f2, f3, f4, f5, f6, f7, f8, f9, f10, f11, f12, f13, f14, f15, f16, f18, fz⟩
        · rintro L act X K0 ⟨v88, v89, v90, v91, v92, v93, v94, v95, v96, v97, v98, v99, v100, v101, v102, v103, v104, v105, rfl, hC, o10, o15, o17, hA, hB, f0, f1, f2, f3, f4, f5, f6, f7, f8, f9, f10, f11, f12, f13, f14, f15, f16, f18, fz⟩ hL hd hK
          clear hd
          refine ⟨rfl, ?_⟩
          go_simp
          exact hK _ _ ⟨_, _, _, _, _, _, _, _, _, _, _, _, _, _, _, _, _, _, rfl, hC, o10, o15, o17, hA, hB, f0, f1, fun _ => rfl, f3, f4, f5, f6, f7, f8, f9, f10, f11, f12, f13, f14, f15, f16, f18, fz⟩
        · rintro L act X K0 ⟨v88, v89, v90, v91, v92, v93, v94, v95, v96, v97, v98, v99, v100, v101, v102, v103, v104, v105, rfl, hC, o10, o15, o17, hA, hB, f0, f1, f2, f3, f4, f5, f6, f7, f8, f9, f10, f11, f12, f13, f14, f15, f16, f18, fz⟩ hL hd hK
          clear hd
          refine ⟨rfl, ?_⟩
          go_simp
          exact hK _ _ ⟨_, _, _, _, _, _, _, _, _, _, _, _, _, _, _, _, _, _, rfl, hC, o10, o15, o17, hA, hB, f0, f1, f2, fun _ => rfl, f4, f5, f6, f7, f8, f9, f10, f11, f12, f13, f14, f15, f16, f18, fz⟩
        · rintro L act X K0 ⟨v88, v89, v90, v91, v92, v93, v94, v95, v96, v97, v98, v99, v100, v101, v102, v103, v104, v105, rfl, hC, o10, o15, o17, hA, hB, f0, f1, f2, f3, f4, f5, f6, f7, f8, f9, f10, f11, f12, f13, f14, f15, f16, f18, fz⟩ hL hd hK
          have d3 := hd ⟨3, .data⟩ (by simp) rfl
          obtain rfl := f3 d3
          obtain ⟨q0, q1, _, _⟩ := at_get ((hC.block T hTl (fun e => hgT e.symm)).trans HM.out)
          clear hd
          refine ⟨rfl, ?_⟩
          go_simp
          exact hK _ _ ⟨_, _, _, _, _, _, _, _, _, _, _, _, _, _, _, _, _, _, rfl, hC, o10, o15, o17, hA, hB, f0, f1, f2, f3, fun _ => rfl, f5, f6, f7, f8, f9, f10, f11, f12, f13, f14, f15, f16, f18, fz⟩
        · rintro L act X K0 ⟨v88, v89, v90, v91, v92, v93, v94, v95, v96, v97, v98, v99, v100, v101, v102, v103, v104, v105, rfl, hC, o10, o15, o17, hA, hB, f0, f1, f2, f3, f4, f5, f6, f7, f8, f9, f10, f11, f12, f13, f14, f15, f16, f18, fz⟩ hL hd hK
          clear hd
          refine ⟨rfl, ?_⟩
          go_simp
          exact hK _ _ ⟨_, _, _, _, _, _, _, _, _, _, _, _, _, _, _, _, _, _, rfl, hC, o10, o15, o17, hA, hB, f0, f1, f2, f3, f4, fun _ => rfl, f6, f7, f8, f9, f10, f11, f12, f13, f14, f15, f16, f18, fz⟩
        · rintro L act X K0 ⟨v88, v89, v90, v91, v92, v93, v94, v95, v96, v97, v98, v99, v100, v101, v102, v103, v104, v105, rfl, hC, o10, o15, o17, hA, hB, f0, f1, f2, f3, f4, f5, f6, f7, f8, f9, f10, f11, f12, f13, f14, f15, f16, f18, fz⟩ hL hd hK
          clear hd
          refine ⟨rfl, ?_⟩
          go_simp
          exact hK _ _ ⟨_, _, _, _, _, _, _, _, _, _, _, _, _, _, _, _, _, _, rfl, hC, o10, o15, o17, hA, hB, f0, f1, f2, f3, f4, f5, fun _ => rfl, f7, f8, f9, f10, f11, f12, f13, f14, f15, f16, f18, fz⟩
        · rintro L act X K0 ⟨v88, v89, v90, v91, v92, v93, v94, v95, v96, v97, v98, v99, v100, v101, v102, v103, v104, v105, rfl, hC, o10, o15, o17, hA, hB, f0, f1, f2, f3, f4, f5, f6, f7, f8, f9, f10, f11, f12, f13, f14, f15, f16, f18, fz⟩ hL hd hK
          have d6 := hd ⟨6, .data⟩ (by simp) rfl
          obtain rfl := f6 d6
          obtain ⟨q0, q1, _, _⟩ := at_get ((hC.block T hTl (fun e => hgT e.symm)).trans HM.out)
          clear hd
          refine ⟨rfl, ?_⟩
          go_simp
          exact hK _ _ ⟨_, _, _, _, _, _, _, _, _, _, _, _, _, _, _, _, _, _, rfl, hC, o10, o15, o17, hA, hB, f0, f1, f2, f3, f4, f5, f6, fun _ => rfl, f8, f9, f10, f11, f12, f13, f14, f15, f16, f18, fz⟩
        · rintro L act X K0 ⟨v88, v89, v90, v91, v92, v93, v94, v95, v96, v97, v98, v99, v100, v101, v102, v103, v104, v105, rfl, hC, o10, o15, o17, hA, hB, f0, f1, f2, f3, f4, f5, f6, f7, f8, f9, f10, f11, f12, f13, f14, f15, f16, f18, fz⟩ hL hd hK
          clear hd
          refine ⟨rfl, ?_⟩
          go_simp
          exact hK _ _ ⟨_, _, _, _, _, _, _, _, _, _, _, _, _, _, _, _, _, _, rfl, hC, o10, o15, o17, hA, hB, f0, f1, f2, f3, f4, f5, f6, f7, fun _ => rfl, f9, f10, f11, f12, f13, f14, f15, f16, f18, fz⟩
        · rintro L act X K0 ⟨v88, v89, v90, v91, v92, v93, v94, v95, v96, v97, v98, v99, v100, v101, v102, v103, v104, v105, rfl, hC, o10, o15, o17, hA, hB, f0, f1, f2, f3, f4, f5, f6, f7, f8, f9, f10, f11, f12, f13, f14, f15, f16, f18, fz⟩ hL hd hK
          have d7 := hd ⟨7, .data⟩ (by simp) rfl
          obtain rfl := f7 d7
          have d8 := hd ⟨8, .data⟩ (by simp) rfl
          obtain rfl := f8 d8
          clear hd
          refine ⟨rfl, ?_⟩
          go_simp
          exact hK _ _ ⟨_, _, _, _, _, _, _, _, _, _, _, _, _, _, _, _, _, _, rfl, hC, o10, o15, o17, hA, hB, f0, f1, f2, f3, f4, f5, f6, f7, f8, fun _ => rfl, f10, f11, f12, f13, f14, f15, f16, f18, fz⟩
        · rintro L act X K0 ⟨v88, v89, v90, v91, v92, v93, v94, v95, v96, v97, v98, v99, v100, v101, v102, v103, v104, v105, rfl, hC, o10, o15, o17, hA, hB, f0, f1, f2, f3, f4, f5, f6, f7, f8, f9, f10, f11, f12, f13, f14, f15, f16, f18, fz⟩ hL hd hK
          have d9 := hd ⟨9, .data⟩ (by simp) rfl
          obtain rfl := f9 d9
          have q0 := ((hA (o10 hL)).atV hkv2).1
          rw [HVB2.out] at q0
          clear hd
          refine ⟨rfl, ?_⟩
          go_simp
          exact hK _ _ ⟨_, _, _, _, _, _, _, _, _, _, _, _, _, _, _, _, _, _, rfl, hC, fun h => (by cases h), o15, o17, hA, hB, f0, f1, f2, f3, f4, f5, f6, f7, f8, f9, fun _ => rfl, f11, f12, f13, f14, f15, f16, f18, fz⟩
        · rintro L act X K0 ⟨v88, v89, v90, v91, v92, v93, v94, v95, v96, v97, v98, v99, v100, v101, v102, v103, v104, v105, rfl, hC, o10, o15, o17, hA, hB, f0, f1, f2, f3, f4, f5, f6, f7, f8, f9, f10, f11, f12, f13, f14, f15, f16, f18, fz⟩ hL hd hK
          clear hd
          refine ⟨rfl, ?_⟩
          go_simp
          exact hK _ _ ⟨_, _, _, _, _, _, _, _, _, _, _, _, _, _, _, _, _, _, rfl, hC, o10, o15, o17, hA, hB, f0, f1, f2, f3, f4, f5, f6, f7, f8, f9, f10, fun _ => rfl, f12, f13, f14, f15, f16, f18, fz⟩
        · rintro L act X K0 ⟨v88, v89, v90, v91, v92, v93, v94, v95, v96, v97, v98, v99, v100, v101, v102, v103, v104, v105, rfl, hC, o10, o15, o17, hA, hB, f0, f1, f2, f3, f4, f5, f6, f7, f8, f9, f10, f11, f12, f13, f14, f15, f16, f18, fz⟩ hL hd hK
          have d11 := hd ⟨11, .data⟩ (by simp) rfl
          obtain rfl := f11 d11
          obtain ⟨q0, q1, _, _⟩ := at_get ((hC.block T hTl (fun e => hgT e.symm)).trans HM.out)
          clear hd
          refine ⟨rfl, ?_⟩
          go_simp
          exact hK _ _ ⟨_, _, _, _, _, _, _, _, _, _, _, _, _, _, _, _, _, _, rfl, hC, o10, o15, o17, hA, hB, f0, f1, f2, f3, f4, f5, f6, f7, f8, f9, f10, f11, fun _ => rfl, f13, f14, f15, f16, f18, fz⟩
        · rintro L act X K0 ⟨v88, v89, v90, v91, v92, v93, v94, v95, v96, v97, v98, v99, v100, v101, v102, v103, v104, v105, rfl, hC, o10, o15, o17, hA, hB, f0, f1, f2, f3, f4, f5, f6, f7, f8, f9, f10, f11, f12, f13, f14, f15, f16, f18, fz⟩ hL hd hK
          clear hd
          refine ⟨rfl, ?_⟩
          go_simp
          exact hK _ _ ⟨_, _, _, _, _, _, _, _, _, _, _, _, _, _, _, _, _, _, rfl, hC, o10, o15, o17, hA, hB, f0, f1, f2, f3, f4, f5, f6, f7, f8, f9, f10, f11, f12, fun _ => rfl, f14, f15, f16, f18, fz⟩
        · rintro L act X K0 ⟨v88, v89, v90, v91, v92, v93, v94, v95, v96, v97, v98, v99, v100, v101, v102, v103, v104, v105, rfl, hC, o10, o15, o17, hA, hB, f0, f1, f2, f3, f4, f5, f6, f7, f8, f9, f10, f11, f12, f13, f14, f15, f16, f18, fz⟩ hL hd hK
          have d12 := hd ⟨12, .data⟩ (by simp) rfl
          obtain rfl := f12 d12
          have d13 := hd ⟨13, .data⟩ (by simp) rfl
          obtain rfl := f13 d13
          clear hd
          refine ⟨rfl, ?_⟩
          go_simp
          exact hK _ _ ⟨_, _, _, _, _, _, _, _, _, _, _, _, _, _, _, _, _, _, rfl, hC, o10, o15, o17, hA, hB, f0, f1, f2, f3, f4, f5, f6, f7, f8, f9, f10, f11, f12, f13, fun _ => rfl, f15, f16, f18, fz⟩
        · rintro L act X K0 ⟨v88, v89, v90, v91, v92, v93, v94, v95, v96, v97, v98, v99, v100, v101, v102, v103, v104, v105, rfl, hC, o10, o15, o17, hA, hB, f0, f1, f2, f3, f4, f5, f6, f7, f8, f9, f10, f11, f12, f13, f14, f15, f16, f18, fz⟩ hL hd hK
          have d14 := hd ⟨14, .data⟩ (by simp) rfl
          obtain rfl := f14 d14
          have q0 := ((hA (o15 hL)).atV hkv1).1
          rw [HVA2.out] at q0
          clear hd
          refine ⟨rfl, ?_⟩
          go_simp
          exact hK _ _ ⟨_, _, _, _, _, _, _, _, _, _, _, _, _, _, _, _, _, _, rfl, hC, o10, fun h => (by cases h), o17, hA, hB, f0, f1, f2, f3, f4, f5, f6, f7, f8, f9, f10, f11, f12, f13, f14, fun _ => rfl, f16, f18, fz⟩
        · rintro L act X K0 ⟨v88, v89, v90, v91, v92, v93, v94, v95, v96, v97, v98, v99, v100, v101, v102, v103, v104, v105, rfl, hC, o10, o15, o17, hA, hB, f0, f1, f2, f3, f4, f5, f6, f7, f8, f9, f10, f11, f12, f13, f14, f15, f16, f18, fz⟩ hL hd hK
          have d1 := hd ⟨1, .data⟩ (by simp) rfl
          obtain rfl := f1 d1
          have d2 := hd ⟨2, .data⟩ (by simp) rfl
          obtain rfl := f2 d2
          clear hd
          refine ⟨rfl, ?_⟩
          go_simp
          exact hK _ _ ⟨_, _, _, _, _, _, _, _, _, _, _, _, _, _, _, _, _, _, rfl, hC, o10, o15, o17, hA, hB, f0, f1, f2, f3, f4, f5, f6, f7, f8, f9, f10, f11, f12, f13, f14, f15, fun _ => rfl, f18, fz⟩
        · rintro L act X K0 ⟨v88, v89, v90, v91, v92, v93, v94, v95, v96, v97, v98, v99, v100, v101, v102, v103, v104, v105, rfl, hC, o10, o15, o17, hA, hB, f0, f1, f2, f3, f4, f5, f6, f7, f8, f9, f10, f11, f12, f13, f14, f15, f16, f18, fz⟩ hL hd hK
          have d16 := hd ⟨16, .data⟩ (by simp) rfl
          obtain rfl := f16 d16
          have d10 := hd ⟨10, .data⟩ (by simp) rfl
          obtain rfl := f10 d10
          have d15 := hd ⟨15, .phase⟩ (by simp) rfl
          obtain rfl := f15 d15
          obtain ⟨q0, q1⟩ := (hA hL).atV hkv1
          have hc := (Chg.refl (fun k => k = g) X).set (p := ⟨g, a, none⟩) rfl (Value.slice Ab nb cb)
          clear hd
          refine ⟨rfl, ?_⟩
          go_simp
          exact hK _ _ ⟨_, _, _, _, _, _, _, _, _, _, _, _, _, _, _, _, _, _, rfl, hC.trans hc, fun h => absurd (d10.symm.trans h) (by decide), fun h => absurd (d15.symm.trans h) (by decide), fun h => (by cases h), fun h => (by cases h), fun _ _ => (hA hL).storeV hkv1 (Value.slice Ab nb cb), f0, f1, f2, f3, f4, f5, f6, f7, f8, f9, f10, f11, f12, f13, f14, f15, f16, f18, fun h => absurd ((o17 hL).symm.trans h) (by decide)⟩
        · rintro L act X K0 ⟨v88, v89, v90, v91, v92, v93, v94, v95, v96, v97, v98, v99, v100, v101, v102, v103, v104, v105, rfl, hC, o10, o15, o17, hA, hB, f0, f1, f2, f3, f4, f5, f6, f7, f8, f9, f10, f11, f12, f13, f14, f15, f16, f18, fz⟩ hL hd hK
          have d4 := hd ⟨4, .data⟩ (by simp) rfl
          obtain rfl := f4 d4
          have d5 := hd ⟨5, .data⟩ (by simp) rfl
          obtain rfl := f5 d5
          clear hd
          refine ⟨rfl, ?_⟩
          go_simp
          exact hK _ _ ⟨_, _, _, _, _, _, _, _, _, _, _, _, _, _, _, _, _, _, rfl, hC, o10, o15, o17, hA, hB, f0, f1, f2, f3, f4, f5, f6, f7, f8, f9, f10, f11, f12, f13, f14, f15, f16, fun _ => rfl, fz⟩
        · rintro L act X K0 ⟨v88, v89, v90, v91, v92, v93, v94, v95, v96, v97, v98, v99, v100, v101, v102, v103, v104, v105, rfl, hC, o10, o15, o17, hA, hB, f0, f1, f2, f3, f4, f5, f6, f7, f8, f9, f10, f11, f12, f13, f14, f15, f16, f18, fz⟩ hL hd hK
          have d18 := hd ⟨18, .data⟩ (by simp) rfl
          obtain rfl := f18 d18
          have d15 := hd ⟨15, .data⟩ (by simp) rfl
          obtain rfl := f15 d15
          have d17 := hd ⟨17, .phase⟩ (by simp) rfl
          have hBx := hB d17 hL
          obtain ⟨q0, q1⟩ := hBx.atV (j := b) (by rw [List.length_set]; exact hkv2)
          have hc := (Chg.refl (fun k => k = g) X).set (p := ⟨g, b, none⟩) rfl (Value.slice Aa na ca)
          clear hd
          refine ⟨rfl, ?_⟩
          go_simp
          exact hK _ _ ⟨_, _, _, _, _, _, _, _, _, _, _, _, _, _, _, _, _, _, rfl, hC.trans hc, o10, o15, fun h => absurd (d17.symm.trans h) (by decide), fun h => absurd (d17.symm.trans h) (by decide), fun _ h => (by cases h), f0, f1, f2, f3, f4, f5, f6, f7, f8, f9, f10, f11, f12, f13, f14, f15, f16, f18, fun _ => hBx.storeV (by rw [List.length_set]; exact hkv2) (Value.slice Aa na ca)⟩
        · rintro L act X hLL ⟨v88, v89, v90, v91, v92, v93, v94, v95, v96, v97, v98, v99, v100, v101, v102, v103, v104, v105, rfl, hC, o10, o15, o17, hA, hB, f0, f1, f2, f3, f4, f5, f6, f7, f8, f9, f10, f11, f12, f13, f14, f15, f16, f18, fz⟩
          have hZ := fz (hLL 19 (by simp))
          clear f0 f1 f2 f3 f4 f5 f6 f7 f8 f9 f10 f11 f12 f13 f14 f15 f16 f18 fz o10 o15 o17 hA hB hLL
          have hfin : (vs.set a (Value.slice Ab nb cb)).set b (Value.slice Aa na ca) = turnI a b vs := by rw [← HVA2.out, ← HVB2.out]; exact set_turn hkv1 hkv2
          rw [hfin] at hZ
          have hZ2 : OwnR valS (gS + 1) X 34 (.slice (some ⟨g, 0, none⟩) rs.length d0) (turnI a b (rs.map rowV)) := by rw [HVS.out]; exact hZ
          have hXz := hC.size
          have NT := hid ((HN.out.turn (a := a) (b := b) ham2 hbm2 hZ2 hC (fun q hq e => (HN.out.row q hq).2.2.1 (by rw [e]; rfl))).wide hXz)
          have RS9 := hid (RSX.out.kept (hC.block gS hgs2 (fun e => by omega)))
          have hM9 := (hC.block T hTl (fun e => hgT e.symm)).trans HM.out
          have T9 := hid (HTW.out.chg hC (fun q e => by omega))
          clear hZ hZ2 hfin hC tc0 tc1 tf0 tf1
          obtain ⟨tc0, tc1, _, _⟩ := at_get hM9
          obtain ⟨rc0, rc1, rf0, rf1⟩ := at_get T9.out.p1
          have hTR : w.heap.size + 1 < T := by omega
          have hTR2 : ¬ T = w.heap.size + 1 := by omega
          clear hM9
          go_wp2_with fail
          obtain ⟨k0, k1, _, _⟩ := at_get (at_set1 (v := .slice (some ⟨g, 0, none⟩) rs.length d0) (at_set0 (v := .slice (some ⟨gS, 0, none⟩) n dS) T9.out.p1))
          have hcR := ((Chg.refl (fun q => q = w.heap.size + 1) X).set (p := ⟨w.heap.size + 1, 0, none⟩) rfl (.slice (some ⟨gS, 0, none⟩) n dS)).set (p := ⟨w.heap.size + 1, 1, none⟩) rfl (.slice (some ⟨g, 0, none⟩) rs.length d0)
          have hll : n = (turnI a b l).length := by rw [turnI_len]; exact HLN.out
          have hrr : rs.length = (turnM a b r).length := by rw [turnM_len, HRL.out, ← HMR.out]
          refine ⟨rfl, .tuple #[.agg #[.slice (some ⟨gS, 0, none⟩) n dS, .slice (some ⟨g, 0, none⟩) rs.length d0], .bool true], by simp [results, Try.results24, go_sem, k0, k1], gS, dS, some ⟨g, 0, none⟩, d0, turnI a b rs, by rw [← hll, ← hrr], RS9.out.kept (hcR.block _ (by show gS < X.heap.size; omega) (fun e => by have e2 : gS = w.heap.size + 1 := e; omega)), by omega, ?_, by rw [turnI_map _ ham2 hbm2, HRM2.out]; rfl, ?_⟩
          · rw [← hrr]
            exact (NT.out.keep hcR (fun q hq e => by have := (NT.out.own.own_lt hq).1; omega) (fun q hq e => by have := (NT.out.row q hq).1; omega)).wide hcR.size
          · exact T9.out.b.trans (hcR.below (by have := T9.out.z; omega) (fun q e => by omega))
      case pos =>
        have hki : (k : Int) < (m : Int) := by omega
        have R2 := hid (R.out.bl hTW.b)
        obtain ⟨bB, oB, hBB, _, _, hatB⟩ := R2.out.2.2 (by omega)
        obtain ⟨AX, cX, cx, _, hRX⟩ := hatB.row hlt
        have hrS : (gt r k).length = n := by rw [(HR5.out _ (gt_mem (by rw [← HMR.out]; exact hlt))).1, ← HLN.out]
        rw [hrS] at cx hRX
        obtain ⟨bx, ox, hAX, -⟩ := hRX.2.2 (by omega)
        subst hAX hBB
        have HRX := hid hRX
        have HRS := hid hrS
        clear hatB hRX hmn hrS hTW
        go_wp2_with fail
        refine (clone_any bx ox n cX 0 _ wr HRX.out (by omega) (by omega)).mono ?_
        rintro e w6 ⟨gR, dR, rfl, hra, hgl6, hb6⟩
        have hz6 := hb6.size
        have RR := hid hra
        have hgr6 : gR < w6.heap.size := hra.lt
        have RS6 := hid (RSX.out.kept (hb6.block gS hgs2))
        have N6 := hid (HN.out.bl hb6 |>.wide hz6)
        have M6 := hid ((hb6.block T hTl).trans HM.out)
        have T6 := hid (HTW.out.bl hb6)
        have hk1 : a < (gt r k).length := by rw [HRS.out]; exact han
        have hk2 : b < (gt r k).length := by rw [HRS.out]; exact hbn
        obtain ⟨ua, hua⟩ : ∃ v, gt (gt r k) a = v := ⟨_, rfl⟩
        obtain ⟨ub, hub⟩ : ∃ v, gt (gt r k) b = v := ⟨_, rfl⟩
        have HUA := hid hua
        have HUB := hid hub
        have hNo : ∀ q, (Value.slice A2 rs.length d0).ownBlock = some q → q < wr.heap.size := fun q hq => (HN.out.own.own_lt hq).2
        have hNr : ∀ q ∈ rs, q.1 < wr.heap.size := fun q hq => (HN.out.row q hq).2.1
        clear hua hub hra hb6 cx tc0 tc1 tf0 tf1 RSX HN HM HTW
        go_wp2_with fail
        refine wp_region_invH (by kernel_rfl) (by kernel_rfl) (fun L act X => ∃ v67 v68 v69 v70 v71 v72 v73 v74 v75 v76 v77 v78 v79 v80 : Value, act = { tmps := #[Value.agg #[Value.slice (some ⟨bA, oA, none⟩) n c, Value.slice (some ⟨bB, oB, none⟩) m e0], Value.int IntKind.i64 ↑a, Value.int IntKind.i64 ↑b, Value.pointer (some ⟨w.heap.size, 0, none⟩), undef, undef, Value.pointer (some ⟨w.heap.size + 1, 0, none⟩), Value.bool false, Value.pointer (some ⟨T, 0, none⟩), undef, Value.slice (some ⟨bx, ox, none⟩) n cX, Value.slice (some ⟨gR, 0, none⟩) n dR, Value.agg #[Value.slice (some ⟨bA, oA, none⟩) n c, Value.slice (some ⟨bB, oB, none⟩) m e0], Value.bool true, Value.bool false, Value.bool false, Value.int IntKind.i64 ↑a, Value.bool false, Value.bool false, Value.bool false, Value.int IntKind.i64 ↑a, Value.agg #[Value.slice (some ⟨bA, oA, none⟩) n c, Value.slice (some ⟨bB, oB, none⟩) m e0], Value.int IntKind.i64 ↑n, Value.bool false, Value.bool false, Value.bool false, Value.int IntKind.i64 ↑b, Value.bool false, Value.bool false, Value.bool false, Value.int IntKind.i64 ↑b, Value.agg #[Value.slice (some ⟨bA, oA, none⟩) n c, Value.slice (some ⟨bB, oB, none⟩) m e0], Value.int IntKind.i64 ↑n, Value.bool false, Value.bool false, undef, Value.pointer (some ⟨w.heap.size, 0, none⟩), Value.slice (some ⟨bA, oA, none⟩) n c, Value.slice (some ⟨gS, 0, none⟩) n dS, Value.agg #[Value.slice (some ⟨gS, 0, none⟩) n dS, Value.slice none 0 0], v40, v41, v42, v43, v44, v45, v46, v47, v48, v49, v50, v51, v52, v53, v54, v55, v56, v57, Value.pointer (some ⟨w.heap.size, 1, none⟩), Value.slice (some ⟨bB, oB, none⟩) m e0, Value.int IntKind.i64 ↑m, Value.int IntKind.i64 ↑k, Value.bool true, Value.pointer (some ⟨bB, oB + k, none⟩), Value.slice (some ⟨bx, ox, none⟩) n cX, Value.slice (some ⟨bx, ox, none⟩) n cX, Value.slice (some ⟨gR, 0, none⟩) n dR, v67, v68, v69, v70, v71, v72, v73, v74, v75, v76, v77, v78, v79, v80, u81, u82, u83, u84, u85, u86, u87, undef, undef, undef, undef, undef, undef, undef, undef, undef, undef, undef, undef, undef, undef, undef, undef, undef, undef, undef], defers := [] } ∧
          (Chg (fun k => k = gR) w6 X) ∧ (L 7 = false → L 13 = false) ∧ (L 11 = false → L 13 = false) ∧ (L 13 = false → L 15 = false) ∧ (L 13 = false → RowAt X 3 (gR, dR, gt r k)) ∧ (L 13 = true → L 15 = false → RowAt X 3 (gR, dR, (gt r k).set a ub)) ∧ (L 0 = true → v67 = .slice (some ⟨gR, 0, none⟩) n dR) ∧ (L 1 = true → v68 = .int .i64 a) ∧ (L 2 = true → v69 = .slice (some ⟨gR, 0, none⟩) n dR) ∧ (L 3 = true → v70 = .int .i64 b) ∧ (L 4 = true → v71 = .slice (some ⟨gR, 0, none⟩) n dR) ∧ (L 5 = true → v72 = .int .i64 b) ∧ (L 6 = true → v73 = .pointer (some ⟨gR, b, none⟩)) ∧ (L 7 = true → v74 = .int .i64 ub) ∧ (L 8 = true → v75 = .slice (some ⟨gR, 0, none⟩) n dR) ∧ (L 9 = true → v76 = .int .i64 a) ∧ (L 10 = true → v77 = .pointer (some ⟨gR, a, none⟩)) ∧ (L 11 = true → v78 = .int .i64 ua) ∧ (L 12 = true → v79 = .pointer (some ⟨gR, a, none⟩)) ∧ (L 14 = true → v80 = .pointer (some ⟨gR, b, none⟩)) ∧ (L 15 = true → RowAt X 3 (gR, dR, ((gt r k).set a ub).set b ua))) ?_ ⟨?_, ?_, ?_, ?_, ?_, ?_, ?_, ?_, ?_, ?_, ?_, ?_, ?_, ?_, ?_, ?_, trivial⟩ ?_
        · exact ⟨_, _, _, _, _, _, _, _, _, _, _, _, _, _, rfl, (Chg.refl _ _).drew, fun _ => rfl, fun _ => rfl, fun _ => rfl, fun _ => RR.out, fun h => (by cases h), fun h => (by cases h), fun h => (by cases h), fun h => (by cases h), fun h => (by cases h), fun h => (by cases h), fun h => (by cases h), fun h => (by cases h), fun h => (by cases h), fun h => (by cases h), fun h => (by cases h), fun h => (by cases h), fun h => (by cases h), fun h => (by cases h), fun h => (by cases h), fun h => (by cases h)⟩
        · rintro L act X K0 ⟨v67, v68, v69, v70, v71, v72, v73, v74, v75, v76, v77, v78, v79, v80, rfl, hC, o10, o15, o17, hA, hB, f0, f1, f2, f3, f4, f5, f6, f7, f8, f9, f10, f11, f12, f14, fz⟩ hL hd hK
          clear hd
          refine ⟨rfl, ?_⟩
          go_simp
          exact hK _ _ ⟨_, _, _, _, _, _, _, _, _, _, _, _, _, _, rfl, hC, o10, o15, o17, hA, hB, fun _ => rfl, f1, f2, f3, f4, f5, f6, f7, f8, f9, f10, f11, f12, f14, fz⟩
        · rintro L act X K0 ⟨v67, v68, v69, v70, v71, v72, v73, v74, v75, v76, v77, v78, v79, v80, rfl, hC, o10, o15, o17, hA, hB, f0, f1, f2, f3, f4, f5, f6, f7, f8, f9, f10, f11, f12, f14, fz⟩ hL hd hK
          clear hd
          refine ⟨rfl, ?_⟩
          go_simp
          exact hK _ _ ⟨_, _, _, _, _, _, _, _, _, _, _, _, _, _, rfl, hC, o10, o15, o17, hA, hB, f0, fun _ => rfl, f2, f3, f4, f5, f6, f7, f8, f9, f10, f11, f12, f14, fz⟩
        · rintro L act X K0 ⟨v67, v68, v69, v70, v71, v72, v73, v74, v75, v76, v77, v78, v79, v80, rfl, hC, o10, o15, o17, hA, hB, f0, f1, f2, f3, f4, f5, f6, f7, f8, f9, f10, f11, f12, f14, fz⟩ hL hd hK
          clear hd
          refine ⟨rfl, ?_⟩
          go_simp
          exact hK _ _ ⟨_, _, _, _, _, _, _, _, _, _, _, _, _, _, rfl, hC, o10, o15, o17, hA, hB, f0, f1, fun _ => rfl, f3, f4, f5, f6, f7, f8, f9, f10, f11, f12, f14, fz⟩
        · rintro L act X K0 ⟨v67, v68, v69, v70, v71, v72, v73, v74, v75, v76, v77, v78, v79, v80, rfl, hC, o10, o15, o17, hA, hB, f0, f1, f2, f3, f4, f5, f6, f7, f8, f9, f10, f11, f12, f14, fz⟩ hL hd hK
          clear hd
          refine ⟨rfl, ?_⟩
          go_simp
          exact hK _ _ ⟨_, _, _, _, _, _, _, _, _, _, _, _, _, _, rfl, hC, o10, o15, o17, hA, hB, f0, f1, f2, fun _ => rfl, f4, f5, f6, f7, f8, f9, f10, f11, f12, f14, fz⟩
        · rintro L act X K0 ⟨v67, v68, v69, v70, v71, v72, v73, v74, v75, v76, v77, v78, v79, v80, rfl, hC, o10, o15, o17, hA, hB, f0, f1, f2, f3, f4, f5, f6, f7, f8, f9, f10, f11, f12, f14, fz⟩ hL hd hK
          clear hd
          refine ⟨rfl, ?_⟩
          go_simp
          exact hK _ _ ⟨_, _, _, _, _, _, _, _, _, _, _, _, _, _, rfl, hC, o10, o15, o17, hA, hB, f0, f1, f2, f3, fun _ => rfl, f5, f6, f7, f8, f9, f10, f11, f12, f14, fz⟩
        · rintro L act X K0 ⟨v67, v68, v69, v70, v71, v72, v73, v74, v75, v76, v77, v78, v79, v80, rfl, hC, o10, o15, o17, hA, hB, f0, f1, f2, f3, f4, f5, f6, f7, f8, f9, f10, f11, f12, f14, fz⟩ hL hd hK
          clear hd
          refine ⟨rfl, ?_⟩
          go_simp
          exact hK _ _ ⟨_, _, _, _, _, _, _, _, _, _, _, _, _, _, rfl, hC, o10, o15, o17, hA, hB, f0, f1, f2, f3, f4, fun _ => rfl, f6, f7, f8, f9, f10, f11, f12, f14, fz⟩
        · rintro L act X K0 ⟨v67, v68, v69, v70, v71, v72, v73, v74, v75, v76, v77, v78, v79, v80, rfl, hC, o10, o15, o17, hA, hB, f0, f1, f2, f3, f4, f5, f6, f7, f8, f9, f10, f11, f12, f14, fz⟩ hL hd hK
          have d4 := hd ⟨4, .data⟩ (by simp) rfl
          obtain rfl := f4 d4
          have d5 := hd ⟨5, .data⟩ (by simp) rfl
          obtain rfl := f5 d5
          clear hd
          refine ⟨rfl, ?_⟩
          go_simp
          exact hK _ _ ⟨_, _, _, _, _, _, _, _, _, _, _, _, _, _, rfl, hC, o10, o15, o17, hA, hB, f0, f1, f2, f3, f4, f5, fun _ => rfl, f7, f8, f9, f10, f11, f12, f14, fz⟩
        · rintro L act X K0 ⟨v67, v68, v69, v70, v71, v72, v73, v74, v75, v76, v77, v78, v79, v80, rfl, hC, o10, o15, o17, hA, hB, f0, f1, f2, f3, f4, f5, f6, f7, f8, f9, f10, f11, f12, f14, fz⟩ hL hd hK
          have d6 := hd ⟨6, .data⟩ (by simp) rfl
          obtain rfl := f6 d6
          have q0 := ((hA (o10 hL)).at_ hk2).1
          rw [HUB.out] at q0
          clear hd
          refine ⟨rfl, ?_⟩
          go_simp
          exact hK _ _ ⟨_, _, _, _, _, _, _, _, _, _, _, _, _, _, rfl, hC, fun h => (by cases h), o15, o17, hA, hB, f0, f1, f2, f3, f4, f5, f6, fun _ => rfl, f8, f9, f10, f11, f12, f14, fz⟩
        · rintro L act X K0 ⟨v67, v68, v69, v70, v71, v72, v73, v74, v75, v76, v77, v78, v79, v80, rfl, hC, o10, o15, o17, hA, hB, f0, f1, f2, f3, f4, f5, f6, f7, f8, f9, f10, f11, f12, f14, fz⟩ hL hd hK
          clear hd
          refine ⟨rfl, ?_⟩
          go_simp
          exact hK _ _ ⟨_, _, _, _, _, _, _, _, _, _, _, _, _, _, rfl, hC, o10, o15, o17, hA, hB, f0, f1, f2, f3, f4, f5, f6, f7, fun _ => rfl, f9, f10, f11, f12, f14, fz⟩
        · rintro L act X K0 ⟨v67, v68, v69, v70, v71, v72, v73, v74, v75, v76, v77, v78, v79, v80, rfl, hC, o10, o15, o17, hA, hB, f0, f1, f2, f3, f4, f5, f6, f7, f8, f9, f10, f11, f12, f14, fz⟩ hL hd hK
          clear hd
          refine ⟨rfl, ?_⟩
          go_simp
          exact hK _ _ ⟨_, _, _, _, _, _, _, _, _, _, _, _, _, _, rfl, hC, o10, o15, o17, hA, hB, f0, f1, f2, f3, f4, f5, f6, f7, f8, fun _ => rfl, f10, f11, f12, f14, fz⟩
        · rintro L act X K0 ⟨v67, v68, v69, v70, v71, v72, v73, v74, v75, v76, v77, v78, v79, v80, rfl, hC, o10, o15, o17, hA, hB, f0, f1, f2, f3, f4, f5, f6, f7, f8, f9, f10, f11, f12, f14, fz⟩ hL hd hK
          have d8 := hd ⟨8, .data⟩ (by simp) rfl
          obtain rfl := f8 d8
          have d9 := hd ⟨9, .data⟩ (by simp) rfl
          obtain rfl := f9 d9
          clear hd
          refine ⟨rfl, ?_⟩
          go_simp
          exact hK _ _ ⟨_, _, _, _, _, _, _, _, _, _, _, _, _, _, rfl, hC, o10, o15, o17, hA, hB, f0, f1, f2, f3, f4, f5, f6, f7, f8, f9, fun _ => rfl, f11, f12, f14, fz⟩
        · rintro L act X K0 ⟨v67, v68, v69, v70, v71, v72, v73, v74, v75, v76, v77, v78, v79, v80, rfl, hC, o10, o15, o17, hA, hB, f0, f1, f2, f3, f4, f5, f6, f7, f8, f9, f10, f11, f12, f14, fz⟩ hL hd hK
          have d10 := hd ⟨10, .data⟩ (by simp) rfl
          obtain rfl := f10 d10
          have q0 := ((hA (o15 hL)).at_ hk1).1
          rw [HUA.out] at q0
          clear hd
          refine ⟨rfl, ?_⟩
          go_simp
          exact hK _ _ ⟨_, _, _, _, _, _, _, _, _, _, _, _, _, _, rfl, hC, o10, fun h => (by cases h), o17, hA, hB, f0, f1, f2, f3, f4, f5, f6, f7, f8, f9, f10, fun _ => rfl, f12, f14, fz⟩
        · rintro L act X K0 ⟨v67, v68, v69, v70, v71, v72, v73, v74, v75, v76, v77, v78, v79, v80, rfl, hC, o10, o15, o17, hA, hB, f0, f1, f2, f3, f4, f5, f6, f7, f8, f9, f10, f11, f12, f14, fz⟩ hL hd hK
          have d0 := hd ⟨0, .data⟩ (by simp) rfl
          obtain rfl := f0 d0
          have d1 := hd ⟨1, .data⟩ (by simp) rfl
          obtain rfl := f1 d1
          clear hd
          refine ⟨rfl, ?_⟩
          go_simp
          exact hK _ _ ⟨_, _, _, _, _, _, _, _, _, _, _, _, _, _, rfl, hC, o10, o15, o17, hA, hB, f0, f1, f2, f3, f4, f5, f6, f7, f8, f9, f10, f11, fun _ => rfl, f14, fz⟩
        · rintro L act X K0 ⟨v67, v68, v69, v70, v71, v72, v73, v74, v75, v76, v77, v78, v79, v80, rfl, hC, o10, o15, o17, hA, hB, f0, f1, f2, f3, f4, f5, f6, f7, f8, f9, f10, f11, f12, f14, fz⟩ hL hd hK
          have d12 := hd ⟨12, .data⟩ (by simp) rfl
          obtain rfl := f12 d12
          have d7 := hd ⟨7, .data⟩ (by simp) rfl
          obtain rfl := f7 d7
          have d11 := hd ⟨11, .phase⟩ (by simp) rfl
          obtain rfl := f11 d11
          obtain ⟨q0, q1⟩ := (hA hL).at_ hk1
          have hc := (Chg.refl (fun k => k = gR) X).set (p := ⟨gR, a, none⟩) rfl (.int .i64 ub)
          clear hd
          refine ⟨rfl, ?_⟩
          go_simp
          exact hK _ _ ⟨_, _, _, _, _, _, _, _, _, _, _, _, _, _, rfl, hC.trans hc, fun h => absurd (d7.symm.trans h) (by decide), fun h => absurd (d11.symm.trans h) (by decide), fun h => (by cases h), fun h => (by cases h), fun _ _ => (hA hL).set hk1 ub, f0, f1, f2, f3, f4, f5, f6, f7, f8, f9, f10, f11, f12, f14, fun h => absurd ((o17 hL).symm.trans h) (by decide)⟩
        · rintro L act X K0 ⟨v67, v68, v69, v70, v71, v72, v73, v74, v75, v76, v77, v78, v79, v80, rfl, hC, o10, o15, o17, hA, hB, f0, f1, f2, f3, f4, f5, f6, f7, f8, f9, f10, f11, f12, f14, fz⟩ hL hd hK
          have d2 := hd ⟨2, .data⟩ (by simp) rfl
          obtain rfl := f2 d2
          have d3 := hd ⟨3, .data⟩ (by simp) rfl
          obtain rfl := f3 d3
          clear hd
          refine ⟨rfl, ?_⟩
          go_simp
          exact hK _ _ ⟨_, _, _, _, _, _, _, _, _, _, _, _, _, _, rfl, hC, o10, o15, o17, hA, hB, f0, f1, f2, f3, f4, f5, f6, f7, f8, f9, f10, f11, f12, fun _ => rfl, fz⟩
        · rintro L act X K0 ⟨v67, v68, v69, v70, v71, v72, v73, v74, v75, v76, v77, v78, v79, v80, rfl, hC, o10, o15, o17, hA, hB, f0, f1, f2, f3, f4, f5, f6, f7, f8, f9, f10, f11, f12, f14, fz⟩ hL hd hK
          have d14 := hd ⟨14, .data⟩ (by simp) rfl
          obtain rfl := f14 d14
          have d11 := hd ⟨11, .data⟩ (by simp) rfl
          obtain rfl := f11 d11
          have d13 := hd ⟨13, .phase⟩ (by simp) rfl
          have hBx := hB d13 hL
          obtain ⟨q0, q1⟩ := hBx.at_ (j := b) (by rw [List.length_set]; exact hk2)
          have hc := (Chg.refl (fun k => k = gR) X).set (p := ⟨gR, b, none⟩) rfl (.int .i64 ua)
          clear hd
          refine ⟨rfl, ?_⟩
          go_simp
          exact hK _ _ ⟨_, _, _, _, _, _, _, _, _, _, _, _, _, _, rfl, hC.trans hc, o10, o15, fun h => absurd (d13.symm.trans h) (by decide), fun h => absurd (d13.symm.trans h) (by decide), fun _ h => (by cases h), f0, f1, f2, f3, f4, f5, f6, f7, f8, f9, f10, f11, f12, f14, fun _ => hBx.set (by rw [List.length_set]; exact hk2) ua⟩
        · rintro L act X hLL ⟨v67, v68, v69, v70, v71, v72, v73, v74, v75, v76, v77, v78, v79, v80, rfl, hC, o10, o15, o17, hA, hB, f0, f1, f2, f3, f4, f5, f6, f7, f8, f9, f10, f11, f12, f14, fz⟩
          have hZ := fz (hLL 15 (by simp))
          clear f0 f1 f2 f3 f4 f5 f6 f7 f8 f9 f10 f11 f12 f14 fz o10 o15 o17 hA hB hLL
          have hfin : ((gt r k).set a ub).set b ua = turnI a b (gt r k) := by rw [← HUA.out, ← HUB.out]; exact set_turn hk1 hk2
          rw [hfin] at hZ
          have hXz := hC.size
          have HROW := hid hZ
          have HN3 := hid ((N6.out.keep hC (fun q hq e => by have := (N6.out.own.own_lt hq).2; have h9 := hNo q hq; omega) (fun q hq e => by have := hNr q hq; omega)).wide hXz)
          have RS7 := hid (RS6.out.kept (hC.block _ (by omega) (fun e => by omega)))
          have M7 := hid ((hC.block T (by omega) (fun e => by omega)).trans M6.out)
          have T7 := hid (T6.out.chg hC (fun q e => by omega))
          have hlen : (turnI a b (gt r k)).length = n := by rw [turnI_len, HRS.out]
          have HLEN := hid hlen
          clear hZ hfin hC hlen
          obtain ⟨tc0, tc1, tf0, tf1⟩ := at_get M7.out
          have hk6 : k < 6 := by have := HMN.out; omega
          have hk63 : (k : Int) + 1 ≤ 9223372036854775807 := by omega
          go_wp2_with (at_builtin; refine wpList_append_rowV rfl (.tmp 82) (.tmp 84) _ rfl Try.underlying22 HJ.out (v := .slice A2 rs.length d0) rfl rfl (HN3.out.al _) (r := (gR, dR, turnI a b (gt r k))) (by show Value.slice _ (turnI a b (gt r k)).length _ = _; rw [HLEN.out]) rfl (heap_alloc_new _ _) (HROW.out.al _) (by show gS + 1 ≤ gR; omega) (fun e => by have h9 := hNo gR e; omega) (fun q hq e => by have := hNr q hq; have e2 : q.1 = gR := e; omega) (by omega) (by simp <;> omega) (by simp <;> omega) ?_; intro A3 c3 w8 hN4 hc3 hg3; obtain ⟨g3, rfl, hg3⟩ := hg3; have hM4 := (((chg_new X _ _).trans hc3).block T (by omega) (fun e => HSEP.out.1 e)).trans M7.out; obtain ⟨mc2, mc3, mf2, mf3⟩ := at_get hM4; have HM4 := hid hM4; have HN4 := hid hN4; have HC4 := hid ((chg_new X _ _).trans hc3); clear hM4 hN4 hc3)
          have hg3T : g3 ≠ T := by
            rcases hg3 with e | e
            · intro e2; subst e2; exact HSEP.out.1 e
            · rw [World.size_alloc] at e
              omega
          have hg3l : gS + 1 ≤ g3 := by
            rcases hg3 with e | e
            · exact (N6.out.own.own_lt e).1
            · rw [World.size_alloc] at e
              omega
          have hcT := (Chg.refl (fun q => q = T) w8).set (p := ⟨T, 1, none⟩) rfl (.slice (some ⟨g3, 0, none⟩) (rs.length + 1) c3)
          have hz4 := HC4.out.size
          have hTgs : T ≠ gS := by omega
          go_roundg (gk - 1)
          case measure => have := HKG.out; omega
          case rel =>
            refine ⟨k + 1, rs ++ [(gR, dR, turnI a b (gt r k))], some ⟨g3, 0, none⟩, c3, by have := HKG.out; omega, by go_num, ?_, ?_, ?_, by rw [List.length_append, HRL.out]; rfl, ?_, ⟨fun e => hg3T (by have e2 : some g3 = some T := e; injection e2), fun q hq => ?_⟩, ?_, by have := hcT.size; omega⟩
            · exact (RS7.out.kept (HC4.out.block _ (by omega) (fun e => by have := (N6.out.own.own_lt e).1; omega))).kept (hcT.block _ (by omega) (fun e => hTgs e.symm))
            · rw [List.length_append]
              exact (HN4.out.keep hcT (fun q hq e => by have h' : some g3 = some q := hq; injection h' with h'; omega) (fun q hq e => by
                rcases List.mem_append.1 hq with hq | hq
                · exact HSEP.out.2 q hq e
                · rw [List.mem_singleton] at hq; subst hq; have e' : gR = T := e; omega)).wide (by simp)
            · rw [List.map_append, HRM.out, take_gt (by rw [List.length_map, ← HMR.out]; exact hlt), gt_map (by rw [← HMR.out]; exact hlt)]
              rfl
            · rw [List.length_append]
              exact at_set1 HM4.out
            · rcases List.mem_append.1 hq with hq | hq
              · exact HSEP.out.2 q hq
              · rw [List.mem_singleton] at hq; subst hq; show gR ≠ T; omega
            · exact (T7.out.chg HC4.out (fun q e => by have := (N6.out.own.own_lt e).1; omega)).chg hcT (fun q e => by omega)
end Go.Proofs.Yteccacnojmilcaa
