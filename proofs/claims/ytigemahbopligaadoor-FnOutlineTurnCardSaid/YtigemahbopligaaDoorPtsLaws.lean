/- The points of outlines that are turned, mirrored, drawn backwards, in plain Lean. No program in sight. -/
import Derived.Test.YtigemahbopligaaDoorSpanPure
import Derived.Test.YtigemahbopligaaDoorChange
import Derived.Test.YtigemahbopligaaDoorOutLaws
namespace Go.Proofs.YtigemahbopligaaDoor
def sumX : List Int → Int
  | [] => 0
  | d :: r => stepX d + sumX r
def sumY : List Int → Int
  | [] => 0
  | d :: r => stepY d + sumY r
theorem sumX_append (a b : List Int) : sumX (a ++ b) = sumX a + sumX b := by
  induction a with
  | nil => simp [sumX]
  | cons d r ih => rw [List.cons_append, sumX, sumX, ih]; omega
theorem sumY_append (a b : List Int) : sumY (a ++ b) = sumY a + sumY b := by
  induction a with
  | nil => simp [sumY]
  | cons d r ih => rw [List.cons_append, sumY, sumY, ih]; omega
theorem sumX_reverse (a : List Int) : sumX a.reverse = sumX a := by
  induction a with
  | nil => rfl
  | cons d r ih => rw [List.reverse_cons, sumX_append, ih]; simp only [sumX]; omega
theorem sumY_reverse (a : List Int) : sumY a.reverse = sumY a := by
  induction a with
  | nil => rfl
  | cons d r ih => rw [List.reverse_cons, sumY_append, ih]; simp only [sumY]; omega
theorem way_append (a b : List Int) (x y : Int) : way x y (a ++ b) = way x y a ++ way (x + sumX a) (y + sumY a) b := by
  induction a generalizing x y with
  | nil => simp [way, sumX, sumY]
  | cons d r ih =>
    rw [List.cons_append, way, ih, way, sumX, sumY, List.cons_append, Int.add_assoc, Int.add_assoc]
theorem way_last (l : List Int) (x y : Int) : gt ((x, y) :: way x y l) l.length = (x + sumX l, y + sumY l) := by
  induction l generalizing x y with
  | nil => simp [gt, way, sumX, sumY]
  | cons d r ih =>
    have h1 : gt ((x, y) :: way x y (d :: r)) (d :: r).length = gt ((x + stepX d, y + stepY d) :: way (x + stepX d) (y + stepY d) r) r.length := by simp [gt, way]
    rw [h1, ih, sumX, sumY, Int.add_assoc, Int.add_assoc]
theorem last_pts (l : List Int) : lastP (ptsD l) = (sumX l, sumY l) := by
  have := way_last l 0 0
  rw [Int.zero_add, Int.zero_add] at this
  unfold lastP ptsD
  rw [List.length_cons, way_length, Nat.add_sub_cancel]
  exact this
theorem way_shift (l : List Int) (x y a b : Int) : way (x + a) (y + b) l = (way x y l).map fun p => (p.1 + a, p.2 + b) := by
  induction l generalizing x y with
  | nil => rfl
  | cons d r ih =>
    simp only [way, List.map_cons]
    rw [show x + a + stepX d = x + stepX d + a by omega, show y + b + stepY d = y + stepY d + b by omega, ih]
/-- A linear map of the plane. -/
def lin (a b c d : Int) (p : Int × Int) : Int × Int := (a * p.1 + b * p.2, c * p.1 + d * p.2)
theorem way_lin {f : Int → Int} {a b c e : Int} (l : List Int) (h : ∀ d ∈ l, stepX (f d) = a * stepX d + b * stepY d ∧ stepY (f d) = c * stepX d + e * stepY d) (x y : Int) :
    way (a * x + b * y) (c * x + e * y) (l.map f) = (way x y l).map (lin a b c e) := by
  induction l generalizing x y with
  | nil => rfl
  | cons d r ih =>
    have hd := h d (List.mem_cons_self ..)
    have e1 : a * x + b * y + stepX (f d) = a * (x + stepX d) + b * (y + stepY d) := by rw [hd.1, Int.mul_add, Int.mul_add]; omega
    have e2 : c * x + e * y + stepY (f d) = c * (x + stepX d) + e * (y + stepY d) := by rw [hd.2, Int.mul_add, Int.mul_add]; omega
    simp only [List.map_cons, way]
    rw [e1, e2, ih fun q hq => h q (List.mem_cons_of_mem _ hq)]
    rfl
theorem pts_lin {f : Int → Int} {a b c e : Int} {l : List Int} (h : ∀ d ∈ l, stepX (f d) = a * stepX d + b * stepY d ∧ stepY (f d) = c * stepX d + e * stepY d) : ptsD (l.map f) = (ptsD l).map (lin a b c e) := by
  have := way_lin l h 0 0
  simp only [Int.mul_zero, Int.add_zero] at this
  simp [ptsD, this, lin]
theorem dirsO_chg (t m : Int) (o : List (Int × Int)) : dirsO (o.map (chg t m)) = (dirsO o).map (chgD t m) := by
  induction o with
  | nil => rfl
  | cons a r ih => rw [List.map_cons, dirsO, dirsO, ih, List.map_append, List.map_replicate]; rfl
theorem dirsO_append (a b : List (Int × Int)) : dirsO (a ++ b) = dirsO a ++ dirsO b := by
  induction a with
  | nil => rfl
  | cons x r ih => rw [List.cons_append, dirsO, dirsO, ih, List.append_assoc]
theorem dirsO_reverse (o : List (Int × Int)) : dirsO o.reverse = (dirsO o).reverse := by
  induction o with
  | nil => rfl
  | cons a r ih =>
    rw [List.reverse_cons, dirsO_append, ih]
    simp [dirsO]
theorem dirs_all {p : Int → Prop} (h : ∀ d : Fin 8, p (d.val : Int)) {l : List Int} (hl : ∀ d ∈ l, 0 ≤ d ∧ d ≤ 7) : ∀ d ∈ l, p d := fun d hd => by
  have := hl d hd
  obtain ⟨n, rfl⟩ := Int.eq_ofNat_of_zero_le this.1
  exact h ⟨n, by omega⟩
theorem step_mir : ∀ d : Fin 8, stepX (chgD 7 0 (d.val : Int)) = 1 * stepX (d.val : Int) + 0 * stepY (d.val : Int) ∧ stepY (chgD 7 0 (d.val : Int)) = 0 * stepX (d.val : Int) + (-1) * stepY (d.val : Int) := by decide
theorem step_t2 : ∀ d : Fin 8, stepX (chgD 1 2 (d.val : Int)) = 0 * stepX (d.val : Int) + (-1) * stepY (d.val : Int) ∧ stepY (chgD 1 2 (d.val : Int)) = 1 * stepX (d.val : Int) + 0 * stepY (d.val : Int) := by decide
theorem step_t4 : ∀ d : Fin 8, stepX (chgD 1 4 (d.val : Int)) = (-1) * stepX (d.val : Int) + 0 * stepY (d.val : Int) ∧ stepY (chgD 1 4 (d.val : Int)) = 0 * stepX (d.val : Int) + (-1) * stepY (d.val : Int) := by decide
theorem step_t6 : ∀ d : Fin 8, stepX (chgD 1 6 (d.val : Int)) = 0 * stepX (d.val : Int) + 1 * stepY (d.val : Int) ∧ stepY (chgD 1 6 (d.val : Int)) = (-1) * stepX (d.val : Int) + 0 * stepY (d.val : Int) := by decide
section
variable {o : List (Int × Int)} (h : ∀ p ∈ o, strokeOk p = true)
include h
theorem pts_mir : ptsO (o.map (chg 7 0)) = (ptsO o).map (lin 1 0 0 (-1)) := by
  unfold ptsO
  rw [dirsO_chg]
  exact pts_lin (dirs_all step_mir (dirsO_bd h))
theorem pts_t2 : ptsO (o.map (chg 1 2)) = (ptsO o).map (lin 0 (-1) 1 0) := by
  unfold ptsO
  rw [dirsO_chg]
  exact pts_lin (dirs_all step_t2 (dirsO_bd h))
theorem pts_t4 : ptsO (o.map (chg 1 4)) = (ptsO o).map (lin (-1) 0 0 (-1)) := by
  unfold ptsO
  rw [dirsO_chg]
  exact pts_lin (dirs_all step_t4 (dirsO_bd h))
theorem pts_t6 : ptsO (o.map (chg 1 6)) = (ptsO o).map (lin 0 1 (-1) 0) := by
  unfold ptsO
  rw [dirsO_chg]
  exact pts_lin (dirs_all step_t6 (dirsO_bd h))
end
theorem sums_neg {l : List Int} (hl : ∀ d ∈ l, 0 ≤ d ∧ d ≤ 7) : sumX (l.map (chgD 1 4)) = -sumX l ∧ sumY (l.map (chgD 1 4)) = -sumY l := by
  induction l with
  | nil => simp [sumX, sumY]
  | cons d r ih =>
    have := ih fun q hq => hl q (List.mem_cons_of_mem _ hq)
    have hd := dirs_all (p := fun d => stepX (chgD 1 4 d) = (-1) * stepX d + 0 * stepY d ∧ stepY (chgD 1 4 d) = 0 * stepX d + (-1) * stepY d) step_t4 hl d (List.mem_cons_self ..)
    simp only [List.map_cons, sumX, sumY]
    omega
theorem pts_rev {l : List Int} (hl : ∀ d ∈ l, 0 ≤ d ∧ d ≤ 7) : ptsD (l.map (chgD 1 4)).reverse = (ptsD l).reverse.map fun p => (p.1 + -sumX l, p.2 + -sumY l) := by
  induction l with
  | nil => simp [ptsD, way, sumX, sumY]
  | cons d r ih =>
    have hr := fun q hq => hl q (List.mem_cons_of_mem _ hq)
    have i := ih hr
    have hd := dirs_all (p := fun d => stepX (chgD 1 4 d) = (-1) * stepX d + 0 * stepY d ∧ stepY (chgD 1 4 d) = 0 * stepX d + (-1) * stepY d) step_t4 hl d (List.mem_cons_self ..)
    have sn := sums_neg hr
    have e1 : ptsD (d :: r) = (0, 0) :: (ptsD r).map fun p => (p.1 + stepX d, p.2 + stepY d) := by
      simp only [ptsD, way, List.map_cons]
      rw [way_shift]
    rw [List.map_cons, List.reverse_cons, e1, List.reverse_cons]
    unfold ptsD at i ⊢
    rw [way_append, ← List.cons_append, i, List.map_append, List.map_reverse, List.map_reverse, List.map_map]
    congr 1
    · congr 1
      refine List.map_congr_left fun p _ => ?_
      simp only [Function.comp, sumX, sumY, Prod.mk.injEq]
      omega
    · simp only [way, sumX_reverse, sumY_reverse, sn.1, sn.2, sumX, sumY, List.map_cons, List.map_nil, List.cons.injEq, Prod.mk.injEq, and_true]
      omega
theorem pts_back {o : List (Int × Int)} (h : ∀ p ∈ o, strokeOk p = true) : ptsO (o.map (chg 1 4)).reverse = (ptsO o).reverse.map fun p => (p.1 + -sumX (dirsO o), p.2 + -sumY (dirsO o)) := by
  unfold ptsO
  rw [dirsO_reverse, dirsO_chg]
  exact pts_rev (dirsO_bd h)
/-! Ends. -/
theorem end_eq {o : List (Int × Int)} (h : outOk o = true) : endX o = sumX (dirsO o) ∧ endY o = sumY (dirsO o) := by
  have e : lastP (ptsO o) = (sumX (dirsO o), sumY (dirsO o)) := last_pts (dirsO o)
  simp [endX, endY, h, e]
theorem sum_lin {f : Int → Int} {a b c e : Int} {l : List Int} (h : ∀ d ∈ l, stepX (f d) = a * stepX d + b * stepY d ∧ stepY (f d) = c * stepX d + e * stepY d) : sumX (l.map f) = a * sumX l + b * sumY l ∧ sumY (l.map f) = c * sumX l + e * sumY l := by
  induction l with
  | nil => simp [sumX, sumY]
  | cons d r ih =>
    have i := ih fun q hq => h q (List.mem_cons_of_mem _ hq)
    have hd := h d (List.mem_cons_self ..)
    simp only [List.map_cons, sumX, sumY, Int.mul_add]
    omega
theorem end_lin {t m a b c e : Int} (ht : unit8 t) (hs : ∀ d : Fin 8, stepX (chgD t m (d.val : Int)) = a * stepX (d.val : Int) + b * stepY (d.val : Int) ∧ stepY (chgD t m (d.val : Int)) = c * stepX (d.val : Int) + e * stepY (d.val : Int)) {o : List (Int × Int)} (h : outOk o = true) :
    endX (o.map (chg t m)) = a * endX o + b * endY o ∧ endY (o.map (chg t m)) = c * endX o + e * endY o := by
  have h1 := end_eq h
  have h2 := end_eq (outOk_chg (m := m) ht h)
  rw [dirsO_chg] at h2
  have := sum_lin (dirs_all hs (dirsO_bd (linked_ok (outOk_yes h).1)))
  rw [h1.1, h1.2, h2.1, h2.2]
  exact this
theorem end_back {o : List (Int × Int)} (h : outOk o = true) : endX (o.map (chg 1 4)).reverse = -endX o ∧ endY (o.map (chg 1 4)).reverse = -endY o := by
  have h1 := end_eq h
  have h2 := end_eq (o := (o.map (chg 1 4)).reverse) (by rw [outOk_reverse]; exact outOk_chg (.inl rfl) h)
  rw [dirsO_reverse, dirsO_chg, sumX_reverse, sumY_reverse] at h2
  have := sums_neg (dirsO_bd (linked_ok (outOk_yes h).1))
  omega
theorem sum_bd (l : List Int) (hl : ∀ d ∈ l, 0 ≤ d ∧ d ≤ 7) : (-(l.length : Int) ≤ sumX l ∧ sumX l ≤ l.length) ∧ (-(l.length : Int) ≤ sumY l ∧ sumY l ≤ l.length) := by
  induction l with
  | nil => simp [sumX, sumY]
  | cons d r ih =>
    have := ih fun q hq => hl q (List.mem_cons_of_mem _ hq)
    have h0 := hl d (List.mem_cons_self ..)
    have := step_bd h0.1 h0.2
    simp only [sumX, sumY, List.length_cons]
    omega
theorem dirs_sum {o : List (Int × Int)} (h : ∀ p ∈ o, strokeOk p = true) : ((dirsO o).length : Int) = sumSz o := by
  induction o with
  | nil => rfl
  | cons a r ih =>
    have := ih fun p hp => h p (List.mem_cons_of_mem _ hp)
    have ha := strokeOk_yes.1 (h a (List.mem_cons_self ..))
    simp only [dirsO, List.length_append, List.length_replicate, sumSz]
    omega
theorem end_len {o : List (Int × Int)} (h : outOk o = true) : (-lenOf o ≤ endX o ∧ endX o ≤ lenOf o) ∧ (-lenOf o ≤ endY o ∧ endY o ≤ lenOf o) := by
  have hk := linked_ok (outOk_yes h).1
  have h1 := end_eq h
  have h2 := sum_bd _ (dirsO_bd hk)
  rw [dirs_sum hk] at h2
  simp only [lenOf, h, if_true]
  omega
theorem pts_first (o : List (Int × Int)) : (0, 0) ∈ ptsO o := List.mem_cons_self ..
theorem pts_end {o : List (Int × Int)} (h : outOk o = true) : (endX o, endY o) ∈ ptsO o := by
  have e : lastP (ptsO o) = (sumX (dirsO o), sumY (dirsO o)) := last_pts (dirsO o)
  have h1 := end_eq h
  rw [h1.1, h1.2, ← e]
  unfold lastP
  refine gt_mem ?_
  simp [ptsO, ptsD]
theorem end_box {o : List (Int × Int)} (h : outOk o = true) : (-boxX o ≤ endX o ∧ endX o ≤ boxX o) ∧ (-boxY o ≤ endY o ∧ endY o ≤ boxY o) := by
  have a : (0 : Int) ∈ (ptsO o).map (·.1) := List.mem_map.2 ⟨_, pts_first o, rfl⟩
  have b : endX o ∈ (ptsO o).map (·.1) := List.mem_map.2 ⟨_, pts_end h, rfl⟩
  have c : (0 : Int) ∈ (ptsO o).map (·.2) := List.mem_map.2 ⟨_, pts_first o, rfl⟩
  have d : endY o ∈ (ptsO o).map (·.2) := List.mem_map.2 ⟨_, pts_end h, rfl⟩
  have := span_two a b
  have := span_two b a
  have := span_two c d
  have := span_two d c
  simp only [boxX, boxY, h, if_true]
  omega
/-! Boxes. -/
theorem pts_ne (o : List (Int × Int)) (f : Int × Int → Int) : (ptsO o).map f ≠ [] := by simp [ptsO, ptsD]
theorem box_bd {o : List (Int × Int)} (h : outOk o = true) : boxX o ≤ 48 ∧ boxY o ≤ 48 := by
  have hk := linked_ok (outOk_yes h).1
  have h8 := (outOk_yes h).2
  have hb := ptsO_bd hk
  obtain ⟨M, m, h1, h2, h3, h4⟩ := span_ex (pts_ne o (·.1))
  obtain ⟨M', m', h1', h2', h3', h4'⟩ := span_ex (pts_ne o (·.2))
  simp only [boxX, boxY, h, if_true]
  rw [span_of h1 h2 h3 h4, span_of h1' h2' h3' h4']
  obtain ⟨p, hp, rfl⟩ := List.mem_map.1 h1
  obtain ⟨q, hq, rfl⟩ := List.mem_map.1 h3
  obtain ⟨p', hp', rfl⟩ := List.mem_map.1 h1'
  obtain ⟨q', hq', rfl⟩ := List.mem_map.1 h3'
  have := hb p hp
  have := hb q hq
  have := hb p' hp'
  have := hb q' hq'
  omega
theorem len_bd {o : List (Int × Int)} (h : outOk o = true) : 0 ≤ lenOf o ∧ lenOf o ≤ 24 := by
  have hk := linked_ok (outOk_yes h).1
  have h8 := (outOk_yes h).2
  have := sumSz_bd hk
  simp only [lenOf, h, if_true]
  omega
theorem box_mir {o : List (Int × Int)} (h : outOk o = true) : boxX (o.map (chg 7 0)) = boxX o ∧ boxY (o.map (chg 7 0)) = boxY o := by
  have hk := linked_ok (outOk_yes h).1
  simp only [boxX, boxY, h, outOk_chg (.inr rfl) h, if_true]
  rw [pts_mir hk, List.map_map, List.map_map]
  constructor
  · congr 1
    refine List.map_congr_left fun p _ => ?_
    simp [lin]
  · rw [← span_neg (pts_ne o _), List.map_map]
    congr 1
    refine List.map_congr_left fun p _ => ?_
    simp [lin]
theorem box_t2 {o : List (Int × Int)} (h : outOk o = true) : boxX (o.map (chg 1 2)) = boxY o ∧ boxY (o.map (chg 1 2)) = boxX o := by
  have hk := linked_ok (outOk_yes h).1
  simp only [boxX, boxY, h, outOk_chg (.inl rfl) h, if_true]
  rw [pts_t2 hk, List.map_map, List.map_map]
  constructor
  · rw [← span_neg (pts_ne o (·.2)), List.map_map]
    congr 1
    refine List.map_congr_left fun p _ => ?_
    simp [lin]
  · congr 1
    refine List.map_congr_left fun p _ => ?_
    simp [lin]
theorem box_back {o : List (Int × Int)} (h : outOk o = true) : boxX (o.map (chg 1 4)).reverse = boxX o ∧ boxY (o.map (chg 1 4)).reverse = boxY o := by
  have hk := linked_ok (outOk_yes h).1
  simp only [boxX, boxY, h, outOk_reverse, outOk_chg (.inl rfl) h, if_true]
  rw [pts_back hk, List.map_map, List.map_map]
  constructor
  · rw [← span_add (-sumX (dirsO o)) (pts_ne o (·.1)), List.map_map]
    refine span_mem (by simp [ptsO, ptsD]) fun x => ?_
    simp [List.mem_map]
  · rw [← span_add (-sumY (dirsO o)) (pts_ne o (·.2)), List.map_map]
    refine span_mem (by simp [ptsO, ptsD]) fun x => ?_
    simp [List.mem_map]
/-! Touches. -/
theorem tou_mir {o : List (Int × Int)} (h : outOk o = true) : touOf (o.map (chg 7 0)) = touOf o := by
  simp only [touOf, h, outOk_chg (.inr rfl) h, if_true]
  rw [pts_mir (linked_ok (outOk_yes h).1)]
  exact tou_map (f := lin 1 0 0 (-1)) (fun x y e => by simp only [lin, Prod.mk.injEq] at e; exact Prod.ext (by omega) (by omega)) (ptsO o) []
theorem tou_back {o : List (Int × Int)} (h : outOk o = true) : touOf (o.map (chg 1 4)).reverse = touOf o := by
  simp only [touOf, h, outOk_reverse, outOk_chg (.inl rfl) h, if_true]
  rw [pts_back (linked_ok (outOk_yes h).1)]
  rw [← tou_map (f := fun p => (p.1 + -sumX (dirsO o), p.2 + -sumY (dirsO o))) (fun x y e => by simp only [Prod.mk.injEq] at e; exact Prod.ext (by omega) (by omega)) (ptsO o) []]
  refine tou_mem (by simp) fun x => ?_
  simp [List.mem_map]
theorem tou_len {o : List (Int × Int)} (h : outOk o = true) : touOf o ≤ lenOf o := by
  have hk := linked_ok (outOk_yes h).1
  simp only [touOf, lenOf, h, if_true]
  rw [← dirs_sum hk]
  have := touL_bd (way 0 0 (dirsO o)) [(0, 0)]
  rw [way_length] at this
  simp only [ptsO, ptsD, touL, hasP, List.any_nil, bitI, List.nil_append]
  simp only [Bool.false_eq_true, if_false]
  omega
theorem tou_take {o : List (Int × Int)} (h : outOk o = true) (k : Nat) : touOf (o.take k) ≤ touOf o := by
  simp only [touOf, h, outOk_take h k, if_true]
  have e : ptsO o = ptsO (o.take k) ++ way (sumX (dirsO (o.take k))) (sumY (dirsO (o.take k))) (dirsO (o.drop k)) := by
    conv => lhs; rw [← List.take_append_drop k o]
    simp only [ptsO, ptsD]
    rw [dirsO_append, way_append, Int.zero_add, Int.zero_add]
    rfl
  rw [e, tou_append]
  have := touL_bd (way (sumX (dirsO (o.take k))) (sumY (dirsO (o.take k))) (dirsO (o.drop k))) ([] ++ ptsO (o.take k))
  omega
theorem tou_two : ∀ (a b : Fin 8) (s t : Fin 3), (adj (a.val, s.val + 1) (b.val, t.val + 1) = false) ∨ touL [] (ptsO [((a.val : Int), (s.val : Int) + 1), ((b.val : Int), (t.val : Int) + 1)]) = 0 := by decide +kernel
theorem tou_one : ∀ (a : Fin 8) (s : Fin 3), touL [] (ptsO [((a.val : Int), (s.val : Int) + 1)]) = 0 := by decide +kernel
theorem stroke_fin {p : Int × Int} (h : strokeOk p = true) : ∃ (a : Fin 8) (s : Fin 3), p = ((a.val : Int), (s.val : Int) + 1) := by
  have := strokeOk_yes.1 h
  refine ⟨⟨p.1.toNat, by omega⟩, ⟨(p.2 - 1).toNat, by omega⟩, Prod.ext ?_ ?_⟩
  · simp only []; omega
  · simp only []; omega
theorem tou_few {o : List (Int × Int)} (h : outOk o = true) (h2 : o.length ≤ 2) : touOf o = 0 := by
  have hk := linked_ok (outOk_yes h).1
  simp only [touOf, h, if_true]
  match o, h2 with
  | [], _ => decide
  | [p], _ =>
    obtain ⟨a, s, rfl⟩ := stroke_fin (hk p (List.mem_cons_self ..))
    exact tou_one a s
  | [p, q], _ =>
    obtain ⟨a, s, rfl⟩ := stroke_fin (hk p (List.mem_cons_self ..))
    obtain ⟨b, t, rfl⟩ := stroke_fin (hk q (List.mem_cons_of_mem _ (List.mem_cons_self ..)))
    rcases tou_two a b s t with h' | h'
    · have hl := (outOk_yes h).1
      simp [linked, h'] at hl
    · exact h'
end Go.Proofs.YtigemahbopligaaDoor
