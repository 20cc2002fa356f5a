/- Marks of rows of rows of the call's own, and fresh copies. -/
import Derived.Test.YtfjoininagdlcaaNestFns
namespace Go.Proofs.Ytfjoininagdlcaa
open Go.RowKit
def markR : Int → List RowD → List RowD
  | _, [] => []
  | k, (b, c, l) :: r => (b, c, marksI k l.length) :: markR (k + l.length) r
def lensR (rs : List RowD) : List Nat := rs.map fun r => r.2.2.length
theorem markR_len (k : Int) (rs : List RowD) : (markR k rs).length = rs.length := by
  induction rs generalizing k with
  | nil => rfl
  | cons x r ih => obtain ⟨b, c, l⟩ := x; simp [markR, ih]
theorem markR_vals (k : Int) (rs : List RowD) : (markR k rs).map rowV = rs.map rowV := by
  induction rs generalizing k with
  | nil => rfl
  | cons x r ih => obtain ⟨b, c, l⟩ := x; simp [markR, ih, rowV, marksI_len]
theorem markR_blocks (k : Int) (rs : List RowD) : (markR k rs).map (·.1) = rs.map (·.1) := by
  induction rs generalizing k with
  | nil => rfl
  | cons x r ih => obtain ⟨b, c, l⟩ := x; simp [markR, ih]
theorem markR_lists (k : Int) (rs : List RowD) : (markR k rs).map (·.2.2) = marksSS k (lensR rs) := by
  induction rs generalizing k with
  | nil => rfl
  | cons x r ih => obtain ⟨b, c, l⟩ := x; simp [markR, marksSS, lensR, ih]
theorem markR_gt {rs : List RowD} {j : Nat} (h : j < rs.length) (k : Int) : gt (markR k rs) j = ((gt rs j).1, (gt rs j).2.1, marksI (k + sumLen ((lensR rs).take j)) (gt rs j).2.2.length) := by
  induction rs generalizing k j with
  | nil => simp at h
  | cons x r ih =>
    obtain ⟨b, c, l⟩ := x
    cases j with
    | zero => simp [markR, gt, sumLen]
    | succ j =>
      have := ih (j := j) (by simpa using h) (k + l.length)
      have e1 : gt (markR k ((b, c, l) :: r)) (j + 1) = gt (markR (k + l.length) r) j := by simp [markR, gt]
      have e2 : gt ((b, c, l) :: r) (j + 1) = gt r j := by simp [gt]
      have e3 : (lensR ((b, c, l) :: r)).take (j + 1) = l.length :: (lensR r).take j := by simp [lensR]
      rw [e1, e2, this, e3, sumLen]
      have e4 : k + (l.length : Int) + (sumLen ((lensR r).take j) : Int) = k + ((l.length + sumLen ((lensR r).take j) : Nat) : Int) := by omega
      rw [e4]
theorem nodup_gt {l : List Nat} (h : l.Nodup) {i j : Nat} (hi : i < l.length) (hj : j < l.length) (hne : i ≠ j) : gt l i ≠ gt l j := by
  rw [gt_eq hi, gt_eq hj]
  rcases Nat.lt_or_gt_of_ne hne with h1 | h1
  · exact List.pairwise_iff_getElem.1 h i j hi hj h1
  · exact (List.pairwise_iff_getElem.1 h j i hj hi h1).symm
theorem Filled.rowAt {lo hi : Nat} {w : World} {g e n : Nat} {l : List Int} (h : Filled intS lo hi w g e n n l) : RowAt w e (g, n, l) := by
  obtain ⟨cur, h1, h2, h3, h4, h5⟩ := h
  have h2' : n * 1 ≤ cur.size := h2
  refine ⟨cur, h1, Nat.le_of_eq h3.symm, by show l.length ≤ cur.size; omega, by show l.length ≤ _; omega, fun j hj => ?_⟩
  obtain ⟨f, hf, he⟩ := h5 j (by rw [h3]; exact hj)
  have f0 := hf 0 (by show 0 < 1; omega)
  have e0 : f 0 = .int .i64 (gt l j) := he
  have s0 : j * intS.sz + 0 = j := by show j * 1 + 0 = j; omega
  rw [s0, e0] at f0
  exact f0
/-- A block of slices that has been filled up to k. -/
structure NestF (g n : Nat) (w : World) (et ei : TypeId) (k : Nat) (rs : List RowD) : Prop where
  cur : ∃ cur : Array Value, w.heap[g]? = some (.cells cur et (0, 0)) ∧ cur.size = n ∧ ∀ i, i < k → cur[i]? = some (rowV (gt rs i))
  len : rs.length = k
  row : ∀ r ∈ rs, g < r.1 ∧ r.1 < w.heap.size ∧ RowAt w ei r
  one : (rs.map (·.1)).Nodup
theorem NestF.done {g n : Nat} {w : World} {et ei : TypeId} {rs : List RowD} (h : NestF g n w et ei n rs) (hn : n ≤ 1048576) {base : Nat} (hb : base ≤ g) : NestR base w.heap.size w et ei (.slice (some ⟨g, 0, none⟩) n n) rs := by
  obtain ⟨cur, h1, h2, h3⟩ := h.cur
  refine ⟨⟨cur.toList, ⟨by rw [Array.length_toList, h2, List.length_map, h.len]; exact (Nat.mul_one n).symm, .inr ⟨g, n, cur, by rw [List.length_map, h.len], hb, h1, by rw [List.length_map, h.len]; omega, by simp only [maxLen]; omega, by rw [h2]; exact (Nat.mul_one n).symm, ?_⟩⟩, fun k hk => ?_⟩, fun r hr => ?_, h.one⟩
  · rw [List.length_map, h.len]
    exact List.take_of_length_le (by rw [Array.length_toList, h2]; show n ≤ n * 1; omega)
  · rw [List.length_map, h.len] at hk
    have hkr : k < rs.length := by rw [h.len]; exact hk
    refine ⟨fun _ => rowV (gt rs k), fun j hj => ?_, (gt_map hkr).symm⟩
    have hj' : j < 1 := hj
    obtain rfl : j = 0 := by omega
    have s0 : k * valS.sz + 0 = k := by show k * 1 + 0 = k; omega
    rw [s0]
    simpa using h3 k hk
  · obtain ⟨r1, r2, r3⟩ := h.row r hr
    exact ⟨by omega, r2, fun e => by have e' : some g = some r.1 := e; injection e' with e'; omega, r3⟩
theorem NestF.snoc {g n k : Nat} {w w1 : World} {et ei : TypeId} {rs : List RowD} {r : RowD} (h : NestF g n w et ei k rs) (hk : k < n) (hb : Below w.heap.size w w1) (hr : RowAt w1 ei r) (h1 : w.heap.size ≤ r.1) (hg : g < w.heap.size) :
    NestF g n (w1.setCell ⟨g, k, none⟩ (rowV r)) et ei (k + 1) (rs ++ [r]) := by
  obtain ⟨cur, c1, c2, c3⟩ := h.cur
  have c1' := (hb.block g hg).trans c1
  have hset := heap_setCell_same w1 g k cur et (rowV r) c1'
  have hother : ∀ i, i ≠ g → (w1.setCell ⟨g, k, none⟩ (rowV r)).heap[i]? = w1.heap[i]? := fun i hi => Below.heap_setCell w1 ⟨g, k, none⟩ (rowV r) i hi
  refine ⟨⟨_, hset, by simpa using c2, fun i hi => ?_⟩, by simp [h.len], fun q hq => ?_, ?_⟩
  · rw [Array.getElem?_setIfInBounds]
    by_cases e : k = i
    · subst e
      rw [if_pos rfl, if_pos (by omega)]
      have := gt_last (l := rs) (x := r)
      rw [h.len] at this
      rw [this]
    · rw [if_neg e, c3 i (by omega), gt_append (by rw [h.len]; omega)]
  · rcases List.mem_append.1 hq with hq | hq
    · obtain ⟨q1, q2, q3⟩ := h.row q hq
      have q2' := Nat.lt_of_lt_of_le q2 hb.size
      exact ⟨q1, by simpa using q2', q3.kept ((hother _ (by omega)).trans (hb.block _ q2))⟩
    · rw [List.mem_singleton] at hq
      subst hq
      exact ⟨by omega, by have := hr.lt; simpa using this, hr.kept (hother _ (by omega))⟩
  · rw [List.map_append]
    refine List.nodup_append.2 ⟨h.one, by simp, fun a ha b hb' => ?_⟩
    obtain ⟨q, hq, rfl⟩ := List.mem_map.1 ha
    simp only [List.map_cons, List.map_nil, List.mem_singleton] at hb'
    have := (h.row q hq).2.1
    omega
end Go.Proofs.Ytfjoininagdlcaa
