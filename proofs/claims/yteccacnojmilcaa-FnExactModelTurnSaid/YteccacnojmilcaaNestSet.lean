/- The first row of rows of the call's own, set to another. General; nothing here names the program. -/
import Derived.Test.YteccacnojmilcaaForce
namespace Go.Proofs.Yteccacnojmilcaa
open Go.RowKit
theorem OwnR.storeV {base : Nat} {w : World} {e : TypeId} {g n c : Nat} {l : List Value} (h : OwnR valS base w e (.slice (some ⟨g, 0, none⟩) n c) l) {j : Nat} (hj : j < l.length) (x : Value) :
    OwnR valS base (w.setCell ⟨g, j, none⟩ x) e (.slice (some ⟨g, 0, none⟩) n c) (l.set j x) := by
  obtain ⟨xs, ⟨hl, h2⟩, hx⟩ := h
  rcases h2 with ⟨h3, h0⟩ | ⟨g', cap, cur, h3, hg, hh, hc, hcm, hcs, htake⟩
  · injection h3 with a1 a2 a3
    cases a1
  · injection h3 with a1 a2 a3
    injection a1 with a1
    injection a1 with a1
    subst a1 a2 a3
    have hcs' : cur.size = c * 1 := hcs
    have htake' : List.take (l.length * 1) cur.toList = xs := htake
    have hl' : xs.length = l.length * 1 := hl
    refine ⟨xs.set j x, ⟨by rw [List.length_set, List.length_set]; exact hl, .inr ⟨g, c, cur.setIfInBounds j x, by rw [List.length_set], hg, heap_setCell_same w g _ cur e _ hh, by rw [List.length_set]; exact hc, hcm, by rw [Array.size_setIfInBounds]; exact hcs, ?_⟩⟩, fun k hk => ?_⟩
    · rw [List.length_set, Array.toList_setIfInBounds, List.take_set]
      exact congrArg (fun z => List.set z j _) htake'
    · rw [List.length_set] at hk
      obtain ⟨f, hf, he⟩ := hx k hk
      have f0 := hf 0 (by show 0 < 1; omega)
      have e0 : f 0 = gt l k := he
      have s0 : k * valS.sz + 0 = k := by show k * 1 + 0 = k; omega
      rw [s0] at f0
      refine ⟨fun _ => gt (l.set j x) k, fun t ht => ?_, rfl⟩
      have ht' : t < 1 := ht
      obtain rfl : t = 0 := by omega
      rw [s0, List.getElem?_set]
      by_cases e : j = k
      · subst e
        rw [if_pos rfl, if_pos (by omega)]
        simp [gt, hk]
      · rw [if_neg e, f0, e0]
        simp [gt, e]
theorem OwnR.atV {base : Nat} {w : World} {e : TypeId} {g n c : Nat} {l : List Value} (h : OwnR valS base w e (.slice (some ⟨g, 0, none⟩) n c) l) {j : Nat} (hj : j < l.length) :
    w.cell? ⟨g, j, none⟩ = some (gt l j) ∧ w.frozen? ⟨g, j, none⟩ = false := by
  obtain ⟨xs, ⟨hl, h2⟩, hx⟩ := h
  rcases h2 with ⟨h3, h0⟩ | ⟨g', cap, cur, h3, hg, hh, hc, hcm, hcs, htake⟩
  · injection h3 with a1 a2 a3
    cases a1
  · injection h3 with a1 a2 a3
    injection a1 with a1
    injection a1 with a1
    subst a1 a2 a3
    obtain ⟨f, hf, he⟩ := hx j hj
    have s0 : j * valS.sz + 0 = j := by show j * 1 + 0 = j; omega
    have f0 := hf 0 (by show 0 < 1; omega)
    rw [s0] at f0
    have e0 : f 0 = gt l j := he
    rw [← htake, List.getElem?_take] at f0
    split at f0
    · exact ⟨by rw [cell_of_row w g _ cur e (0, 0) hh, ← e0]; simpa using f0, frozen_of_row _ _ _ _ _ hh⟩
    · cases f0
theorem NestR.at0 {lo hi : Nat} {w : World} {et ei : TypeId} {g n c : Nat} {r0 : RowD} {rs : List RowD} (h : NestR lo hi w et ei (.slice (some ⟨g, 0, none⟩) n c) (r0 :: rs)) : w.cell? ⟨g, 0, none⟩ = some (rowV r0) ∧ w.frozen? ⟨g, 0, none⟩ = false :=
  h.own.atV (j := 0) (by simp)
theorem NestR.set0 {lo hi : Nat} {w : World} {et ei : TypeId} {g n c : Nat} {r0 r : RowD} {rs : List RowD} (h : NestR lo hi w et ei (.slice (some ⟨g, 0, none⟩) n c) (r0 :: rs)) (hr : RowAt w ei r) (h1 : lo ≤ r.1) (hg : g ≠ r.1) (h4 : ∀ q ∈ r0 :: rs, q.1 ≠ r.1) (hhi : hi ≤ w.heap.size) {u : Value} (hu : rowV r = u) :
    NestR lo w.heap.size (w.setCell ⟨g, 0, none⟩ u) et ei (.slice (some ⟨g, 0, none⟩) n c) (r :: rs) := by
  subst hu
  have ho := h.own.storeV (j := 0) (by simp) (rowV r)
  refine ⟨ho, fun q hq => ?_, ?_⟩
  · rcases List.mem_cons.1 hq with rfl | hq
    · exact ⟨h1, hr.lt, fun e => hg (by injection e), hr.kept (Below.heap_setCell w _ _ _ (fun e => hg e.symm))⟩
    · obtain ⟨a1, a2, a3, a4⟩ := h.row q (List.mem_cons_of_mem _ hq)
      exact ⟨a1, by omega, a3, a4.kept (Below.heap_setCell w _ _ _ (fun e => a3 (by show some g = _; rw [e])))⟩
  · have h2 := h.one
    rw [List.map_cons, List.nodup_cons] at h2 ⊢
    refine ⟨fun hm => ?_, h2.2⟩
    obtain ⟨q, hq, e⟩ := List.mem_map.1 hm
    exact h4 q (List.mem_cons_of_mem _ hq) e
end Go.Proofs.Yteccacnojmilcaa
