/- A turned model: what a caller takes from the contract. -/
import Derived.Test.YtfjoininagdlcaaTurnFns
namespace Go.Proofs.Ytfjoininagdlcaa
open Go.RowKit
theorem RowAt.rdI {w : World} {e : TypeId} {g c : Nat} {l : List Int} (h : RowAt w e (g, c, l)) : Rd intS 0 w.heap.size w (some ⟨g, 0, none⟩) l.length l :=
  Rd_iff.2 (h.rd (D := rng 0 w.heap.size) ⟨Nat.zero_le _, h.lt⟩)
theorem rm_rd {w w' : World} {V : Option (List Int × List (List Int))} {e : Ending} (h : RetM w V e w') (_h1 : ((V.getD ([], [])).1).length ≤ 1048576) (h2 : ((V.getD ([], [])).2).length ≤ 1048576) :
    ∃ A c B d, e = .returned (.tuple #[.agg #[.slice A ((V.getD ([], [])).1).length c, .slice B ((V.getD ([], [])).2).length d], .bool V.isSome]) ∧ Rd intS 0 w'.heap.size w' A ((V.getD ([], [])).1).length (V.getD ([], [])).1 ∧ Rd (sliceS intS) 0 w'.heap.size w' B ((V.getD ([], [])).2).length (V.getD ([], [])).2 ∧ Below w.heap.size w w' := by
  cases V with
  | none =>
    obtain ⟨rfl, hb⟩ := h
    exact ⟨none, 0, none, 0, rfl, Rd.nil _ _ _ _ _, Rd.nil _ _ _ _ _, hb⟩
  | some p =>
    obtain ⟨l, r⟩ := p
    obtain ⟨g, c, A, d, rs, rfl, h3, _, h5, h6, hb⟩ := h
    refine ⟨some ⟨g, 0, none⟩, c, A, d, rfl, h3.rdI, ?_, hb⟩
    have hl : rs.length = r.length := by rw [← h6, List.length_map]
    have h7 := (h5.rd (by rw [hl]; have h2' : r.length ≤ 1048576 := h2; omega)).2
    rw [h6] at h7
    exact h7.wide (Nat.zero_le _) (Nat.le_refl _)
theorem turnV_bd (l : List Int) (r : List (List Int)) (x y : Int) : (((turnV l r x y).getD ([], [])).1).length ≤ l.length ∧ (((turnV l r x y).getD ([], [])).2).length ≤ r.length := by
  unfold turnV
  split
  · simp [turnI_len, turnM_len]
  · simp
end Go.Proofs.Ytfjoininagdlcaa
