/- Integers that read, at all later worlds. -/
import Derived.Test.YtfjoininagdlcaaLawKit
import Derived.Test.YtfjoininagdlcaaReadLaws3
namespace Go.Proofs.Ytfjoininagdlcaa
open Go.RowKit
theorem i_rd {w w' : World} {V : List Int} {e : Ending} (h : RetI w V e w') (hl : V.length ≤ 1048576) : ∃ A c, e = .returned (.slice A V.length c) ∧ V.length ≤ c ∧ Rd intS 0 w'.heap.size w' A V.length V ∧ Below w.heap.size w w' := by
  obtain ⟨A, c, rfl, hO, hb⟩ := h
  obtain ⟨A', c', h1, h2⟩ := hO.form
  injection h1 with _ _ h1
  subst h1
  exact ⟨A, c, rfl, h2, ((hO.rd (by omega)).2).wide (Nat.zero_le _) (Nat.le_refl _), hb⟩
end Go.Proofs.Ytfjoininagdlcaa
