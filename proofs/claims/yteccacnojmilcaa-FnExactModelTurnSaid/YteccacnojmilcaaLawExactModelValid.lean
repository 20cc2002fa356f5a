/- The law FnExactModelValid returns true for all arguments that can be read. -/
import Derived.Test.YteccacnojmilcaaModel
import Derived.Test.YteccacnojmilcaaLawPageValid
import Derived.Deep.RegionHeld3
namespace Go.Proofs.Yteccacnojmilcaa
open Go.RowKit
theorem szModelN_le {l : List Int} {r : List (List Int)} {left : Int} (h0 : 0 ≤ left) (h : 0 ≤ szModelN l r left) : (l.length : Int) ≤ left ∧ (r.length : Int) ≤ left ∧ ∀ x ∈ r, (x.length : Int) ≤ left := by
  unfold szModelN at h
  split at h
  · omega
  · rename_i h1
    split at h
    · omega
    · rename_i h2
      have e1 := szI_le (n := l.length) (l := left) (by omega)
      have e2 : szI l.length left ≤ left := by unfold szI; split <;> omega
      obtain ⟨e3, e4⟩ := szRows_le (by omega) (Int.not_lt.1 h2)
      exact ⟨e1, by omega, fun x hx => by have := e4 x hx; omega⟩
end Go.Proofs.Yteccacnojmilcaa
