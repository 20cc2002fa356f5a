/- Bounds on what the laws' counts of sizes leave. -/
import Derived.Test.YtoincfpffioioaaLawExactModelValid
namespace Go.Proofs.Ytoincfpffioioaa
open Go.RowKit
theorem szI_ub {n : Nat} {l : Int} (h : 0 ≤ l) : szI n l ≤ l := by unfold szI; split <;> omega
theorem szGo_ub : ∀ (ns : List Nat) (l : Int), 0 ≤ l → szGo ns l ≤ l
  | [], l, _ => by simp [szGo]
  | m :: r, l, h => by
    rw [szGo]
    by_cases hs : szI m l < 0
    · rw [if_pos hs]; omega
    · rw [if_neg hs]
      have := szI_ub (n := m) h
      have := szGo_ub r (szI m l) (by omega)
      omega
theorem szRows_ub {rows : List (List Int)} {l : Int} (h : 0 ≤ l) : szRows rows l ≤ l := by
  unfold szRows
  split
  · omega
  · have := szGo_ub (rows.map List.length) (l - rows.length) (by omega)
    omega
theorem szModelN_ub {l : List Int} {r : List (List Int)} {left : Int} (h : 0 ≤ left) : szModelN l r left ≤ left := by
  unfold szModelN
  split
  · omega
  · rename_i h1
    split
    · omega
    · have := szI_ub (n := l.length) h
      have := szRows_ub (rows := r) (l := szI l.length left) (by omega)
      omega
end Go.Proofs.Ytoincfpffioioaa
