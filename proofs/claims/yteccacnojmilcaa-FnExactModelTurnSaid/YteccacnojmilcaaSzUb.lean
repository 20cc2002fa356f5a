/- Bounds on what the laws' counts of sizes leave. -/
import Derived.Test.YteccacnojmilcaaLawExactModelValid
import Derived.Test.YteccacnojmilcaaNestFns
namespace Go.Proofs.Yteccacnojmilcaa
open Go.RowKit
theorem szI_ub {n : Nat} {l : Int} (h : 0 ≤ l) : szI n l ≤ l := by unfold szI; split <;> omega
theorem szGo_ub : ∀ (ns : List Nat) (l : Int), 0 ≤ l → szGo ns l ≤ l
  | [], l, _ => by simp [szGo]
  | m :: r, l, h => by
    rw [szGo]
    by_cases hs : szI m l < 0
    · rw [if_pos hs]; omega
    · rw [if_neg hs]
      have := szI_ub (n := m) h
      have := szGo_ub r (szI m l) (by omega)
      omega
theorem szRows_ub {rows : List (List Int)} {l : Int} (h : 0 ≤ l) : szRows rows l ≤ l := by
  unfold szRows
  split
  · omega
  · have := szGo_ub (rows.map List.length) (l - rows.length) (by omega)
    omega
theorem szModelN_ub {l : List Int} {r : List (List Int)} {left : Int} (h : 0 ≤ left) : szModelN l r left ≤ left := by
  unfold szModelN
  split
  · omega
  · rename_i h1
    split
    · omega
    · have := szI_ub (n := l.length) h
      have := szRows_ub (rows := r) (l := szI l.length left) (by omega)
      omega
theorem szI_sub {n : Nat} {l : Int} (h : 0 ≤ szI n l) : szI n l = l - n := by unfold szI at h ⊢; split at h <;> simp_all <;> omega
theorem szGo_sum : ∀ (ns : List Nat) (l : Int), 0 ≤ szGo ns l → (sumLen ns : Int) ≤ l
  | [], l, h => by simp [szGo] at h; simp [sumLen]; exact h
  | m :: r, l, h => by
    rw [szGo] at h
    by_cases hs : szI m l < 0
    · rw [if_pos hs] at h; omega
    · rw [if_neg hs] at h
      have h1 := szGo_sum r _ h
      have h2 := szI_sub (n := m) (l := l) (by omega)
      simp only [sumLen]
      omega
theorem szRows_sum {rows : List (List Int)} {l : Int} (h0 : 0 ≤ l) (h : 0 ≤ szRows rows l) : (sumLen (rows.map List.length) : Int) ≤ l := by
  unfold szRows at h
  split at h
  · omega
  · have := szGo_sum _ _ h
    omega
theorem szModelN_sum {l : List Int} {r : List (List Int)} {left : Int} (h0 : 0 ≤ left) (h : 0 ≤ szModelN l r left) : (sumLen (r.map List.length) : Int) ≤ left := by
  unfold szModelN at h
  split at h
  · omega
  · split at h
    · omega
    · rename_i h1 h2
      have h3 := szRows_sum (by omega) (Int.not_lt.1 h2)
      have h4 := szI_ub (n := l.length) h0
      omega
end Go.Proofs.Yteccacnojmilcaa
