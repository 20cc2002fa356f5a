/- The law FnExactPageValid returns true for all arguments that can be read. -/
import Derived.Test.YteccacnojmilcaaPage
namespace Go.Proofs.Yteccacnojmilcaa
open Go.RowKit

theorem szI_le {n : Nat} {l : Int} (h : 0 ≤ szI n l) : (n : Int) ≤ l := by unfold szI at h; split at h <;> omega
theorem szGo_le : ∀ (ns : List Nat) (l : Int), 0 ≤ l → 0 ≤ szGo ns l → ∀ n ∈ ns, (n : Int) ≤ l
  | [], _, _, _ => fun n h => by cases h
  | m :: r, l, h0, h => fun n hn => by
    rw [szGo] at h
    by_cases hs : szI m l < 0
    · rw [if_pos hs] at h; omega
    · rw [if_neg hs] at h
      have h1 := szI_le (n := m) (l := l) (by omega)
      have h2 : szI m l = l - m := by unfold szI; rw [if_neg (by unfold szI at hs; split at hs <;> omega)]
      rcases List.mem_cons.1 hn with rfl | hn
      · exact h1
      · have := szGo_le r _ (by omega) h n hn
        omega
theorem szRows_le {rows : List (List Int)} {l : Int} (h0 : 0 ≤ l) (h : 0 ≤ szRows rows l) : (rows.length : Int) ≤ l ∧ ∀ r ∈ rows, (r.length : Int) ≤ l := by
  unfold szRows at h
  split at h
  · omega
  · refine ⟨by omega, fun r hr => ?_⟩
    have := szGo_le _ _ (by omega) h r.length (List.mem_map_of_mem hr)
    omega

end Go.Proofs.Yteccacnojmilcaa
