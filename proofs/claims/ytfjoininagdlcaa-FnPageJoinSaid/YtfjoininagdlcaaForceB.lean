/- Bounds on the pages that PageForce and PageJoin return. -/
import Derived.Test.YtfjoininagdlcaaForce2
import Derived.Test.YtfjoininagdlcaaNestFns
namespace Go.Proofs.Ytfjoininagdlcaa
theorem rows_bd {xs : List (List Int)} (h1 : xs.length ≤ 8) (h2 : ∀ x ∈ xs, x.length ≤ 6) : xs.length ≤ 1048576 ∧ (∀ x ∈ xs, x.length ≤ 1048576) ∧ sumLen (xs.map List.length) ≤ 1048576 := by
  refine ⟨by omega, fun x hx => by have := h2 x hx; omega, ?_⟩
  have : sumLen (xs.map List.length) ≤ 6 * xs.length := by
    clear h1
    induction xs with
    | nil => simp [sumLen]
    | cons a r ih =>
      have h := ih fun x hx => h2 x (List.mem_cons_of_mem _ hx)
      have ha := h2 a List.mem_cons_self
      simp only [List.map_cons, sumLen, List.length_cons]
      omega
  omega
theorem forceL_6 {a x : Int} : ∀ {page : List (List Int)} {i : Nat}, (∀ p ∈ page, p.length ≤ 6) → ∀ q ∈ forceL a x i page, q.length ≤ 6
  | [], _, _ => fun q hq => by cases hq
  | p :: r, i, h => fun q hq => by
    rw [forceL] at hq
    rcases List.mem_cons.1 hq with rfl | hq
    · split
      · simp
      · exact h p List.mem_cons_self
    · exact forceL_6 (fun z hz => h z (List.mem_cons_of_mem _ hz)) q hq
theorem forceV_bd (n : Int) (page : List (List Int)) (a x : Int) : ((forceV n page a x).getD []).length ≤ 1048576 ∧ (∀ q ∈ (forceV n page a x).getD [], q.length ≤ 1048576) ∧ sumLen (((forceV n page a x).getD []).map List.length) ≤ 1048576 := by
  unfold forceV
  split
  · rename_i h
    rw [Bool.and_eq_true] at h
    exact rows_bd (by have := (pageOk_yes h.1).1; simpa [forceL_len] using this) (fun q hq => forceL_6 (pageOk_len h.1) q hq)
  · exact rows_bd (by simp) (fun q hq => by cases hq)
theorem joinV_bd (n : Int) (a b : List (List Int)) : ((joinV n a b).getD []).length ≤ 1048576 ∧ (∀ q ∈ (joinV n a b).getD [], q.length ≤ 1048576) ∧ sumLen (((joinV n a b).getD []).map List.length) ≤ 1048576 := by
  unfold joinV
  split
  · rename_i h
    rw [Bool.and_eq_true, Bool.and_eq_true, decide_eq_true_eq] at h
    exact rows_bd (by simpa using h.2.2) (fun q hq => by
      rcases List.mem_append.1 hq with hq | hq
      · exact pageOk_len h.1 q hq
      · exact pageOk_len h.2.1 q hq)
  · exact rows_bd (by simp) (fun q hq => by cases hq)
end Go.Proofs.Ytfjoininagdlcaa
