/- Pages with a word forced, and how long their places are, in plain Lean. -/
import Derived.Test.YteccacnojmilcaaReadPure
namespace Go.Proofs.Yteccacnojmilcaa
theorem placeFrom_len {n : Int} : ∀ {p : List Int} {last : Int}, last ≤ n - 1 → placeFrom n last p = true → (p.length : Int) ≤ n - 1 - last
  | [], last, h, _ => by simp; omega
  | y :: p, last, h, hp => by
    simp only [placeFrom, Bool.and_eq_true, inB_yes] at hp
    have := placeFrom_len hp.1.2 hp.2
    simp only [List.length_cons]
    omega
theorem pageOk_len {n : Int} {page : List (List Int)} (h : pageOk n page = true) : ∀ p ∈ page, p.length ≤ 6 := by
  intro p hp
  simp only [pageOk, Bool.and_eq_true, decide_eq_true_eq, List.all_eq_true, placeOk, inB_yes] at h
  have := placeFrom_len (p := p) (last := -1) (by omega) (h.2.2 p hp).1
  omega
/-- The page with one word alone at a place. -/
def forceL (at_ word : Int) : Nat → List (List Int) → List (List Int)
  | _, [] => []
  | i, p :: r => (if (i : Int) = at_ then [word] else p) :: forceL at_ word (i + 1) r
theorem forceL_len (a x : Int) (i : Nat) (page : List (List Int)) : (forceL a x i page).length = page.length := by
  induction page generalizing i with
  | nil => rfl
  | cons p r ih => simp [forceL, ih]
theorem forceL_gt {a x : Int} {i k : Nat} {page : List (List Int)} (h : k < page.length) : gt (forceL a x i page) k = if ((i + k : Nat) : Int) = a then [x] else gt page k := by
  induction page generalizing i k with
  | nil => simp at h
  | cons p r ih =>
    cases k with
    | zero => simp [forceL, gt]
    | succ k =>
      have := ih (i := i + 1) (k := k) (by simpa using h)
      have e1 : gt (forceL a x i (p :: r)) (k + 1) = gt (forceL a x (i + 1) r) k := by simp [forceL, gt]
      have e2 : gt (p :: r) (k + 1) = gt r k := by simp [gt]
      rw [e1, e2, this, show i + 1 + k = i + (k + 1) by omega]
theorem forceL_past (x : Int) (a : Int) : ∀ (i : Nat) (page : List (List Int)), a < i → forceL a x i page = page
  | _, [], _ => rfl
  | i, p :: r, h => by rw [forceL, if_neg (by omega), forceL_past x a (i + 1) r (by omega)]
theorem forceL_no (page : List (List Int)) (i : Nat) (x : Int) : forceL (-1) x i page = page := forceL_past x (-1) i page (by omega)
end Go.Proofs.Yteccacnojmilcaa
