/- Models, pages and readings in plain Lean. No program in sight. -/
import Derived.Test.YteccacnojmilcaaModel
namespace Go.Proofs.Yteccacnojmilcaa
/-- x is one of l. -/
def hasI (l : List Int) (x : Int) : Bool := l.any fun y => eqD y x
theorem hasI_iff {l : List Int} {x : Int} : hasI l x = true ↔ x ∈ l := by
  simp only [hasI, List.any_eq_true, eqD_iff]
  exact ⟨fun ⟨q, h, e⟩ => e ▸ h, fun h => ⟨x, h, rfl⟩⟩
theorem hasI_drop {l : List Int} {k : Nat} (h : k < l.length) (x : Int) : hasI (l.drop k) x = (eqD (gt l k) x || hasI (l.drop (k + 1)) x) := by
  rw [drop_gt h]; rfl
/-- The weight of a word behind another one, of which a negative number is none. -/
def wgt (l : List Int) (r : List (List Int)) (b x : Int) : Int := if b < 0 then gt l x.toNat else gt (gt r b.toNat) x.toNat
def bothOk (l : List Int) (r page : List (List Int)) : Bool := modelOk l r && pageOk (l.length : Int) page
/-- The sum of the weights of a list; -1 if one of them is 0. -/
def sumW (l : List Int) (r : List (List Int)) : Int → Int → List Int → Int
  | _, acc, [] => acc
  | b, acc, x :: xs => if wgt l r b x = 0 then -1 else sumW l r x (acc + wgt l r b x) xs
def allHas : List (List Int) → List Int → Bool
  | p :: ps, x :: xs => hasI p x && allHas ps xs
  | _, _ => true
/-- The reference's loop. -/
def refW (l : List Int) (r : List (List Int)) : Int → Int → List (List Int) → List Int → Int
  | b, acc, p :: ps, x :: xs => if hasI p x then if wgt l r b x = 0 then -1 else refW l r x (acc + wgt l r b x) ps xs else -1
  | _, acc, _, _ => acc
theorem refW_eq (l : List Int) (r : List (List Int)) (ps : List (List Int)) (xs : List Int) (b acc : Int) (h : xs.length = ps.length) : refW l r b acc ps xs = if allHas ps xs then sumW l r b acc xs else -1 := by
  induction xs generalizing ps b acc with
  | nil => cases ps <;> simp [refW, allHas, sumW]
  | cons x xs ih =>
    cases ps with
    | nil => simp at h
    | cons p ps =>
      have e1 : refW l r b acc (p :: ps) (x :: xs) = if hasI p x = true then if wgt l r b x = 0 then -1 else refW l r x (acc + wgt l r b x) ps xs else -1 := rfl
      have e2 : sumW l r b acc (x :: xs) = if wgt l r b x = 0 then -1 else sumW l r x (acc + wgt l r b x) xs := rfl
      have e3 : allHas (p :: ps) (x :: xs) = (hasI p x && allHas ps xs) := rfl
      have i := ih ps x (acc + wgt l r b x) (by simpa using h)
      rw [e1, e2, e3, i]
      by_cases hh : hasI p x = true
      · by_cases ha : allHas ps xs = true <;> simp [hh, ha]
      · simp [hh]
def weightOf (l : List Int) (r page : List (List Int)) (xs : List Int) : Int := if bothOk l r page && decide (xs.length = page.length) then refW l r (-1) 0 page xs else -1
theorem modelOk_yes {l : List Int} {r : List (List Int)} (h : modelOk l r = true) : 1 ≤ l.length ∧ l.length ≤ 6 ∧ (∀ x ∈ l, 0 ≤ x ∧ x ≤ 9) ∧ r.length = l.length ∧ ∀ row ∈ r, row.length = l.length ∧ ∀ x ∈ row, 0 ≤ x ∧ x ≤ 9 := by
  simp only [modelOk, weightsOk, Bool.and_eq_true, decide_eq_true_eq, List.all_eq_true, inB_yes, digitB] at h
  exact ⟨by omega, by omega, fun x hx => h.2.1.2 x hx, h.2.2.1, fun row hr => ⟨by have := (h.2.2.2 row hr).1; omega, fun x hx => (h.2.2.2 row hr).2 x hx⟩⟩
theorem placeFrom_bd {n : Int} : ∀ {p : List Int} {last : Int}, placeFrom n last p = true → ∀ x ∈ p, last + 1 ≤ x ∧ x ≤ n - 1
  | [], _, _, x, hx => by cases hx
  | y :: p, last, h, x, hx => by
    simp only [placeFrom, Bool.and_eq_true, inB_yes] at h
    rcases List.mem_cons.1 hx with rfl | hx
    · exact h.1
    · have := placeFrom_bd h.2 x hx
      omega
theorem pageOk_yes {n : Int} {page : List (List Int)} (h : pageOk n page = true) : page.length ≤ 8 ∧ ∀ p ∈ page, p ≠ [] ∧ ∀ x ∈ p, 0 ≤ x ∧ x < n := by
  simp only [pageOk, Bool.and_eq_true, decide_eq_true_eq, List.all_eq_true, placeOk] at h
  refine ⟨h.2.1, fun p hp => ⟨fun e => ?_, fun x hx => ?_⟩⟩
  · have := (h.2.2 p hp).2
    rw [e] at this
    simp at this
  · have := placeFrom_bd (h.2.2 p hp).1 x hx
    omega
theorem bothOk_yes {l : List Int} {r page : List (List Int)} (h : bothOk l r page = true) : modelOk l r = true ∧ pageOk (l.length : Int) page = true := by simpa [bothOk] using h
theorem wgt_bd {l : List Int} {r : List (List Int)} (h : modelOk l r = true) {b x : Int} (hb : b < l.length) (_hx0 : 0 ≤ x) (hx : x < l.length) : 0 ≤ wgt l r b x ∧ wgt l r b x ≤ 9 := by
  obtain ⟨h1, h2, h3, h4, h5⟩ := modelOk_yes h
  unfold wgt
  split
  · exact h3 _ (gt_mem (by omega))
  · have hm := h5 (gt r b.toNat) (gt_mem (by omega))
    exact hm.2 _ (gt_mem (by rw [hm.1]; omega))
end Go.Proofs.Yteccacnojmilcaa
