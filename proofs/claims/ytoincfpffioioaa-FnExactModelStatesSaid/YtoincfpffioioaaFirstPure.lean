/- The first reading of a page, in plain Lean. -/
import Derived.Test.YtoincfpffioioaaManySpec
namespace Go.Proofs.Ytoincfpffioioaa
/-- x leads on. -/
def leads (l : List Int) (r ps : List (List Int)) (b x : Int) : Bool := decide (0 < wgt l r b x) && decide (0 < manyOf l r ps x)
/-- As the reference builds it, word by word. -/
def firstOf (l : List Int) (r : List (List Int)) : List (List Int) → Int → List Int
  | [], _ => []
  | p :: ps, b => ((p.find? (leads l r ps b)).getD b) :: firstOf l r ps ((p.find? (leads l r ps b)).getD b)
theorem flat_head {f : Int → List (List Int)} {g : Int → Bool} (h : ∀ x, g x = !(f x).isEmpty) : ∀ p : List Int, (p.flatMap f).head? = (p.find? g).bind fun x => (f x).head?
  | [] => rfl
  | x :: p => by
    rw [List.flatMap_cons, List.find?_cons, h x]
    cases hf : f x with
    | nil => simp; exact flat_head h p
    | cons y ys => simp [hf]
theorem stepR_empty (l : List Int) (r ps : List (List Int)) (pre : List Int) (x : Int) : leads l r ps (lastI pre) x = !(stepR l r ps pre x).isEmpty := by
  unfold leads stepR
  by_cases h : 0 < wgt l r (lastI pre) x
  · have h2 := reads_many l r ps (pre ++ [x])
    rw [lastI_snoc] at h2
    rw [if_pos h, ← h2]
    cases readsOf l r ps (pre ++ [x]) <;> simp [h]
  · simp [h]
theorem find_some {l : List Int} {r : List (List Int)} {p : List Int} {ps : List (List Int)} {b : Int} (h : 0 < manyOf l r (p :: ps) b) : ∃ x, p.find? (leads l r ps b) = some x := by
  cases hf : p.find? (leads l r ps b) with
  | some x => exact ⟨x, rfl⟩
  | none =>
    exfalso
    rw [List.find?_eq_none] at hf
    have : manyOf l r (p :: ps) b = 0 := by
      rw [many_cons]
      have h0 : ∀ x ∈ p, manyStep l r ps b x = 0 := fun x hx => by
        have := hf x hx
        unfold leads at this
        unfold manyStep
        split
        · rename_i h1
          simp [h1] at this
          exact this
        · rfl
      have h1 : p.map (manyStep l r ps b) = p.map fun _ => 0 := List.map_congr_left h0
      rw [h1]
      clear h h0 h1 hf
      induction p with
      | nil => rfl
      | cons y p ih => rw [List.map_cons, List.sum_cons, ih]
    omega
theorem find_leads {l : List Int} {r ps : List (List Int)} {p : List Int} {b x : Int} (h : p.find? (leads l r ps b) = some x) : x ∈ p ∧ 0 < wgt l r b x ∧ 0 < manyOf l r ps x := by
  have h1 := List.mem_of_find?_eq_some h
  have h2 := List.find?_some h
  unfold leads at h2
  rw [Bool.and_eq_true, decide_eq_true_eq, decide_eq_true_eq] at h2
  exact ⟨h1, h2⟩
theorem reads_head (l : List Int) (r ps : List (List Int)) : ∀ pre : List Int, 0 < manyOf l r ps (lastI pre) → (readsOf l r ps pre).head? = some (pre ++ firstOf l r ps (lastI pre)) := by
  induction ps with
  | nil => intro pre _; simp [readsOf, firstOf]
  | cons p ps ih =>
    intro pre h
    obtain ⟨x, hx⟩ := find_some h
    obtain ⟨_, h1, h2⟩ := find_leads hx
    rw [readsOf_cons, flat_head (stepR_empty l r ps pre), hx]
    show (stepR l r ps pre x).head? = _
    unfold stepR
    rw [if_pos h1, ih (pre ++ [x]) (by rw [lastI_snoc]; exact h2), lastI_snoc, firstOf, hx]
    simp
theorem find_drop {g : Int → Bool} {p : List Int} {k : Nat} (h : k < p.length) : (p.drop k).find? g = if g (gt p k) then some (gt p k) else (p.drop (k + 1)).find? g := by
  rw [drop_gt h, List.find?_cons]
  cases g (gt p k) <;> rfl
/-- Both values that ReadingFirst returns. -/
def firstV (l : List Int) (r page : List (List Int)) : Option (List Int) := if bothOk l r page && decide (0 < manyOf l r page (-1)) then some (firstOf l r page (-1)) else none
theorem firstV_reads {l : List Int} {r page : List (List Int)} (h : bothOk l r page = true) : firstV l r page = (readsOf l r page []).head? := by
  unfold firstV
  rw [h, Bool.true_and]
  by_cases h0 : 0 < manyOf l r page (-1)
  · rw [if_pos (by simpa using h0), reads_head l r page [] h0]; rfl
  · rw [if_neg (by simpa using h0)]
    have := reads_many l r page []
    have h1 : (readsOf l r page []).length = 0 := by rw [this]; show manyOf l r page (-1) = 0; omega
    rw [List.eq_nil_of_length_eq_zero h1]
    rfl
theorem firstOf_len (l : List Int) (r ps : List (List Int)) : ∀ b : Int, (firstOf l r ps b).length = ps.length := by
  induction ps with
  | nil => intro b; rfl
  | cons p ps ih => intro b; rw [firstOf, List.length_cons, List.length_cons, ih]
theorem firstV_len (l : List Int) (r page : List (List Int)) : ((firstV l r page).getD []).length ≤ 1048576 := by
  unfold firstV
  split
  · rename_i h
    rw [Bool.and_eq_true] at h
    have h1 := (pageOk_yes (bothOk_yes h.1).2).1
    have h2 := firstOf_len l r page (-1)
    simp only [Option.getD_some]
    omega
  · simp
end Go.Proofs.Ytoincfpffioioaa
