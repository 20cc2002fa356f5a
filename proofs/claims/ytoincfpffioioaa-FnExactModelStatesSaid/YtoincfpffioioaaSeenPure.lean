/- Words that are seen, in plain Lean. -/
import Derived.Test.YtoincfpffioioaaRankPure
import Derived.Test.YtoincfpffioioaaFirstPure
namespace Go.Proofs.Ytoincfpffioioaa
/-- A page of a model with a word forced is one again. -/
theorem can_force {l : List Int} {r : List (List Int)} {x : Int} : ∀ {ps : List (List Int)} {i k : Nat} {b : Int} {xs : List Int}, k < ps.length → x ∈ gt ps k → (canRead l r (forceL ((i + k : Nat) : Int) x i ps) b xs ↔ canRead l r ps b xs ∧ gt xs k = x)
  | [], _, k, _, _, h, _ => by simp at h
  | p :: ps, i, k, b, [], _, _ => by simp [forceL, canRead]
  | p :: ps, i, 0, b, y :: xs, _, hx => by
    have hx' : x ∈ p := hx
    rw [forceL, if_pos (by simp), forceL_past _ _ _ _ (by omega)]
    simp only [canRead, List.mem_singleton]
    have e : gt (y :: xs) 0 = y := rfl
    rw [e]
    constructor
    · rintro ⟨rfl, h1, h2⟩; exact ⟨⟨hx', h1, h2⟩, rfl⟩
    · rintro ⟨⟨_, h1, h2⟩, rfl⟩; exact ⟨rfl, h1, h2⟩
  | p :: ps, i, k + 1, b, y :: xs, h, hx => by
    have hx' : x ∈ gt ps k := by simpa [gt] using hx
    rw [forceL, if_neg (by omega)]
    simp only [canRead]
    have hi := can_force (l := l) (r := r) (x := x) (ps := ps) (i := i + 1) (k := k) (b := y) (xs := xs) (by simpa using h) hx'
    rw [show i + 1 + k = i + (k + 1) by omega] at hi
    rw [hi]
    have e : gt (y :: xs) (k + 1) = gt xs k := by simp [gt]
    rw [e]
    constructor
    · rintro ⟨h1, h2, h3, h4⟩; exact ⟨⟨h1, h2, h3⟩, h4⟩
    · rintro ⟨⟨h1, h2, h3⟩, h4⟩; exact ⟨h1, h2, h3, h4⟩
theorem many_can {l : List Int} {r ps : List (List Int)} {pre : List Int} : 0 < manyOf l r ps (lastI pre) ↔ ∃ xs, canRead l r ps (lastI pre) xs := by
  rw [← reads_many]
  constructor
  · intro h
    obtain ⟨y, hy⟩ := List.exists_mem_of_length_pos h
    obtain ⟨t, rfl, _⟩ := reads_pre hy
    exact ⟨t, reads_mem.1 hy⟩
  · rintro ⟨xs, h⟩
    exact List.length_pos_of_mem (reads_mem.2 h)
/-- The rows with those words alone that a test lets by. -/
def seenL (stands : Nat → Int → Bool) : Nat → List (List Int) → List (List Int)
  | _, [] => []
  | i, p :: r => p.filter (stands i) :: seenL stands (i + 1) r
theorem seenL_len (f : Nat → Int → Bool) (i : Nat) (page : List (List Int)) : (seenL f i page).length = page.length := by
  induction page generalizing i with
  | nil => rfl
  | cons p r ih => simp [seenL, ih]
theorem seenL_gt {f : Nat → Int → Bool} {i k : Nat} {page : List (List Int)} (h : k < page.length) : gt (seenL f i page) k = (gt page k).filter (f (i + k)) := by
  induction page generalizing i k with
  | nil => simp at h
  | cons p r ih =>
    cases k with
    | zero => simp [seenL, gt]
    | succ k =>
      have := ih (i := i + 1) (k := k) (by simpa using h)
      have e1 : gt (seenL f i (p :: r)) (k + 1) = gt (seenL f (i + 1) r) k := by simp [seenL, gt]
      have e2 : gt (p :: r) (k + 1) = gt r k := by simp [gt]
      rw [e1, e2, this, show i + 1 + k = i + (k + 1) by omega]
theorem seenL_congr {f g : Nat → Int → Bool} : ∀ {page : List (List Int)} {i : Nat}, (∀ k, k < page.length → ∀ x ∈ gt page k, f (i + k) x = g (i + k) x) → seenL f i page = seenL g i page
  | [], _, _ => rfl
  | p :: r, i, h => by
    rw [seenL, seenL]
    congr 1
    · exact List.filter_congr fun x hx => h 0 (by simp) x hx
    · refine seenL_congr fun k hk x hx => ?_
      have := h (k + 1) (by simpa using hk) x (by simpa [gt] using hx)
      rwa [show i + (k + 1) = i + 1 + k by omega] at this
/-- The word stands at the place in some reading. -/
def standsR (l : List Int) (r page : List (List Int)) (i : Nat) (x : Int) : Bool := (readsOf l r page []).any fun t => eqD (gt t i) x
/-- As the reference tests. -/
def standsF (l : List Int) (r page : List (List Int)) (i : Nat) (x : Int) : Bool := decide (0 < manyOf l r (forceL (i : Int) x 0 page) (-1))
theorem stands_eq {l : List Int} {r page : List (List Int)} {i : Nat} {x : Int} (h : i < page.length) (hx : x ∈ gt page i) : standsR l r page i x = standsF l r page i x := by
  rw [Bool.eq_iff_iff]
  unfold standsR standsF
  rw [List.any_eq_true, decide_eq_true_eq]
  have h1 := many_can (l := l) (r := r) (ps := forceL (i : Int) x 0 page) (pre := [])
  rw [show lastI [] = -1 from rfl] at h1
  rw [h1]
  have hf : ∀ xs, canRead l r (forceL (i : Int) x 0 page) (-1) xs ↔ canRead l r page (-1) xs ∧ gt xs i = x := fun xs => by
    have := can_force (l := l) (r := r) (x := x) (ps := page) (i := 0) (k := i) (b := -1) (xs := xs) h hx
    rwa [Nat.zero_add] at this
  constructor
  · rintro ⟨t, ht, he⟩
    rw [eqD_iff] at he
    have := (reads_mem (l := l) (r := r) (ps := page) (pre := []) (xs := t)).1 (by rw [List.nil_append]; exact ht)
    exact ⟨t, (hf t).2 ⟨this, he⟩⟩
  · rintro ⟨t, ht⟩
    obtain ⟨h2, h3⟩ := (hf t).1 ht
    have := (reads_mem (l := l) (r := r) (ps := page) (pre := []) (xs := t)).2 h2
    rw [List.nil_append] at this
    exact ⟨t, this, by rw [eqD_iff]; exact h3⟩
def seenV (l : List Int) (r page : List (List Int)) : Option (List (List Int)) := if bothOk l r page && decide (0 < manyOf l r page (-1)) then some (seenL (standsF l r page) 0 page) else none
theorem seen_eq (l : List Int) (r page : List (List Int)) : seenL (standsR l r page) 0 page = seenL (standsF l r page) 0 page := by
  refine seenL_congr fun k hk x hx => ?_
  rw [Nat.zero_add]
  exact stands_eq hk hx
theorem seenV_reads {l : List Int} {r page : List (List Int)} (h : bothOk l r page = true) : seenV l r page = if readsOf l r page [] = [] then none else some (seenL (standsR l r page) 0 page) := by
  unfold seenV
  rw [h, Bool.true_and, seen_eq]
  have := reads_many l r page []
  rw [show lastI [] = -1 from rfl] at this
  by_cases h0 : readsOf l r page [] = []
  · rw [h0] at this
    rw [if_pos h0, if_neg (by simp at this; simp; omega)]
  · rw [if_neg h0, if_pos (by simp; rw [← this]; exact List.length_pos_iff.2 h0)]
theorem can_in {l : List Int} {r : List (List Int)} : ∀ {ps : List (List Int)} {b : Int} {xs : List Int} {k : Nat}, canRead l r ps b xs → k < ps.length → gt xs k ∈ gt ps k
  | p :: ps, b, x :: xs, 0, h, _ => h.1
  | p :: ps, b, x :: xs, k + 1, h, hk => by
    have := can_in (k := k) h.2.2 (by simpa using hk)
    simpa [gt] using this
  | [], _, [], _, _, hk => by simp at hk
  | _ :: _, _, [], _, h, _ => h.elim
  | [], _, _ :: _, _, h, _ => h.elim
/-- Where something can be read, each place has a word that is seen. -/
theorem seen_some {l : List Int} {r page : List (List Int)} (h : 0 < manyOf l r page (-1)) {k : Nat} (hk : k < page.length) : (gt page k).filter (standsF l r page k) ≠ [] := by
  have h1 := (many_can (l := l) (r := r) (ps := page) (pre := [])).1 h
  obtain ⟨xs, hx⟩ := h1
  have hin := can_in hx hk
  have hs : standsR l r page k (gt xs k) = true := by
    unfold standsR
    rw [List.any_eq_true]
    have := (reads_mem (l := l) (r := r) (ps := page) (pre := []) (xs := xs)).2 hx
    rw [List.nil_append] at this
    exact ⟨xs, this, eqD_self _⟩
  rw [stands_eq hk hin] at hs
  intro e
  have : gt xs k ∈ (gt page k).filter (standsF l r page k) := List.mem_filter.2 ⟨hin, hs⟩
  rw [e] at this
  cases this
theorem seenV_ok (l : List Int) (r page : List (List Int)) : ((seenV l r page).getD []).length ≤ 8 ∧ (∀ p ∈ (seenV l r page).getD [], p ≠ [] ∧ p.length ≤ 6) := by
  unfold seenV
  split
  · rename_i h
    rw [Bool.and_eq_true, decide_eq_true_eq] at h
    have h1 := (bothOk_yes h.1).2
    have h2 := (pageOk_yes h1).1
    have h3 := pageOk_len h1
    simp only [Option.getD_some, seenL_len]
    refine ⟨h2, fun p hp => ?_⟩
    obtain ⟨k, hk, rfl⟩ := List.getElem_of_mem hp
    rw [seenL_len] at hk
    have e : (seenL (standsF l r page) 0 page)[k] = gt (seenL (standsF l r page) 0 page) k := (gt_eq (by rw [seenL_len]; exact hk)).symm
    rw [e, seenL_gt hk, Nat.zero_add]
    refine ⟨seen_some h.2 hk, ?_⟩
    have h4 := List.length_filter_le (standsF l r page k) (gt page k)
    have h5 := h3 _ (gt_mem hk)
    omega
  · exact ⟨by simp, fun p hp => by simp at hp⟩
end Go.Proofs.Ytoincfpffioioaa
