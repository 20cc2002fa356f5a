/- The rank of a reading, in plain Lean. -/
import Derived.Test.YtoincfpffioioaaManySpec
namespace Go.Proofs.Ytoincfpffioioaa
/-- As the reference counts. -/
def rankOf (l : List Int) (r : List (List Int)) : List (List Int) → Int → List Int → Nat
  | p :: ps, b, x :: xs => ((p.takeWhile fun y => decide (y < x)).map (manyStep l r ps b)).sum + rankOf l r ps x xs
  | _, _, _ => 0
/-- The first place of a list. -/
def placeOf (x : List Int) : List (List Int) → Nat
  | [] => 0
  | y :: r => if eqD y x then 0 else placeOf x r + 1
theorem placeOf_no {x : List Int} : ∀ {a b : List (List Int)}, (∀ y ∈ a, y ≠ x) → placeOf x (a ++ b) = a.length + placeOf x b
  | [], b, _ => by simp
  | y :: a, b, h => by
    rw [List.cons_append, placeOf, if_neg (by rw [eqD_no (h y (List.mem_cons_self ..))]; decide), placeOf_no fun z hz => h z (List.mem_cons_of_mem _ hz), List.length_cons]
    omega
theorem placeOf_in {x : List Int} : ∀ {a b : List (List Int)}, x ∈ a → placeOf x (a ++ b) = placeOf x a
  | y :: a, b, h => by
    rw [List.cons_append, placeOf, placeOf]
    by_cases e : y = x
    · rw [if_pos (by rw [e, eqD_self]), if_pos (by rw [e, eqD_self])]
    · rw [if_neg (by rw [eqD_no e]; decide), if_neg (by rw [eqD_no e]; decide)]
      rcases List.mem_cons.1 h with h | h
      · exact absurd h.symm e
      · rw [placeOf_in h]
theorem placeOf_lt {x : List Int} : ∀ {a : List (List Int)}, x ∈ a → placeOf x a < a.length
  | y :: a, h => by
    rw [placeOf, List.length_cons]
    by_cases e : y = x
    · rw [if_pos (by rw [e, eqD_self])]; omega
    · rw [if_neg (by rw [eqD_no e]; decide)]
      rcases List.mem_cons.1 h with h | h
      · exact absurd h.symm e
      · have := placeOf_lt h; omega
theorem placeOf_le {x : List Int} : ∀ (a : List (List Int)), placeOf x a ≤ a.length
  | [] => by simp [placeOf]
  | y :: a => by
    rw [placeOf, List.length_cons]
    have := placeOf_le (x := x) a
    split <;> omega
/-- A reading begins with the words behind which it was read. -/
theorem reads_pre {l : List Int} {r ps : List (List Int)} : ∀ {pre x : List Int}, x ∈ readsOf l r ps pre → ∃ t, x = pre ++ t ∧ t.length = ps.length := by
  induction ps with
  | nil => intro pre x h; rw [readsOf, List.mem_singleton] at h; exact ⟨[], by simp [h], rfl⟩
  | cons p ps ih =>
    intro pre x h
    rw [readsOf_cons, List.mem_flatMap] at h
    obtain ⟨y, _, h⟩ := h
    unfold stepR at h
    split at h
    · obtain ⟨t, ht, hl⟩ := ih h
      exact ⟨y :: t, by rw [ht]; simp, by simp [hl]⟩
    · cases h
theorem stepR_next {l : List Int} {r ps : List (List Int)} {pre x : List Int} {y : Int} (h : x ∈ stepR l r ps pre y) : ∃ t, x = pre ++ y :: t := by
  unfold stepR at h
  split at h
  · obtain ⟨t, ht, _⟩ := reads_pre h
    exact ⟨t, by rw [ht]; simp⟩
  · cases h
theorem stepR_len (l : List Int) (r ps : List (List Int)) (pre : List Int) (y : Int) : (stepR l r ps pre y).length = manyStep l r ps (lastI pre) y := by
  unfold stepR manyStep
  split
  · rw [reads_many, lastI_snoc]
  · rfl
theorem flat_len (l : List Int) (r ps : List (List Int)) (pre : List Int) (p : List Int) : (p.flatMap (stepR l r ps pre)).length = (p.map (manyStep l r ps (lastI pre))).sum := by
  rw [List.length_flatMap]
  congr 1
  exact List.map_congr_left fun y _ => stepR_len l r ps pre y
/-- Ascending. -/
def asc : List Int → Prop
  | [] => True
  | x :: p => (∀ y ∈ p, x < y) ∧ asc p
theorem asc_split {x : Int} : ∀ {p : List Int}, asc p → x ∈ p → ∃ t, p = (p.takeWhile fun y => decide (y < x)) ++ x :: t
  | y :: p, h, hx => by
    by_cases e : y < x
    · rcases List.mem_cons.1 hx with rfl | hx
      · omega
      · obtain ⟨t, ht⟩ := asc_split h.2 hx
        refine ⟨t, ?_⟩
        rw [List.takeWhile_cons, if_pos (by simpa using e), List.cons_append, ← ht]
    · have hyx : y = x := by
        rcases List.mem_cons.1 hx with rfl | hx
        · rfl
        · have := h.1 x hx; omega
      subst hyx
      refine ⟨p, ?_⟩
      rw [List.takeWhile_cons, if_neg (by simp)]
      rfl
theorem take_lt {x y : Int} : ∀ {p : List Int}, y ∈ (p.takeWhile fun y => decide (y < x)) → y < x
  | z :: p, h => by
    rw [List.takeWhile_cons] at h
    split at h
    · rename_i hz
      rcases List.mem_cons.1 h with rfl | h
      · simpa using hz
      · exact take_lt h
    · cases h
theorem placeFrom_asc {n : Int} : ∀ {p : List Int} {last : Int}, placeFrom n last p = true → asc p ∧ ∀ y ∈ p, last < y
  | [], _, _ => ⟨trivial, fun y hy => by cases hy⟩
  | x :: p, last, h => by
    simp only [placeFrom, Bool.and_eq_true, inB_yes] at h
    obtain ⟨h1, h2⟩ := placeFrom_asc h.2
    refine ⟨⟨h2, h1⟩, fun y hy => ?_⟩
    rcases List.mem_cons.1 hy with rfl | hy
    · omega
    · have := h2 y hy; omega
theorem pageOk_asc {n : Int} {page : List (List Int)} (h : pageOk n page = true) : ∀ p ∈ page, asc p := by
  simp only [pageOk, Bool.and_eq_true, decide_eq_true_eq, List.all_eq_true, placeOk] at h
  exact fun p hp => (placeFrom_asc (h.2.2 p hp).1).1
/-- The list can be read behind b. -/
def canRead (l : List Int) (r : List (List Int)) : List (List Int) → Int → List Int → Prop
  | [], _, [] => True
  | p :: ps, b, x :: xs => x ∈ p ∧ 0 < wgt l r b x ∧ canRead l r ps x xs
  | _, _, _ => False
theorem reads_mem {l : List Int} {r ps : List (List Int)} : ∀ {pre xs : List Int}, (pre ++ xs) ∈ readsOf l r ps pre ↔ canRead l r ps (lastI pre) xs := by
  induction ps with
  | nil =>
    intro pre xs
    rw [readsOf, List.mem_singleton]
    cases xs with
    | nil => simp [canRead]
    | cons x xs => simp [canRead]
  | cons p ps ih =>
    intro pre xs
    rw [readsOf_cons, List.mem_flatMap]
    cases xs with
    | nil =>
      simp only [canRead, iff_false]
      rintro ⟨y, _, h⟩
      obtain ⟨t, ht⟩ := stepR_next h
      simp at ht
    | cons x xs =>
      simp only [canRead]
      constructor
      · rintro ⟨y, hy, h⟩
        obtain ⟨t, ht⟩ := stepR_next h
        have e : y = x := by
          have := List.append_cancel_left ht
          injection this with h1 _
          exact h1.symm
        subst e
        unfold stepR at h
        split at h
        · rename_i hw
          refine ⟨hy, hw, ?_⟩
          have h2 : (pre ++ [y]) ++ xs ∈ readsOf l r ps (pre ++ [y]) := by simpa using h
          rw [ih, lastI_snoc] at h2
          exact h2
        · cases h
      · rintro ⟨hx, hw, hc⟩
        refine ⟨x, hx, ?_⟩
        unfold stepR
        rw [if_pos hw]
        have h2 : (pre ++ [x]) ++ xs ∈ readsOf l r ps (pre ++ [x]) := by rw [ih, lastI_snoc]; exact hc
        simpa using h2
theorem rank_place {l : List Int} {r ps : List (List Int)} : ∀ {pre xs : List Int}, (∀ p ∈ ps, asc p) → canRead l r ps (lastI pre) xs → placeOf (pre ++ xs) (readsOf l r ps pre) = rankOf l r ps (lastI pre) xs := by
  induction ps with
  | nil =>
    intro pre xs _ h
    cases xs with
    | nil => simp [readsOf, placeOf, rankOf, eqD_self]
    | cons x xs => exact h.elim
  | cons p ps ih =>
    intro pre xs ha h
    cases xs with
    | nil => exact h.elim
    | cons x xs =>
      obtain ⟨hx, hw, hc⟩ := h
      obtain ⟨t, ht⟩ := asc_split (ha p (List.mem_cons_self ..)) hx
      have hmem : (pre ++ x :: xs) ∈ stepR l r ps pre x := by
        unfold stepR
        rw [if_pos hw]
        have h2 : (pre ++ [x]) ++ xs ∈ readsOf l r ps (pre ++ [x]) := by rw [reads_mem, lastI_snoc]; exact hc
        simpa using h2
      have hi := ih (pre := pre ++ [x]) (xs := xs) (fun q hq => ha q (List.mem_cons_of_mem _ hq)) (by rw [lastI_snoc]; exact hc)
      rw [lastI_snoc, List.append_assoc, List.singleton_append] at hi
      have hs : stepR l r ps pre x = readsOf l r ps (pre ++ [x]) := by unfold stepR; rw [if_pos hw]
      rw [readsOf_cons]
      conv => lhs; rw [ht, List.flatMap_append, List.flatMap_cons]
      rw [placeOf_no, placeOf_in hmem, flat_len, hs, hi, rankOf]
      intro y hy
      rw [List.mem_flatMap] at hy
      obtain ⟨z, hz, hy⟩ := hy
      obtain ⟨t', ht'⟩ := stepR_next hy
      intro e
      rw [e] at ht'
      have h3 := List.append_cancel_left ht'
      injection h3 with h4 _
      have := take_lt hz
      omega
/-- What ReadingsRank returns. -/
def rankV (l : List Int) (r page : List (List Int)) (xs : List Int) : Int := if weightOf l r page xs < 0 then -1 else (rankOf l r page (-1) xs : Int)
theorem sumW_neg {l : List Int} {r : List (List Int)} (hm : modelOk l r = true) : ∀ (xs : List Int) (b acc : Int), 0 ≤ acc → b < l.length → (∀ y ∈ xs, 0 ≤ y ∧ y < (l.length : Int)) → (0 ≤ sumW l r b acc xs ↔ ∀ b' y, (b', y) ∈ (b :: xs).zip xs → 0 < wgt l r b' y)
  | [], b, acc, h, _, _ => by simp [sumW, h]
  | x :: xs, b, acc, h, hb, hx => by
    have hx0 := hx x (List.mem_cons_self ..)
    have hw := wgt_bd hm hb hx0.1 hx0.2
    rw [sumW]
    by_cases e : wgt l r b x = 0
    · rw [if_pos e]
      constructor
      · intro h; omega
      · intro h2
        have := h2 b x (by simp)
        omega
    · rw [if_neg e, sumW_neg hm xs x _ (by omega) hx0.2 fun y hy => hx y (List.mem_cons_of_mem _ hy)]
      constructor
      · intro h2 b' y hy
        rw [List.zip_cons_cons, List.mem_cons] at hy
        rcases hy with hy | hy
        · injection hy with h3 h4; subst h3 h4; omega
        · exact h2 b' y hy
      · intro h2 b' y hy
        exact h2 b' y (by rw [List.zip_cons_cons]; exact List.mem_cons_of_mem _ hy)
theorem refW_can {l : List Int} {r : List (List Int)} (hm : modelOk l r = true) : ∀ (ps : List (List Int)) (xs : List Int) (b acc : Int), 0 ≤ acc → b < l.length → (∀ p ∈ ps, ∀ y ∈ p, 0 ≤ y ∧ y < (l.length : Int)) → xs.length = ps.length → (0 ≤ refW l r b acc ps xs ↔ canRead l r ps b xs)
  | [], [], b, acc, h, _, _, _ => by simp [refW, canRead, h]
  | p :: ps, x :: xs, b, acc, h, hb, hp, hl => by
    rw [refW, canRead]
    by_cases hx : hasI p x = true
    · have hx0 := hp p (List.mem_cons_self ..) x (hasI_iff.1 hx)
      have hw := wgt_bd hm hb hx0.1 hx0.2
      rw [if_pos hx]
      by_cases e : wgt l r b x = 0
      · rw [if_pos e]
        constructor
        · intro h; omega
        · intro h; omega
      · rw [if_neg e, refW_can hm ps xs x _ (by omega) hx0.2 (fun q hq => hp q (List.mem_cons_of_mem _ hq)) (by simpa using hl)]
        exact ⟨fun h => ⟨hasI_iff.1 hx, by omega, h⟩, fun h => h.2.2⟩
    · rw [if_neg hx]
      constructor
      · intro h; omega
      · intro h; exact absurd (hasI_iff.2 h.1) hx
  | [], _ :: _, _, _, _, _, _, hl => by simp at hl
  | _ :: _, [], _, _, _, _, _, hl => by simp at hl
/-- A weight of 0 or more: a reading. -/
theorem weight_can {l : List Int} {r page : List (List Int)} {xs : List Int} (h : 0 ≤ weightOf l r page xs) : bothOk l r page = true ∧ xs.length = page.length ∧ canRead l r page (-1) xs := by
  unfold weightOf at h
  split at h
  · rename_i hh
    rw [Bool.and_eq_true, decide_eq_true_eq] at hh
    obtain ⟨h1, h2⟩ := hh
    have hb := bothOk_yes h1
    exact ⟨h1, h2, (refW_can hb.1 page xs (-1) 0 (by omega) (by omega) (fun p hp => ((pageOk_yes hb.2).2 p hp).2) h2).1 h⟩
  · omega
theorem rankV_place {l : List Int} {r page : List (List Int)} {xs : List Int} (h : 0 ≤ weightOf l r page xs) : rankV l r page xs = placeOf xs (readsOf l r page []) := by
  obtain ⟨h1, _, h3⟩ := weight_can h
  have := rank_place (l := l) (r := r) (ps := page) (pre := []) (xs := xs) (pageOk_asc (bothOk_yes h1).2) h3
  rw [List.nil_append] at this
  rw [rankV, if_neg (by omega), this]
  rfl
end Go.Proofs.Ytoincfpffioioaa
