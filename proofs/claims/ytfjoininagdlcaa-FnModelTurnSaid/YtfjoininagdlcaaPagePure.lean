/- The first reading of a page, in plain Lean. The rank of a reading, in plain Lean. Words that are seen, in plain Lean. The words at the end of readings, in plain Lean. The best reading of a page, in plain Lean. -/
import Derived.Test.YtfjoininagdlcaaManySpec
namespace Go.Proofs.Ytfjoininagdlcaa
/-- x leads on. -/
def leads (l : List Int) (r ps : List (List Int)) (b x : Int) : Bool := decide (0 < wgt l r b x) && decide (0 < manyOf l r ps x)
/-- As the reference builds it, word by word. -/
def firstOf (l : List Int) (r : List (List Int)) : List (List Int) → Int → List Int
  | [], _ => []
  | p :: ps, b => ((p.find? (leads l r ps b)).getD b) :: firstOf l r ps ((p.find? (leads l r ps b)).getD b)
theorem flat_head {f : Int → List (List Int)} {g : Int → Bool} (h : ∀ x, g x = !(f x).isEmpty) : ∀ p : List Int, (p.flatMap f).head? = (p.find? g).bind fun x => (f x).head?
  | [] => rfl
  | x :: p => by
    rw [List.flatMap_cons, List.find?_cons, h x]
    cases hf : f x with
    | nil => simp; exact flat_head h p
    | cons y ys => simp [hf]
theorem stepR_empty (l : List Int) (r ps : List (List Int)) (pre : List Int) (x : Int) : leads l r ps (lastI pre) x = !(stepR l r ps pre x).isEmpty := by
  unfold leads stepR
  by_cases h : 0 < wgt l r (lastI pre) x
  · have h2 := reads_many l r ps (pre ++ [x])
    rw [lastI_snoc] at h2
    rw [if_pos h, ← h2]
    cases readsOf l r ps (pre ++ [x]) <;> simp [h]
  · simp [h]
theorem find_some {l : List Int} {r : List (List Int)} {p : List Int} {ps : List (List Int)} {b : Int} (h : 0 < manyOf l r (p :: ps) b) : ∃ x, p.find? (leads l r ps b) = some x := by
  cases hf : p.find? (leads l r ps b) with
  | some x => exact ⟨x, rfl⟩
  | none =>
    exfalso
    rw [List.find?_eq_none] at hf
    have : manyOf l r (p :: ps) b = 0 := by
      rw [many_cons]
      have h0 : ∀ x ∈ p, manyStep l r ps b x = 0 := fun x hx => by
        have := hf x hx
        unfold leads at this
        unfold manyStep
        split
        · rename_i h1
          simp [h1] at this
          exact this
        · rfl
      have h1 : p.map (manyStep l r ps b) = p.map fun _ => 0 := List.map_congr_left h0
      rw [h1]
      clear h h0 h1 hf
      induction p with
      | nil => rfl
      | cons y p ih => rw [List.map_cons, List.sum_cons, ih]
    omega
theorem find_leads {l : List Int} {r ps : List (List Int)} {p : List Int} {b x : Int} (h : p.find? (leads l r ps b) = some x) : x ∈ p ∧ 0 < wgt l r b x ∧ 0 < manyOf l r ps x := by
  have h1 := List.mem_of_find?_eq_some h
  have h2 := List.find?_some h
  unfold leads at h2
  rw [Bool.and_eq_true, decide_eq_true_eq, decide_eq_true_eq] at h2
  exact ⟨h1, h2⟩
theorem reads_head (l : List Int) (r ps : List (List Int)) : ∀ pre : List Int, 0 < manyOf l r ps (lastI pre) → (readsOf l r ps pre).head? = some (pre ++ firstOf l r ps (lastI pre)) := by
  induction ps with
  | nil => intro pre _; simp [readsOf, firstOf]
  | cons p ps ih =>
    intro pre h
    obtain ⟨x, hx⟩ := find_some h
    obtain ⟨_, h1, h2⟩ := find_leads hx
    rw [readsOf_cons, flat_head (stepR_empty l r ps pre), hx]
    show (stepR l r ps pre x).head? = _
    unfold stepR
    rw [if_pos h1, ih (pre ++ [x]) (by rw [lastI_snoc]; exact h2), lastI_snoc, firstOf, hx]
    simp
theorem find_drop {g : Int → Bool} {p : List Int} {k : Nat} (h : k < p.length) : (p.drop k).find? g = if g (gt p k) then some (gt p k) else (p.drop (k + 1)).find? g := by
  rw [drop_gt h, List.find?_cons]
  cases g (gt p k) <;> rfl
/-- Both values that ReadingFirst returns. -/
def firstV (l : List Int) (r page : List (List Int)) : Option (List Int) := if bothOk l r page && decide (0 < manyOf l r page (-1)) then some (firstOf l r page (-1)) else none
theorem firstV_reads {l : List Int} {r page : List (List Int)} (h : bothOk l r page = true) : firstV l r page = (readsOf l r page []).head? := by
  unfold firstV
  rw [h, Bool.true_and]
  by_cases h0 : 0 < manyOf l r page (-1)
  · rw [if_pos (by simpa using h0), reads_head l r page [] h0]; rfl
  · rw [if_neg (by simpa using h0)]
    have := reads_many l r page []
    have h1 : (readsOf l r page []).length = 0 := by rw [this]; show manyOf l r page (-1) = 0; omega
    rw [List.eq_nil_of_length_eq_zero h1]
    rfl
theorem firstOf_len (l : List Int) (r ps : List (List Int)) : ∀ b : Int, (firstOf l r ps b).length = ps.length := by
  induction ps with
  | nil => intro b; rfl
  | cons p ps ih => intro b; rw [firstOf, List.length_cons, List.length_cons, ih]
theorem firstV_len (l : List Int) (r page : List (List Int)) : ((firstV l r page).getD []).length ≤ 1048576 := by
  unfold firstV
  split
  · rename_i h
    rw [Bool.and_eq_true] at h
    have h1 := (pageOk_yes (bothOk_yes h.1).2).1
    have h2 := firstOf_len l r page (-1)
    simp only [Option.getD_some]
    omega
  · simp
end Go.Proofs.Ytfjoininagdlcaa
namespace Go.Proofs.Ytfjoininagdlcaa
/-- As the reference counts. -/
def rankOf (l : List Int) (r : List (List Int)) : List (List Int) → Int → List Int → Nat
  | p :: ps, b, x :: xs => ((p.takeWhile fun y => decide (y < x)).map (manyStep l r ps b)).sum + rankOf l r ps x xs
  | _, _, _ => 0
/-- The first place of a list. -/
def placeOf (x : List Int) : List (List Int) → Nat
  | [] => 0
  | y :: r => if eqD y x then 0 else placeOf x r + 1
theorem placeOf_no {x : List Int} : ∀ {a b : List (List Int)}, (∀ y ∈ a, y ≠ x) → placeOf x (a ++ b) = a.length + placeOf x b
  | [], b, _ => by simp
  | y :: a, b, h => by
    rw [List.cons_append, placeOf, if_neg (by rw [eqD_no (h y (List.mem_cons_self ..))]; decide), placeOf_no fun z hz => h z (List.mem_cons_of_mem _ hz), List.length_cons]
    omega
theorem placeOf_in {x : List Int} : ∀ {a b : List (List Int)}, x ∈ a → placeOf x (a ++ b) = placeOf x a
  | y :: a, b, h => by
    rw [List.cons_append, placeOf, placeOf]
    by_cases e : y = x
    · rw [if_pos (by rw [e, eqD_self]), if_pos (by rw [e, eqD_self])]
    · rw [if_neg (by rw [eqD_no e]; decide), if_neg (by rw [eqD_no e]; decide)]
      rcases List.mem_cons.1 h with h | h
      · exact absurd h.symm e
      · rw [placeOf_in h]
theorem placeOf_lt {x : List Int} : ∀ {a : List (List Int)}, x ∈ a → placeOf x a < a.length
  | y :: a, h => by
    rw [placeOf, List.length_cons]
    by_cases e : y = x
    · rw [if_pos (by rw [e, eqD_self])]; omega
    · rw [if_neg (by rw [eqD_no e]; decide)]
      rcases List.mem_cons.1 h with h | h
      · exact absurd h.symm e
      · have := placeOf_lt h; omega
theorem placeOf_le {x : List Int} : ∀ (a : List (List Int)), placeOf x a ≤ a.length
  | [] => by simp [placeOf]
  | y :: a => by
    rw [placeOf, List.length_cons]
    have := placeOf_le (x := x) a
    split <;> omega
/-- A reading begins with the words behind which it was read. -/
theorem reads_pre {l : List Int} {r ps : List (List Int)} : ∀ {pre x : List Int}, x ∈ readsOf l r ps pre → ∃ t, x = pre ++ t ∧ t.length = ps.length := by
  induction ps with
  | nil => intro pre x h; rw [readsOf, List.mem_singleton] at h; exact ⟨[], by simp [h], rfl⟩
  | cons p ps ih =>
    intro pre x h
    rw [readsOf_cons, List.mem_flatMap] at h
    obtain ⟨y, _, h⟩ := h
    unfold stepR at h
    split at h
    · obtain ⟨t, ht, hl⟩ := ih h
      exact ⟨y :: t, by rw [ht]; simp, by simp [hl]⟩
    · cases h
theorem stepR_next {l : List Int} {r ps : List (List Int)} {pre x : List Int} {y : Int} (h : x ∈ stepR l r ps pre y) : ∃ t, x = pre ++ y :: t := by
  unfold stepR at h
  split at h
  · obtain ⟨t, ht, _⟩ := reads_pre h
    exact ⟨t, by rw [ht]; simp⟩
  · cases h
theorem stepR_len (l : List Int) (r ps : List (List Int)) (pre : List Int) (y : Int) : (stepR l r ps pre y).length = manyStep l r ps (lastI pre) y := by
  unfold stepR manyStep
  split
  · rw [reads_many, lastI_snoc]
  · rfl
theorem flat_len (l : List Int) (r ps : List (List Int)) (pre : List Int) (p : List Int) : (p.flatMap (stepR l r ps pre)).length = (p.map (manyStep l r ps (lastI pre))).sum := by
  rw [List.length_flatMap]
  congr 1
  exact List.map_congr_left fun y _ => stepR_len l r ps pre y
/-- Ascending. -/
def asc : List Int → Prop
  | [] => True
  | x :: p => (∀ y ∈ p, x < y) ∧ asc p
theorem asc_split {x : Int} : ∀ {p : List Int}, asc p → x ∈ p → ∃ t, p = (p.takeWhile fun y => decide (y < x)) ++ x :: t
  | y :: p, h, hx => by
    by_cases e : y < x
    · rcases List.mem_cons.1 hx with rfl | hx
      · omega
      · obtain ⟨t, ht⟩ := asc_split h.2 hx
        refine ⟨t, ?_⟩
        rw [List.takeWhile_cons, if_pos (by simpa using e), List.cons_append, ← ht]
    · have hyx : y = x := by
        rcases List.mem_cons.1 hx with rfl | hx
        · rfl
        · have := h.1 x hx; omega
      subst hyx
      refine ⟨p, ?_⟩
      rw [List.takeWhile_cons, if_neg (by simp)]
      rfl
theorem take_lt {x y : Int} : ∀ {p : List Int}, y ∈ (p.takeWhile fun y => decide (y < x)) → y < x
  | z :: p, h => by
    rw [List.takeWhile_cons] at h
    split at h
    · rename_i hz
      rcases List.mem_cons.1 h with rfl | h
      · simpa using hz
      · exact take_lt h
    · cases h
theorem placeFrom_asc {n : Int} : ∀ {p : List Int} {last : Int}, placeFrom n last p = true → asc p ∧ ∀ y ∈ p, last < y
  | [], _, _ => ⟨trivial, fun y hy => by cases hy⟩
  | x :: p, last, h => by
    simp only [placeFrom, Bool.and_eq_true, inB_yes] at h
    obtain ⟨h1, h2⟩ := placeFrom_asc h.2
    refine ⟨⟨h2, h1⟩, fun y hy => ?_⟩
    rcases List.mem_cons.1 hy with rfl | hy
    · omega
    · have := h2 y hy; omega
theorem pageOk_asc {n : Int} {page : List (List Int)} (h : pageOk n page = true) : ∀ p ∈ page, asc p := by
  simp only [pageOk, Bool.and_eq_true, decide_eq_true_eq, List.all_eq_true, placeOk] at h
  exact fun p hp => (placeFrom_asc (h.2.2 p hp).1).1
/-- The list can be read behind b. -/
def canRead (l : List Int) (r : List (List Int)) : List (List Int) → Int → List Int → Prop
  | [], _, [] => True
  | p :: ps, b, x :: xs => x ∈ p ∧ 0 < wgt l r b x ∧ canRead l r ps x xs
  | _, _, _ => False
theorem reads_mem {l : List Int} {r ps : List (List Int)} : ∀ {pre xs : List Int}, (pre ++ xs) ∈ readsOf l r ps pre ↔ canRead l r ps (lastI pre) xs := by
  induction ps with
  | nil =>
    intro pre xs
    rw [readsOf, List.mem_singleton]
    cases xs with
    | nil => simp [canRead]
    | cons x xs => simp [canRead]
  | cons p ps ih =>
    intro pre xs
    rw [readsOf_cons, List.mem_flatMap]
    cases xs with
    | nil =>
      simp only [canRead, iff_false]
      rintro ⟨y, _, h⟩
      obtain ⟨t, ht⟩ := stepR_next h
      simp at ht
    | cons x xs =>
      simp only [canRead]
      constructor
      · rintro ⟨y, hy, h⟩
        obtain ⟨t, ht⟩ := stepR_next h
        have e : y = x := by
          have := List.append_cancel_left ht
          injection this with h1 _
          exact h1.symm
        subst e
        unfold stepR at h
        split at h
        · rename_i hw
          refine ⟨hy, hw, ?_⟩
          have h2 : (pre ++ [y]) ++ xs ∈ readsOf l r ps (pre ++ [y]) := by simpa using h
          rw [ih, lastI_snoc] at h2
          exact h2
        · cases h
      · rintro ⟨hx, hw, hc⟩
        refine ⟨x, hx, ?_⟩
        unfold stepR
        rw [if_pos hw]
        have h2 : (pre ++ [x]) ++ xs ∈ readsOf l r ps (pre ++ [x]) := by rw [ih, lastI_snoc]; exact hc
        simpa using h2
theorem rank_place {l : List Int} {r ps : List (List Int)} : ∀ {pre xs : List Int}, (∀ p ∈ ps, asc p) → canRead l r ps (lastI pre) xs → placeOf (pre ++ xs) (readsOf l r ps pre) = rankOf l r ps (lastI pre) xs := by
  induction ps with
  | nil =>
    intro pre xs _ h
    cases xs with
    | nil => simp [readsOf, placeOf, rankOf, eqD_self]
    | cons x xs => exact h.elim
  | cons p ps ih =>
    intro pre xs ha h
    cases xs with
    | nil => exact h.elim
    | cons x xs =>
      obtain ⟨hx, hw, hc⟩ := h
      obtain ⟨t, ht⟩ := asc_split (ha p (List.mem_cons_self ..)) hx
      have hmem : (pre ++ x :: xs) ∈ stepR l r ps pre x := by
        unfold stepR
        rw [if_pos hw]
        have h2 : (pre ++ [x]) ++ xs ∈ readsOf l r ps (pre ++ [x]) := by rw [reads_mem, lastI_snoc]; exact hc
        simpa using h2
      have hi := ih (pre := pre ++ [x]) (xs := xs) (fun q hq => ha q (List.mem_cons_of_mem _ hq)) (by rw [lastI_snoc]; exact hc)
      rw [lastI_snoc, List.append_assoc, List.singleton_append] at hi
      have hs : stepR l r ps pre x = readsOf l r ps (pre ++ [x]) := by unfold stepR; rw [if_pos hw]
      rw [readsOf_cons]
      conv => lhs; rw [ht, List.flatMap_append, List.flatMap_cons]
      rw [placeOf_no, placeOf_in hmem, flat_len, hs, hi, rankOf]
      intro y hy
      rw [List.mem_flatMap] at hy
      obtain ⟨z, hz, hy⟩ := hy
      obtain ⟨t', ht'⟩ := stepR_next hy
      intro e
      rw [e] at ht'
      have h3 := List.append_cancel_left ht'
      injection h3 with h4 _
      have := take_lt hz
      omega
/-- What ReadingsRank returns. -/
def rankV (l : List Int) (r page : List (List Int)) (xs : List Int) : Int := if weightOf l r page xs < 0 then -1 else (rankOf l r page (-1) xs : Int)
theorem sumW_neg {l : List Int} {r : List (List Int)} (hm : modelOk l r = true) : ∀ (xs : List Int) (b acc : Int), 0 ≤ acc → b < l.length → (∀ y ∈ xs, 0 ≤ y ∧ y < (l.length : Int)) → (0 ≤ sumW l r b acc xs ↔ ∀ b' y, (b', y) ∈ (b :: xs).zip xs → 0 < wgt l r b' y)
  | [], b, acc, h, _, _ => by simp [sumW, h]
  | x :: xs, b, acc, h, hb, hx => by
    have hx0 := hx x (List.mem_cons_self ..)
    have hw := wgt_bd hm hb hx0.1 hx0.2
    rw [sumW]
    by_cases e : wgt l r b x = 0
    · rw [if_pos e]
      constructor
      · intro h; omega
      · intro h2
        have := h2 b x (by simp)
        omega
    · rw [if_neg e, sumW_neg hm xs x _ (by omega) hx0.2 fun y hy => hx y (List.mem_cons_of_mem _ hy)]
      constructor
      · intro h2 b' y hy
        rw [List.zip_cons_cons, List.mem_cons] at hy
        rcases hy with hy | hy
        · injection hy with h3 h4; subst h3 h4; omega
        · exact h2 b' y hy
      · intro h2 b' y hy
        exact h2 b' y (by rw [List.zip_cons_cons]; exact List.mem_cons_of_mem _ hy)
theorem refW_can {l : List Int} {r : List (List Int)} (hm : modelOk l r = true) : ∀ (ps : List (List Int)) (xs : List Int) (b acc : Int), 0 ≤ acc → b < l.length → (∀ p ∈ ps, ∀ y ∈ p, 0 ≤ y ∧ y < (l.length : Int)) → xs.length = ps.length → (0 ≤ refW l r b acc ps xs ↔ canRead l r ps b xs)
  | [], [], b, acc, h, _, _, _ => by simp [refW, canRead, h]
  | p :: ps, x :: xs, b, acc, h, hb, hp, hl => by
    rw [refW, canRead]
    by_cases hx : hasI p x = true
    · have hx0 := hp p (List.mem_cons_self ..) x (hasI_iff.1 hx)
      have hw := wgt_bd hm hb hx0.1 hx0.2
      rw [if_pos hx]
      by_cases e : wgt l r b x = 0
      · rw [if_pos e]
        constructor
        · intro h; omega
        · intro h; omega
      · rw [if_neg e, refW_can hm ps xs x _ (by omega) hx0.2 (fun q hq => hp q (List.mem_cons_of_mem _ hq)) (by simpa using hl)]
        exact ⟨fun h => ⟨hasI_iff.1 hx, by omega, h⟩, fun h => h.2.2⟩
    · rw [if_neg hx]
      constructor
      · intro h; omega
      · intro h; exact absurd (hasI_iff.2 h.1) hx
  | [], _ :: _, _, _, _, _, _, hl => by simp at hl
  | _ :: _, [], _, _, _, _, _, hl => by simp at hl
/-- A weight of 0 or more: a reading. -/
theorem weight_can {l : List Int} {r page : List (List Int)} {xs : List Int} (h : 0 ≤ weightOf l r page xs) : bothOk l r page = true ∧ xs.length = page.length ∧ canRead l r page (-1) xs := by
  unfold weightOf at h
  split at h
  · rename_i hh
    rw [Bool.and_eq_true, decide_eq_true_eq] at hh
    obtain ⟨h1, h2⟩ := hh
    have hb := bothOk_yes h1
    exact ⟨h1, h2, (refW_can hb.1 page xs (-1) 0 (by omega) (by omega) (fun p hp => ((pageOk_yes hb.2).2 p hp).2) h2).1 h⟩
  · omega
theorem rankV_place {l : List Int} {r page : List (List Int)} {xs : List Int} (h : 0 ≤ weightOf l r page xs) : rankV l r page xs = placeOf xs (readsOf l r page []) := by
  obtain ⟨h1, _, h3⟩ := weight_can h
  have := rank_place (l := l) (r := r) (ps := page) (pre := []) (xs := xs) (pageOk_asc (bothOk_yes h1).2) h3
  rw [List.nil_append] at this
  rw [rankV, if_neg (by omega), this]
  rfl
end Go.Proofs.Ytfjoininagdlcaa
namespace Go.Proofs.Ytfjoininagdlcaa
/-- A page of a model with a word forced is one again. -/
theorem can_force {l : List Int} {r : List (List Int)} {x : Int} : ∀ {ps : List (List Int)} {i k : Nat} {b : Int} {xs : List Int}, k < ps.length → x ∈ gt ps k → (canRead l r (forceL ((i + k : Nat) : Int) x i ps) b xs ↔ canRead l r ps b xs ∧ gt xs k = x)
  | [], _, k, _, _, h, _ => by simp at h
  | p :: ps, i, k, b, [], _, _ => by simp [forceL, canRead]
  | p :: ps, i, 0, b, y :: xs, _, hx => by
    have hx' : x ∈ p := hx
    rw [forceL, if_pos (by simp), forceL_past _ _ _ _ (by omega)]
    simp only [canRead, List.mem_singleton]
    have e : gt (y :: xs) 0 = y := rfl
    rw [e]
    constructor
    · rintro ⟨rfl, h1, h2⟩; exact ⟨⟨hx', h1, h2⟩, rfl⟩
    · rintro ⟨⟨_, h1, h2⟩, rfl⟩; exact ⟨rfl, h1, h2⟩
  | p :: ps, i, k + 1, b, y :: xs, h, hx => by
    have hx' : x ∈ gt ps k := by simpa [gt] using hx
    rw [forceL, if_neg (by omega)]
    simp only [canRead]
    have hi := can_force (l := l) (r := r) (x := x) (ps := ps) (i := i + 1) (k := k) (b := y) (xs := xs) (by simpa using h) hx'
    rw [show i + 1 + k = i + (k + 1) by omega] at hi
    rw [hi]
    have e : gt (y :: xs) (k + 1) = gt xs k := by simp [gt]
    rw [e]
    constructor
    · rintro ⟨h1, h2, h3, h4⟩; exact ⟨⟨h1, h2, h3⟩, h4⟩
    · rintro ⟨⟨h1, h2, h3⟩, h4⟩; exact ⟨h1, h2, h3, h4⟩
theorem many_can {l : List Int} {r ps : List (List Int)} {pre : List Int} : 0 < manyOf l r ps (lastI pre) ↔ ∃ xs, canRead l r ps (lastI pre) xs := by
  rw [← reads_many]
  constructor
  · intro h
    obtain ⟨y, hy⟩ := List.exists_mem_of_length_pos h
    obtain ⟨t, rfl, _⟩ := reads_pre hy
    exact ⟨t, reads_mem.1 hy⟩
  · rintro ⟨xs, h⟩
    exact List.length_pos_of_mem (reads_mem.2 h)
/-- The rows with those words alone that a test lets by. -/
def seenL (stands : Nat → Int → Bool) : Nat → List (List Int) → List (List Int)
  | _, [] => []
  | i, p :: r => p.filter (stands i) :: seenL stands (i + 1) r
theorem seenL_len (f : Nat → Int → Bool) (i : Nat) (page : List (List Int)) : (seenL f i page).length = page.length := by
  induction page generalizing i with
  | nil => rfl
  | cons p r ih => simp [seenL, ih]
theorem seenL_gt {f : Nat → Int → Bool} {i k : Nat} {page : List (List Int)} (h : k < page.length) : gt (seenL f i page) k = (gt page k).filter (f (i + k)) := by
  induction page generalizing i k with
  | nil => simp at h
  | cons p r ih =>
    cases k with
    | zero => simp [seenL, gt]
    | succ k =>
      have := ih (i := i + 1) (k := k) (by simpa using h)
      have e1 : gt (seenL f i (p :: r)) (k + 1) = gt (seenL f (i + 1) r) k := by simp [seenL, gt]
      have e2 : gt (p :: r) (k + 1) = gt r k := by simp [gt]
      rw [e1, e2, this, show i + 1 + k = i + (k + 1) by omega]
theorem seenL_congr {f g : Nat → Int → Bool} : ∀ {page : List (List Int)} {i : Nat}, (∀ k, k < page.length → ∀ x ∈ gt page k, f (i + k) x = g (i + k) x) → seenL f i page = seenL g i page
  | [], _, _ => rfl
  | p :: r, i, h => by
    rw [seenL, seenL]
    congr 1
    · exact List.filter_congr fun x hx => h 0 (by simp) x hx
    · refine seenL_congr fun k hk x hx => ?_
      have := h (k + 1) (by simpa using hk) x (by simpa [gt] using hx)
      rwa [show i + (k + 1) = i + 1 + k by omega] at this
/-- The word stands at the place in some reading. -/
def standsR (l : List Int) (r page : List (List Int)) (i : Nat) (x : Int) : Bool := (readsOf l r page []).any fun t => eqD (gt t i) x
/-- As the reference tests. -/
def standsF (l : List Int) (r page : List (List Int)) (i : Nat) (x : Int) : Bool := decide (0 < manyOf l r (forceL (i : Int) x 0 page) (-1))
theorem stands_eq {l : List Int} {r page : List (List Int)} {i : Nat} {x : Int} (h : i < page.length) (hx : x ∈ gt page i) : standsR l r page i x = standsF l r page i x := by
  rw [Bool.eq_iff_iff]
  unfold standsR standsF
  rw [List.any_eq_true, decide_eq_true_eq]
  have h1 := many_can (l := l) (r := r) (ps := forceL (i : Int) x 0 page) (pre := [])
  rw [show lastI [] = -1 from rfl] at h1
  rw [h1]
  have hf : ∀ xs, canRead l r (forceL (i : Int) x 0 page) (-1) xs ↔ canRead l r page (-1) xs ∧ gt xs i = x := fun xs => by
    have := can_force (l := l) (r := r) (x := x) (ps := page) (i := 0) (k := i) (b := -1) (xs := xs) h hx
    rwa [Nat.zero_add] at this
  constructor
  · rintro ⟨t, ht, he⟩
    rw [eqD_iff] at he
    have := (reads_mem (l := l) (r := r) (ps := page) (pre := []) (xs := t)).1 (by rw [List.nil_append]; exact ht)
    exact ⟨t, (hf t).2 ⟨this, he⟩⟩
  · rintro ⟨t, ht⟩
    obtain ⟨h2, h3⟩ := (hf t).1 ht
    have := (reads_mem (l := l) (r := r) (ps := page) (pre := []) (xs := t)).2 h2
    rw [List.nil_append] at this
    exact ⟨t, this, by rw [eqD_iff]; exact h3⟩
def seenV (l : List Int) (r page : List (List Int)) : Option (List (List Int)) := if bothOk l r page && decide (0 < manyOf l r page (-1)) then some (seenL (standsF l r page) 0 page) else none
theorem seen_eq (l : List Int) (r page : List (List Int)) : seenL (standsR l r page) 0 page = seenL (standsF l r page) 0 page := by
  refine seenL_congr fun k hk x hx => ?_
  rw [Nat.zero_add]
  exact stands_eq hk hx
theorem seenV_reads {l : List Int} {r page : List (List Int)} (h : bothOk l r page = true) : seenV l r page = if readsOf l r page [] = [] then none else some (seenL (standsR l r page) 0 page) := by
  unfold seenV
  rw [h, Bool.true_and, seen_eq]
  have := reads_many l r page []
  rw [show lastI [] = -1 from rfl] at this
  by_cases h0 : readsOf l r page [] = []
  · rw [h0] at this
    rw [if_pos h0, if_neg (by simp at this; simp; omega)]
  · rw [if_neg h0, if_pos (by simp; rw [← this]; exact List.length_pos_iff.2 h0)]
theorem can_in {l : List Int} {r : List (List Int)} : ∀ {ps : List (List Int)} {b : Int} {xs : List Int} {k : Nat}, canRead l r ps b xs → k < ps.length → gt xs k ∈ gt ps k
  | p :: ps, b, x :: xs, 0, h, _ => h.1
  | p :: ps, b, x :: xs, k + 1, h, hk => by
    have := can_in (k := k) h.2.2 (by simpa using hk)
    simpa [gt] using this
  | [], _, [], _, _, hk => by simp at hk
  | _ :: _, _, [], _, h, _ => h.elim
  | [], _, _ :: _, _, h, _ => h.elim
/-- Where something can be read, each place has a word that is seen. -/
theorem seen_some {l : List Int} {r page : List (List Int)} (h : 0 < manyOf l r page (-1)) {k : Nat} (hk : k < page.length) : (gt page k).filter (standsF l r page k) ≠ [] := by
  have h1 := (many_can (l := l) (r := r) (ps := page) (pre := [])).1 h
  obtain ⟨xs, hx⟩ := h1
  have hin := can_in hx hk
  have hs : standsR l r page k (gt xs k) = true := by
    unfold standsR
    rw [List.any_eq_true]
    have := (reads_mem (l := l) (r := r) (ps := page) (pre := []) (xs := xs)).2 hx
    rw [List.nil_append] at this
    exact ⟨xs, this, eqD_self _⟩
  rw [stands_eq hk hin] at hs
  intro e
  have : gt xs k ∈ (gt page k).filter (standsF l r page k) := List.mem_filter.2 ⟨hin, hs⟩
  rw [e] at this
  cases this
theorem seenV_ok (l : List Int) (r page : List (List Int)) : ((seenV l r page).getD []).length ≤ 8 ∧ (∀ p ∈ (seenV l r page).getD [], p ≠ [] ∧ p.length ≤ 6) := by
  unfold seenV
  split
  · rename_i h
    rw [Bool.and_eq_true, decide_eq_true_eq] at h
    have h1 := (bothOk_yes h.1).2
    have h2 := (pageOk_yes h1).1
    have h3 := pageOk_len h1
    simp only [Option.getD_some, seenL_len]
    refine ⟨h2, fun p hp => ?_⟩
    obtain ⟨k, hk, rfl⟩ := List.getElem_of_mem hp
    rw [seenL_len] at hk
    have e : (seenL (standsF l r page) 0 page)[k] = gt (seenL (standsF l r page) 0 page) k := (gt_eq (by rw [seenL_len]; exact hk)).symm
    rw [e, seenL_gt hk, Nat.zero_add]
    refine ⟨seen_some h.2 hk, ?_⟩
    have h4 := List.length_filter_le (standsF l r page k) (gt page k)
    have h5 := h3 _ (gt_mem hk)
    omega
  · exact ⟨by simp, fun p hp => by simp at hp⟩
end Go.Proofs.Ytfjoininagdlcaa
namespace Go.Proofs.Ytfjoininagdlcaa
/-- All words. -/
def rowN (n : Nat) : List Int := (List.range n).map fun i : Nat => (i : Int)
theorem rowN_len (n : Nat) : (rowN n).length = n := by simp [rowN]
theorem rowN_gt {n k : Nat} (h : k < n) : gt (rowN n) k = (k : Int) := by simp [gt, rowN, h]
theorem rowN_mem {n : Nat} {x : Int} : x ∈ rowN n ↔ 0 ≤ x ∧ x < n := by
  unfold rowN
  rw [List.mem_map]
  constructor
  · rintro ⟨i, hi, rfl⟩
    rw [List.mem_range] at hi
    omega
  · rintro ⟨h0, h1⟩
    exact ⟨x.toNat, by rw [List.mem_range]; omega, by omega⟩
theorem rowN_succ (n : Nat) : rowN (n + 1) = rowN n ++ [(n : Int)] := by simp [rowN, List.range_succ]
def wholeP (n k : Nat) : List (List Int) := List.replicate k (rowN n)
theorem wholeP_len (n k : Nat) : (wholeP n k).length = k := by simp [wholeP]
theorem wholeP_gt {n k i : Nat} (h : i < k) : gt (wholeP n k) i = rowN n := by simp [gt, wholeP, h]
theorem wholeP_succ (n k : Nat) : wholeP n (k + 1) = wholeP n k ++ [rowN n] := by simp [wholeP, List.replicate_succ']
theorem placeFrom_range {n : Int} : ∀ (m a : Nat), (a : Int) + m ≤ n → placeFrom n ((a : Int) - 1) ((List.range' a m).map fun i : Nat => (i : Int)) = true
  | 0, _, _ => rfl
  | m + 1, a, h => by
    rw [List.range'_succ, List.map_cons, placeFrom, inB_yes.2 ⟨by omega, by omega⟩, Bool.true_and]
    have := placeFrom_range (n := n) m (a + 1) (by omega)
    rwa [show ((a + 1 : Nat) : Int) - 1 = (a : Int) by omega] at this
theorem wholeP_ok {n k : Nat} (h1 : 1 ≤ n) (h6 : n ≤ 6) (h8 : k ≤ 8) : pageOk (n : Int) (wholeP n k) = true := by
  unfold pageOk
  rw [Bool.and_eq_true, Bool.and_eq_true, decide_eq_true_eq, List.all_eq_true]
  refine ⟨inB_yes.2 ⟨by omega, by omega⟩, by rw [wholeP_len]; exact h8, fun p hp => ?_⟩
  obtain rfl : p = rowN n := List.eq_of_mem_replicate hp
  unfold placeOk
  rw [Bool.and_eq_true]
  constructor
  · have := placeFrom_range (n := (n : Int)) n 0 (by omega)
    rw [← List.range_eq_range'] at this
    exact this
  · have : (rowN n).length ≠ 0 := by rw [rowN_len]; omega
    cases hr : rowN n with
    | nil => rw [hr] at this; simp at this
    | cons _ _ => rfl
def lastB : Int → List Int → Int
  | b, [] => b
  | _, x :: xs => lastB x xs
theorem lastB_snoc (xs : List Int) (b y : Int) : lastB b (xs ++ [y]) = y := by
  induction xs generalizing b with
  | nil => rfl
  | cons x xs ih => exact ih x
theorem can_len {l : List Int} {r : List (List Int)} : ∀ {ps : List (List Int)} {b : Int} {xs : List Int}, canRead l r ps b xs → xs.length = ps.length
  | [], _, [], _ => rfl
  | _ :: ps, _, _ :: xs, h => by have := can_len h.2.2; simp [this]
  | [], _, _ :: _, h => h.elim
  | _ :: _, _, [], h => h.elim
theorem can_snoc {l : List Int} {r : List (List Int)} {q : List Int} {y : Int} : ∀ {ps : List (List Int)} {b : Int} {xs : List Int}, canRead l r (ps ++ [q]) b (xs ++ [y]) ↔ canRead l r ps b xs ∧ y ∈ q ∧ 0 < wgt l r (lastB b xs) y
  | [], b, [] => by simp [canRead, lastB]
  | p :: ps, b, x :: xs => by
    have := can_snoc (l := l) (r := r) (q := q) (y := y) (ps := ps) (b := x) (xs := xs)
    simp only [List.cons_append, canRead, this, lastB]
    constructor
    · rintro ⟨h1, h2, h3, h4, h5⟩; exact ⟨⟨h1, h2, h3⟩, h4, h5⟩
    · rintro ⟨⟨h1, h2, h3⟩, h4, h5⟩; exact ⟨h1, h2, h3, h4, h5⟩
  | [], b, x :: xs => by
    constructor
    · intro h; have := can_len h; simp at this
    · intro h; exact h.1.elim
  | p :: ps, b, [] => by
    constructor
    · intro h; have := can_len h; simp at this
    · intro h; exact h.1.elim
/-- The words at the end of the readings of a page of all words, as the reference counts them. -/
def endsR (l : List Int) (r : List (List Int)) (n : Nat) : Nat → List Int
  | 0 => (rowN n).filter fun i => decide (0 < gt l i.toNat)
  | s + 1 => (rowN n).filter fun i => (endsR l r n s).any fun j => decide (0 < gt (gt r j.toNat) i.toNat)
theorem ends_mem {l : List Int} {r : List (List Int)} {n : Nat} : ∀ {s : Nat} {x : Int}, x ∈ endsR l r n s ↔ ∃ xs, canRead l r (wholeP n (s + 1)) (-1) (xs ++ [x])
  | 0, x => by
    rw [endsR, List.mem_filter, decide_eq_true_eq, wholeP_succ]
    constructor
    · rintro ⟨h1, h2⟩
      refine ⟨[], can_snoc.2 ⟨trivial, h1, ?_⟩⟩
      show 0 < wgt l r (-1) x
      unfold wgt
      rw [if_pos (by omega)]
      exact h2
    · rintro ⟨xs, h⟩
      obtain ⟨h1, h2, h3⟩ := can_snoc.1 h
      have h4 := can_len h1
      rw [wholeP_len] at h4
      obtain rfl := List.length_eq_zero_iff.1 h4
      refine ⟨h2, ?_⟩
      have h5 : 0 < wgt l r (-1) x := h3
      unfold wgt at h5
      rwa [if_pos (by omega)] at h5
  | s + 1, x => by
    rw [endsR, List.mem_filter, List.any_eq_true, wholeP_succ]
    constructor
    · rintro ⟨h1, y, hy, h2⟩
      obtain ⟨xs, hx⟩ := ends_mem.1 hy
      have hy2 : y ∈ rowN n := by
        rw [wholeP_succ] at hx
        exact (can_snoc.1 hx).2.1
      refine ⟨xs ++ [y], can_snoc.2 ⟨hx, h1, ?_⟩⟩
      rw [lastB_snoc]
      unfold wgt
      rw [if_neg (by have := (rowN_mem.1 hy2).1; omega)]
      exact of_decide_eq_true h2
    · rintro ⟨xs, h⟩
      obtain ⟨h1, h2, h3⟩ := can_snoc.1 h
      have h4 := can_len h1
      rw [wholeP_len] at h4
      have hne : xs ≠ [] := fun e => by rw [e] at h4; simp at h4
      obtain ⟨ys, y, rfl⟩ : ∃ ys y, xs = ys ++ [y] := ⟨xs.dropLast, xs.getLast hne, (List.dropLast_concat_getLast hne).symm⟩
      rw [lastB_snoc] at h3
      refine ⟨h2, y, ends_mem.2 ⟨ys, h1⟩, ?_⟩
      have hy2 : y ∈ rowN n := by
        rw [wholeP_succ] at h1
        exact (can_snoc.1 h1).2.1
      unfold wgt at h3
      rw [if_neg (by have := (rowN_mem.1 hy2).1; omega)] at h3
      exact decide_eq_true h3
theorem ends_sub {l : List Int} {r : List (List Int)} {n s : Nat} {x : Int} (h : x ∈ endsR l r n s) : x ∈ rowN n := by
  cases s with
  | zero => exact (List.mem_filter.1 h).1
  | succ s => exact (List.mem_filter.1 h).1
theorem ends_filter (l : List Int) (r : List (List Int)) (n s : Nat) : ∃ f : Int → Bool, endsR l r n s = (rowN n).filter f := by
  cases s with
  | zero => exact ⟨_, rfl⟩
  | succ s => exact ⟨_, rfl⟩
theorem ends_len (l : List Int) (r : List (List Int)) (n s : Nat) : (endsR l r n s).length ≤ n := by
  obtain ⟨f, hf⟩ := ends_filter l r n s
  rw [hf]
  have := List.length_filter_le f (rowN n)
  rwa [rowN_len] at this
theorem ends_stands {l : List Int} {r : List (List Int)} {n s : Nat} : endsR l r n s = (rowN n).filter (standsF l r (wholeP n (s + 1)) s) := by
  obtain ⟨f, hf⟩ := ends_filter l r n s
  rw [hf]
  refine List.filter_congr fun x hx => ?_
  have h1 : x ∈ endsR l r n s ↔ f x = true := by rw [hf, List.mem_filter]; exact ⟨fun h => h.2, fun h => ⟨hx, h⟩⟩
  rw [← stands_eq (by rw [wholeP_len]; omega) (by rw [wholeP_gt (by omega)]; exact hx), Bool.eq_iff_iff, ← h1, ends_mem]
  unfold standsR
  rw [List.any_eq_true]
  constructor
  · rintro ⟨xs, h⟩
    have := (reads_mem (l := l) (r := r) (ps := wholeP n (s + 1)) (pre := []) (xs := xs ++ [x])).2 h
    rw [List.nil_append] at this
    refine ⟨_, this, ?_⟩
    have hl := can_len h
    rw [wholeP_len, List.length_append] at hl
    have h2 : xs.length = s := by simpa using hl
    rw [← h2, gt_last, eqD_self]
  · rintro ⟨t, ht, he⟩
    rw [eqD_iff] at he
    have h2 := (reads_mem (l := l) (r := r) (ps := wholeP n (s + 1)) (pre := []) (xs := t)).1 (by rw [List.nil_append]; exact ht)
    have hl := can_len h2
    rw [wholeP_len] at hl
    have hne : t ≠ [] := fun e => by rw [e] at hl; simp at hl
    obtain ⟨ys, y, rfl⟩ : ∃ ys y, t = ys ++ [y] := ⟨t.dropLast, t.getLast hne, (List.dropLast_concat_getLast hne).symm⟩
    have h3 : ys.length = s := by simpa using hl
    rw [← h3, gt_last] at he
    exact ⟨ys, by rw [← he]; exact h2⟩
def statesV (l : List Int) (r : List (List Int)) (k : Int) : List Int := if modelOk l r && inB k 1 8 then endsR l r l.length (k.toNat - 1) else []
theorem statesV_len (l : List Int) (r : List (List Int)) (k : Int) : (statesV l r k).length ≤ 6 := by
  unfold statesV
  split
  · rename_i h
    rw [Bool.and_eq_true] at h
    have h1 := ends_len l r l.length (k.toNat - 1)
    have h2 := (modelOk_yes h.1).2.1
    omega
  · simp
theorem both_whole {l : List Int} {r : List (List Int)} {k : Nat} (h : modelOk l r = true) (hk : k ≤ 8) : bothOk l r (wholeP l.length k) = true := by
  unfold bothOk
  rw [h, wholeP_ok (modelOk_yes h).1 (modelOk_yes h).2.1 hk]; rfl
/-- As the program takes them from what is seen. -/
theorem states_none {l : List Int} {r : List (List Int)} {s : Nat} (h : modelOk l r = true) (hs : s + 1 ≤ 8) (hn : (seenV l r (wholeP l.length (s + 1))).isSome = false) : endsR l r l.length s = [] := by
  rw [List.eq_nil_iff_forall_not_mem]
  intro x hx
  obtain ⟨xs, h1⟩ := ends_mem.1 hx
  have h2 := (many_can (l := l) (r := r) (ps := wholeP l.length (s + 1)) (pre := [])).2 ⟨_, h1⟩
  have h3 : 0 < manyOf l r (wholeP l.length (s + 1)) (-1) := h2
  unfold seenV at hn
  rw [both_whole h hs, decide_eq_true h3] at hn
  simp at hn
theorem states_some {l : List Int} {r : List (List Int)} {s : Nat} (_h : modelOk l r = true) (_hs : s + 1 ≤ 8) (hn : (seenV l r (wholeP l.length (s + 1))).isSome = true) :
    ((seenV l r (wholeP l.length (s + 1))).getD []).length = s + 1 ∧ gt ((seenV l r (wholeP l.length (s + 1))).getD []) s = endsR l r l.length s := by
  unfold seenV at hn ⊢
  split at hn
  · rename_i hc
    rw [if_pos hc]
    simp only [Option.getD_some]
    refine ⟨by rw [seenL_len, wholeP_len], ?_⟩
    rw [seenL_gt (by rw [wholeP_len]; omega), wholeP_gt (by omega), Nat.zero_add, ends_stands]
  · simp at hn
end Go.Proofs.Ytfjoininagdlcaa
namespace Go.Proofs.Ytfjoininagdlcaa
theorem snocInd {α : Type} {P : List α → Prop} (l : List α) (nil : P []) (append_singleton : ∀ p y, P p → P (p ++ [y])) : P l := by
  have h : ∀ m : List α, P m.reverse := by
    intro m
    induction m with
    | nil => exact nil
    | cons x m ih => rw [List.reverse_cons]; exact append_singleton _ _ ih
  have := h l.reverse
  rwa [List.reverse_reverse] at this
theorem le_sum_mem {a : Nat} : ∀ {l : List Nat}, a ∈ l → a ≤ l.sum
  | x :: l, h => by
    rw [List.sum_cons]
    rcases List.mem_cons.1 h with rfl | h
    · omega
    · have := le_sum_mem h; omega
/-- The greatest weight of all places left, behind a word; -1 for none. -/
def mostOf (l : List Int) (r : List (List Int)) : List (List Int) → Int → Int
  | [], _ => 0
  | p :: ps, b => p.foldl (fun best y => if 0 < wgt l r b y ∧ 0 ≤ mostOf l r ps y then max best (wgt l r b y + mostOf l r ps y) else best) (-1)
def candV (l : List Int) (r ps : List (List Int)) (b y : Int) : Int := if 0 < wgt l r b y ∧ 0 ≤ mostOf l r ps y then wgt l r b y + mostOf l r ps y else -1
theorem candV_ge (l : List Int) (r ps : List (List Int)) (b y : Int) : -1 ≤ candV l r ps b y := by unfold candV; split <;> omega
/-- The words as the reference picks them. -/
def bestOf (l : List Int) (r : List (List Int)) : List (List Int) → Int → List Int
  | [], _ => []
  | p :: ps, b => ((p.find? fun y => decide (candV l r ps b y = mostOf l r (p :: ps) b)).getD b) :: bestOf l r ps ((p.find? fun y => decide (candV l r ps b y = mostOf l r (p :: ps) b)).getD b)
/-- The first element of the greatest value, with that value. -/
def amax (g : Int → Int) (p : List Int) : Option Int × Int := p.foldl (fun s y => if s.2 < g y then (some y, g y) else s) (none, -1)
theorem amax_snoc (g : Int → Int) (p : List Int) (y : Int) : amax g (p ++ [y]) = if (amax g p).2 < g y then (some y, g y) else amax g p := by
  unfold amax; rw [List.foldl_append]; rfl
theorem amax_ge (g : Int → Int) (p : List Int) : -1 ≤ (amax g p).2 := by
  induction p using snocInd with
  | nil => simp [amax]
  | append_singleton p y ih => rw [amax_snoc]; split <;> simp_all <;> omega
theorem amax_le (g : Int → Int) (p : List Int) : ∀ z ∈ p, g z ≤ (amax g p).2 := by
  induction p using snocInd with
  | nil => intro z hz; cases hz
  | append_singleton p y ih =>
    intro z hz
    rw [amax_snoc]
    rcases List.mem_append.1 hz with hz | hz
    · have := ih z hz
      split
      · simp; omega
      · exact this
    · rw [List.mem_singleton] at hz
      subst hz
      split
      · simp
      · omega
theorem amax_find (g : Int → Int) (p : List Int) (h : 0 ≤ (amax g p).2) : p.find? (fun y => decide (g y = (amax g p).2)) = (amax g p).1 ∧ ∃ y, (amax g p).1 = some y ∧ y ∈ p ∧ g y = (amax g p).2 := by
  induction p using snocInd with
  | nil => simp [amax] at h
  | append_singleton p y ih =>
    rw [amax_snoc] at h ⊢
    by_cases hlt : (amax g p).2 < g y
    · rw [if_pos hlt]
      refine ⟨?_, y, rfl, by simp, rfl⟩
      have hnone : p.find? (fun z => decide (g z = g y)) = none := by
        rw [List.find?_eq_none]
        intro z hz
        have := amax_le g p z hz
        simp
        omega
      show (p ++ [y]).find? (fun z => decide (g z = g y)) = some y
      rw [List.find?_append, hnone]
      simp
    · rw [if_neg hlt] at h ⊢
      obtain ⟨h1, z, h2, h3, h4⟩ := ih h
      refine ⟨?_, z, h2, by simp [h3], h4⟩
      rw [List.find?_append, h1, h2]
      rfl
theorem amax_most (l : List Int) (r ps : List (List Int)) (b : Int) (p : List Int) : (amax (candV l r ps b) p).2 = mostOf l r (p :: ps) b := by
  have h : ∀ (p : List Int) (o : Option Int) (k : Int), -1 ≤ k → (p.foldl (fun (s : Option Int × Int) y => if s.2 < candV l r ps b y then (some y, candV l r ps b y) else s) (o, k)).2 = p.foldl (fun best y => if 0 < wgt l r b y ∧ 0 ≤ mostOf l r ps y then max best (wgt l r b y + mostOf l r ps y) else best) k := by
    intro p
    induction p with
    | nil => intro o k _; rfl
    | cons y p ih =>
      intro o k hk
      rw [List.foldl_cons, List.foldl_cons]
      by_cases hc : 0 < wgt l r b y ∧ 0 ≤ mostOf l r ps y
      · have hv : candV l r ps b y = wgt l r b y + mostOf l r ps y := by unfold candV; rw [if_pos hc]
        rw [if_pos hc, hv]
        by_cases h2 : k < wgt l r b y + mostOf l r ps y
        · rw [if_pos h2, ih _ _ (by omega), show max k (wgt l r b y + mostOf l r ps y) = wgt l r b y + mostOf l r ps y by omega]
        · rw [if_neg h2, ih _ _ hk, show max k (wgt l r b y + mostOf l r ps y) = k by omega]
      · have hv : candV l r ps b y = -1 := by unfold candV; rw [if_neg hc]
        rw [if_neg hc, hv, if_neg (by show ¬ k < -1; omega), ih _ _ hk]
  exact h p none (-1) (by omega)
theorem most_ge (l : List Int) (r ps : List (List Int)) (b : Int) : -1 ≤ mostOf l r ps b := by
  cases ps with
  | nil => simp [mostOf]
  | cons p ps => rw [← amax_most]; exact amax_ge _ _
theorem best_pick {l : List Int} {r ps : List (List Int)} {p : List Int} {b : Int} (h : 0 ≤ mostOf l r (p :: ps) b) : ∃ y, (amax (candV l r ps b) p).1 = some y ∧ y ∈ p ∧ candV l r ps b y = mostOf l r (p :: ps) b ∧ 0 < wgt l r b y ∧ 0 ≤ mostOf l r ps y ∧ p.find? (fun y => decide (candV l r ps b y = mostOf l r (p :: ps) b)) = some y := by
  rw [← amax_most] at h
  obtain ⟨h1, y, h2, h3, h4⟩ := amax_find _ _ h
  rw [amax_most] at h h1 h4
  refine ⟨y, h2, h3, h4, ?_, ?_, by rw [h1, h2]⟩
  all_goals
    unfold candV at h4
    split at h4
    · rename_i hc
      first | exact hc.1 | exact hc.2
    · omega
theorem bestOf_cons {l : List Int} {r ps : List (List Int)} {p : List Int} {b y : Int} (h : 0 ≤ mostOf l r (p :: ps) b) (hy : (amax (candV l r ps b) p).1 = some y) : bestOf l r (p :: ps) b = y :: bestOf l r ps y := by
  obtain ⟨z, h1, _, _, _, _, h2⟩ := best_pick h
  rw [h1] at hy
  injection hy with hy
  subst hy
  rw [bestOf, h2]
  rfl
/-- The sum of the weights of words that are read behind b. -/
def wsum (l : List Int) (r : List (List Int)) : Int → List Int → Int
  | _, [] => 0
  | b, x :: xs => wgt l r b x + wsum l r x xs
theorem wsum_snoc (l : List Int) (r : List (List Int)) : ∀ (pre : List Int) (b x : Int), wsum l r b (pre ++ [x]) = wsum l r b pre + wgt l r (if pre.length = 0 then b else gt pre (pre.length - 1)) x
  | [], b, x => by simp [wsum]
  | y :: pre, b, x => by
    rw [List.cons_append, wsum, wsum_snoc l r pre y x, wsum]
    cases pre with
    | nil => simp [gt, wsum]
    | cons z pre => simp [gt]; omega
theorem wsum_pre (l : List Int) (r : List (List Int)) (pre : List Int) (x : Int) : wsum l r (-1) (pre ++ [x]) = wsum l r (-1) pre + wgt l r (lastI pre) x := by
  rw [wsum_snoc]; rfl
theorem sumW_can {l : List Int} {r : List (List Int)} : ∀ {ps : List (List Int)} {b acc : Int} {xs : List Int}, canRead l r ps b xs → sumW l r b acc xs = acc + wsum l r b xs
  | [], b, acc, [], _ => by simp [sumW, wsum]
  | p :: ps, b, acc, x :: xs, h => by
    rw [sumW, if_neg (by have := h.2.1; omega), sumW_can h.2.2, wsum]; omega
  | [], _, _, _ :: _, h => h.elim
  | _ :: _, _, _, [], h => h.elim
/-- One reading more is looked at. -/
def bestStep (l : List Int) (r : List (List Int)) (s : Option (List Int) × Int) (x : List Int) : Option (List Int) × Int := if s.2 < wsum l r (-1) x then (some x, wsum l r (-1) x) else s
theorem best_fold (l : List Int) (r ps : List (List Int)) : ∀ (pre : List Int) (s : Option (List Int) × Int), (readsOf l r ps pre).foldl (bestStep l r) s = if 0 ≤ mostOf l r ps (lastI pre) ∧ s.2 < wsum l r (-1) pre + mostOf l r ps (lastI pre) then (some (pre ++ bestOf l r ps (lastI pre)), wsum l r (-1) pre + mostOf l r ps (lastI pre)) else s := by
  induction ps with
  | nil =>
    intro pre s
    simp only [readsOf, List.foldl_cons, List.foldl_nil, bestStep, mostOf, bestOf, Int.add_zero, List.append_nil]
    by_cases h : s.2 < wsum l r (-1) pre
    · rw [if_pos h, if_pos ⟨by omega, h⟩]
    · rw [if_neg h, if_neg (fun h2 => h h2.2)]
  | cons p ps ih =>
    intro pre s
    have key : ∀ q : List Int, (q.flatMap (stepR l r ps pre)).foldl (bestStep l r) s = if 0 ≤ (amax (candV l r ps (lastI pre)) q).2 ∧ s.2 < wsum l r (-1) pre + (amax (candV l r ps (lastI pre)) q).2 then (some (pre ++ ((amax (candV l r ps (lastI pre)) q).1.getD 0 :: bestOf l r ps ((amax (candV l r ps (lastI pre)) q).1.getD 0))), wsum l r (-1) pre + (amax (candV l r ps (lastI pre)) q).2) else s := by
      intro q
      induction q using snocInd with
      | nil => simp [amax]
      | append_singleton q y ihq =>
        rw [List.flatMap_append, List.foldl_append, ihq, amax_snoc]
        have hone : ([y] : List Int).flatMap (stepR l r ps pre) = stepR l r ps pre y := by simp
        rw [hone]
        have ha := amax_ge (candV l r ps (lastI pre)) q
        obtain ⟨a, ha'⟩ : ∃ a, amax (candV l r ps (lastI pre)) q = a := ⟨_, rfl⟩
        rw [ha'] at ha ⊢
        obtain ⟨S, hS⟩ : ∃ S, wsum l r (-1) pre = S := ⟨_, rfl⟩
        rw [hS]
        by_cases hc : 0 < wgt l r (lastI pre) y ∧ 0 ≤ mostOf l r ps y
        · have hv : candV l r ps (lastI pre) y = wgt l r (lastI pre) y + mostOf l r ps y := by unfold candV; rw [if_pos hc]
          have hst : stepR l r ps pre y = readsOf l r ps (pre ++ [y]) := by unfold stepR; rw [if_pos hc.1]
          rw [hst, ih, lastI_snoc, wsum_pre, hS, hv]
          obtain ⟨cc, hcc⟩ : ∃ cc, wgt l r (lastI pre) y + mostOf l r ps y = cc := ⟨_, rfl⟩
          have hassoc : S + wgt l r (lastI pre) y + mostOf l r ps y = S + cc := by omega
          rw [hassoc, hcc]
          have hc0 : 0 ≤ cc := by omega
          by_cases h1 : 0 ≤ a.2 ∧ s.2 < S + a.2
          · rw [if_pos h1]
            by_cases h2 : a.2 < cc
            · rw [if_pos ⟨hc.2, by show S + a.2 < S + cc; omega⟩, if_pos h2, if_pos ⟨hc0, by show s.2 < S + cc; omega⟩]
              simp
            · rw [if_neg (fun h => h2 (by have := h.2; simp only [] at this; omega)), if_neg h2, if_pos h1]
          · rw [if_neg h1]
            by_cases h2 : a.2 < cc
            · rw [if_pos h2]
              by_cases h3 : s.2 < S + cc
              · rw [if_pos ⟨hc.2, h3⟩, if_pos ⟨hc0, h3⟩]
                simp
              · rw [if_neg (fun h => h3 h.2), if_neg (fun h => h3 h.2)]
            · rw [if_neg h2, if_neg h1, if_neg (fun h => h1 ⟨by omega, by have := h.2; omega⟩)]
        · have hv : candV l r ps (lastI pre) y = -1 := by unfold candV; rw [if_neg hc]
          have hno : ¬ a.2 < -1 := by omega
          rw [hv, if_neg hno]
          have hnil : ∀ s' : Option (List Int) × Int, (stepR l r ps pre y).foldl (bestStep l r) s' = s' := by
            intro s'
            by_cases hw : 0 < wgt l r (lastI pre) y
            · have hst : stepR l r ps pre y = readsOf l r ps (pre ++ [y]) := by unfold stepR; rw [if_pos hw]
              rw [hst, ih, lastI_snoc, if_neg]
              intro h
              exact hc ⟨hw, h.1⟩
            · have hst : stepR l r ps pre y = [] := by unfold stepR; rw [if_neg hw]
              rw [hst]; rfl
          exact hnil _
    rw [readsOf_cons, key p, amax_most]
    by_cases h : 0 ≤ mostOf l r (p :: ps) (lastI pre) ∧ s.2 < wsum l r (-1) pre + mostOf l r (p :: ps) (lastI pre)
    · rw [if_pos h, if_pos h]
      obtain ⟨y, h1, _⟩ := best_pick h.1
      rw [bestOf_cons h.1 h1, h1]
      rfl
    · rw [if_neg h, if_neg h]
theorem most_many (l : List Int) (r ps : List (List Int)) : ∀ b : Int, 0 ≤ mostOf l r ps b ↔ 0 < manyOf l r ps b := by
  induction ps with
  | nil => intro b; simp [mostOf, manyOf]
  | cons p ps ih =>
    intro b
    constructor
    · intro h
      obtain ⟨y, _, hy, _, hw, hm, _⟩ := best_pick h
      rw [many_cons]
      have h1 : 0 < manyStep l r ps b y := by unfold manyStep; rw [if_pos hw]; exact (ih y).1 hm
      have h2 : manyStep l r ps b y ≤ (p.map (manyStep l r ps b)).sum := le_sum_mem (List.mem_map_of_mem hy)
      omega
    · intro h
      obtain ⟨x, hx⟩ := find_some h
      obtain ⟨h1, h2, h3⟩ := find_leads hx
      have h4 : candV l r ps b x = wgt l r b x + mostOf l r ps x := by unfold candV; rw [if_pos ⟨h2, (ih x).2 h3⟩]
      have h5 := amax_le (candV l r ps b) p x h1
      rw [amax_most] at h5
      have := (ih x).2 h3
      omega
def bestV (l : List Int) (r page : List (List Int)) : Option (List Int) := if bothOk l r page && decide (0 < manyOf l r page (-1)) then some (bestOf l r page (-1)) else none
theorem bestV_fold {l : List Int} {r page : List (List Int)} (h : bothOk l r page = true) : ((readsOf l r page []).foldl (bestStep l r) (none, -1)).1 = bestV l r page ∧ decide (0 ≤ ((readsOf l r page []).foldl (bestStep l r) (none, -1)).2) = (bestV l r page).isSome := by
  have h1 := best_fold l r page [] (none, -1)
  have h2 := most_many l r page (-1)
  have e : lastI [] = -1 := rfl
  rw [e] at h1
  unfold bestV
  rw [h, Bool.true_and, h1]
  by_cases hm : 0 < manyOf l r page (-1)
  · have h3 := h2.2 hm
    rw [if_pos ⟨h3, by simp [wsum]; omega⟩, if_pos (by simpa using hm)]
    refine ⟨by simp, ?_⟩
    simp [wsum]; omega
  · rw [if_neg (fun h => hm (h2.1 h.1)), if_neg (by simpa using hm)]
    exact ⟨rfl, by simp⟩
theorem bestOf_len (l : List Int) (r ps : List (List Int)) : ∀ b : Int, (bestOf l r ps b).length = ps.length := by
  induction ps with
  | nil => intro b; rfl
  | cons p ps ih => intro b; rw [bestOf, List.length_cons, List.length_cons, ih]
theorem bestV_len (l : List Int) (r page : List (List Int)) : ((bestV l r page).getD []).length ≤ 1048576 := by
  unfold bestV
  split
  · rename_i h
    rw [Bool.and_eq_true] at h
    have h1 := (pageOk_yes (bothOk_yes h.1).2).1
    have h2 := bestOf_len l r page (-1)
    simp only [Option.getD_some]
    omega
  · simp
theorem most_le {l : List Int} {r : List (List Int)} (hm : modelOk l r = true) : ∀ (ps : List (List Int)) (b : Int), b < l.length → (∀ p ∈ ps, ∀ y ∈ p, 0 ≤ y ∧ y < (l.length : Int)) → mostOf l r ps b ≤ 9 * ps.length
  | [], b, _, _ => by simp [mostOf]
  | p :: ps, b, hb, hp => by
    by_cases h : 0 ≤ mostOf l r (p :: ps) b
    · obtain ⟨y, _, hy, hc, hw, hmy, _⟩ := best_pick h
      have hy0 := hp p (List.mem_cons_self ..) y hy
      have h1 := most_le hm ps y hy0.2 fun q hq => hp q (List.mem_cons_of_mem _ hq)
      have h2 := wgt_bd hm hb hy0.1 hy0.2
      have h3 : candV l r ps b y = wgt l r b y + mostOf l r ps y := by unfold candV; rw [if_pos ⟨hw, hmy⟩]
      simp only [List.length_cons]
      omega
    · simp only [List.length_cons]
      omega
end Go.Proofs.Ytfjoininagdlcaa
