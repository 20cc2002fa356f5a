/- The words at the end of readings, in plain Lean. -/
import Derived.Test.YtoincfpffioioaaSeenPure
namespace Go.Proofs.Ytoincfpffioioaa
/-- All words. -/
def rowN (n : Nat) : List Int := (List.range n).map fun i : Nat => (i : Int)
theorem rowN_len (n : Nat) : (rowN n).length = n := by simp [rowN]
theorem rowN_gt {n k : Nat} (h : k < n) : gt (rowN n) k = (k : Int) := by simp [gt, rowN, h]
theorem rowN_mem {n : Nat} {x : Int} : x ∈ rowN n ↔ 0 ≤ x ∧ x < n := by
  unfold rowN
  rw [List.mem_map]
  constructor
  · rintro ⟨i, hi, rfl⟩
    rw [List.mem_range] at hi
    omega
  · rintro ⟨h0, h1⟩
    exact ⟨x.toNat, by rw [List.mem_range]; omega, by omega⟩
theorem rowN_succ (n : Nat) : rowN (n + 1) = rowN n ++ [(n : Int)] := by simp [rowN, List.range_succ]
def wholeP (n k : Nat) : List (List Int) := List.replicate k (rowN n)
theorem wholeP_len (n k : Nat) : (wholeP n k).length = k := by simp [wholeP]
theorem wholeP_gt {n k i : Nat} (h : i < k) : gt (wholeP n k) i = rowN n := by simp [gt, wholeP, h]
theorem wholeP_succ (n k : Nat) : wholeP n (k + 1) = wholeP n k ++ [rowN n] := by simp [wholeP, List.replicate_succ']
theorem placeFrom_range {n : Int} : ∀ (m a : Nat), (a : Int) + m ≤ n → placeFrom n ((a : Int) - 1) ((List.range' a m).map fun i : Nat => (i : Int)) = true
  | 0, _, _ => rfl
  | m + 1, a, h => by
    rw [List.range'_succ, List.map_cons, placeFrom, inB_yes.2 ⟨by omega, by omega⟩, Bool.true_and]
    have := placeFrom_range (n := n) m (a + 1) (by omega)
    rwa [show ((a + 1 : Nat) : Int) - 1 = (a : Int) by omega] at this
theorem wholeP_ok {n k : Nat} (h1 : 1 ≤ n) (h6 : n ≤ 6) (h8 : k ≤ 8) : pageOk (n : Int) (wholeP n k) = true := by
  unfold pageOk
  rw [Bool.and_eq_true, Bool.and_eq_true, decide_eq_true_eq, List.all_eq_true]
  refine ⟨inB_yes.2 ⟨by omega, by omega⟩, by rw [wholeP_len]; exact h8, fun p hp => ?_⟩
  obtain rfl : p = rowN n := List.eq_of_mem_replicate hp
  unfold placeOk
  rw [Bool.and_eq_true]
  constructor
  · have := placeFrom_range (n := (n : Int)) n 0 (by omega)
    rw [← List.range_eq_range'] at this
    exact this
  · have : (rowN n).length ≠ 0 := by rw [rowN_len]; omega
    cases hr : rowN n with
    | nil => rw [hr] at this; simp at this
    | cons _ _ => rfl
def lastB : Int → List Int → Int
  | b, [] => b
  | _, x :: xs => lastB x xs
theorem lastB_snoc (xs : List Int) (b y : Int) : lastB b (xs ++ [y]) = y := by
  induction xs generalizing b with
  | nil => rfl
  | cons x xs ih => exact ih x
theorem can_len {l : List Int} {r : List (List Int)} : ∀ {ps : List (List Int)} {b : Int} {xs : List Int}, canRead l r ps b xs → xs.length = ps.length
  | [], _, [], _ => rfl
  | _ :: ps, _, _ :: xs, h => by have := can_len h.2.2; simp [this]
  | [], _, _ :: _, h => h.elim
  | _ :: _, _, [], h => h.elim
theorem can_snoc {l : List Int} {r : List (List Int)} {q : List Int} {y : Int} : ∀ {ps : List (List Int)} {b : Int} {xs : List Int}, canRead l r (ps ++ [q]) b (xs ++ [y]) ↔ canRead l r ps b xs ∧ y ∈ q ∧ 0 < wgt l r (lastB b xs) y
  | [], b, [] => by simp [canRead, lastB]
  | p :: ps, b, x :: xs => by
    have := can_snoc (l := l) (r := r) (q := q) (y := y) (ps := ps) (b := x) (xs := xs)
    simp only [List.cons_append, canRead, this, lastB]
    constructor
    · rintro ⟨h1, h2, h3, h4, h5⟩; exact ⟨⟨h1, h2, h3⟩, h4, h5⟩
    · rintro ⟨⟨h1, h2, h3⟩, h4, h5⟩; exact ⟨h1, h2, h3, h4, h5⟩
  | [], b, x :: xs => by
    constructor
    · intro h; have := can_len h; simp at this
    · intro h; exact h.1.elim
  | p :: ps, b, [] => by
    constructor
    · intro h; have := can_len h; simp at this
    · intro h; exact h.1.elim
/-- The words at the end of the readings of a page of all words, as the reference counts them. -/
def endsR (l : List Int) (r : List (List Int)) (n : Nat) : Nat → List Int
  | 0 => (rowN n).filter fun i => decide (0 < gt l i.toNat)
  | s + 1 => (rowN n).filter fun i => (endsR l r n s).any fun j => decide (0 < gt (gt r j.toNat) i.toNat)
theorem ends_mem {l : List Int} {r : List (List Int)} {n : Nat} : ∀ {s : Nat} {x : Int}, x ∈ endsR l r n s ↔ ∃ xs, canRead l r (wholeP n (s + 1)) (-1) (xs ++ [x])
  | 0, x => by
    rw [endsR, List.mem_filter, decide_eq_true_eq, wholeP_succ]
    constructor
    · rintro ⟨h1, h2⟩
      refine ⟨[], can_snoc.2 ⟨trivial, h1, ?_⟩⟩
      show 0 < wgt l r (-1) x
      unfold wgt
      rw [if_pos (by omega)]
      exact h2
    · rintro ⟨xs, h⟩
      obtain ⟨h1, h2, h3⟩ := can_snoc.1 h
      have h4 := can_len h1
      rw [wholeP_len] at h4
      obtain rfl := List.length_eq_zero_iff.1 h4
      refine ⟨h2, ?_⟩
      have h5 : 0 < wgt l r (-1) x := h3
      unfold wgt at h5
      rwa [if_pos (by omega)] at h5
  | s + 1, x => by
    rw [endsR, List.mem_filter, List.any_eq_true, wholeP_succ]
    constructor
    · rintro ⟨h1, y, hy, h2⟩
      obtain ⟨xs, hx⟩ := ends_mem.1 hy
      have hy2 : y ∈ rowN n := by
        rw [wholeP_succ] at hx
        exact (can_snoc.1 hx).2.1
      refine ⟨xs ++ [y], can_snoc.2 ⟨hx, h1, ?_⟩⟩
      rw [lastB_snoc]
      unfold wgt
      rw [if_neg (by have := (rowN_mem.1 hy2).1; omega)]
      exact of_decide_eq_true h2
    · rintro ⟨xs, h⟩
      obtain ⟨h1, h2, h3⟩ := can_snoc.1 h
      have h4 := can_len h1
      rw [wholeP_len] at h4
      have hne : xs ≠ [] := fun e => by rw [e] at h4; simp at h4
      obtain ⟨ys, y, rfl⟩ : ∃ ys y, xs = ys ++ [y] := ⟨xs.dropLast, xs.getLast hne, (List.dropLast_concat_getLast hne).symm⟩
      rw [lastB_snoc] at h3
      refine ⟨h2, y, ends_mem.2 ⟨ys, h1⟩, ?_⟩
      have hy2 : y ∈ rowN n := by
        rw [wholeP_succ] at h1
        exact (can_snoc.1 h1).2.1
      unfold wgt at h3
      rw [if_neg (by have := (rowN_mem.1 hy2).1; omega)] at h3
      exact decide_eq_true h3
theorem ends_sub {l : List Int} {r : List (List Int)} {n s : Nat} {x : Int} (h : x ∈ endsR l r n s) : x ∈ rowN n := by
  cases s with
  | zero => exact (List.mem_filter.1 h).1
  | succ s => exact (List.mem_filter.1 h).1
theorem ends_filter (l : List Int) (r : List (List Int)) (n s : Nat) : ∃ f : Int → Bool, endsR l r n s = (rowN n).filter f := by
  cases s with
  | zero => exact ⟨_, rfl⟩
  | succ s => exact ⟨_, rfl⟩
theorem ends_len (l : List Int) (r : List (List Int)) (n s : Nat) : (endsR l r n s).length ≤ n := by
  obtain ⟨f, hf⟩ := ends_filter l r n s
  rw [hf]
  have := List.length_filter_le f (rowN n)
  rwa [rowN_len] at this
theorem ends_stands {l : List Int} {r : List (List Int)} {n s : Nat} : endsR l r n s = (rowN n).filter (standsF l r (wholeP n (s + 1)) s) := by
  obtain ⟨f, hf⟩ := ends_filter l r n s
  rw [hf]
  refine List.filter_congr fun x hx => ?_
  have h1 : x ∈ endsR l r n s ↔ f x = true := by rw [hf, List.mem_filter]; exact ⟨fun h => h.2, fun h => ⟨hx, h⟩⟩
  rw [← stands_eq (by rw [wholeP_len]; omega) (by rw [wholeP_gt (by omega)]; exact hx), Bool.eq_iff_iff, ← h1, ends_mem]
  unfold standsR
  rw [List.any_eq_true]
  constructor
  · rintro ⟨xs, h⟩
    have := (reads_mem (l := l) (r := r) (ps := wholeP n (s + 1)) (pre := []) (xs := xs ++ [x])).2 h
    rw [List.nil_append] at this
    refine ⟨_, this, ?_⟩
    have hl := can_len h
    rw [wholeP_len, List.length_append] at hl
    have h2 : xs.length = s := by simpa using hl
    rw [← h2, gt_last, eqD_self]
  · rintro ⟨t, ht, he⟩
    rw [eqD_iff] at he
    have h2 := (reads_mem (l := l) (r := r) (ps := wholeP n (s + 1)) (pre := []) (xs := t)).1 (by rw [List.nil_append]; exact ht)
    have hl := can_len h2
    rw [wholeP_len] at hl
    have hne : t ≠ [] := fun e => by rw [e] at hl; simp at hl
    obtain ⟨ys, y, rfl⟩ : ∃ ys y, t = ys ++ [y] := ⟨t.dropLast, t.getLast hne, (List.dropLast_concat_getLast hne).symm⟩
    have h3 : ys.length = s := by simpa using hl
    rw [← h3, gt_last] at he
    exact ⟨ys, by rw [← he]; exact h2⟩
def statesV (l : List Int) (r : List (List Int)) (k : Int) : List Int := if modelOk l r && inB k 1 8 then endsR l r l.length (k.toNat - 1) else []
theorem statesV_len (l : List Int) (r : List (List Int)) (k : Int) : (statesV l r k).length ≤ 6 := by
  unfold statesV
  split
  · rename_i h
    rw [Bool.and_eq_true] at h
    have h1 := ends_len l r l.length (k.toNat - 1)
    have h2 := (modelOk_yes h.1).2.1
    omega
  · simp
theorem both_whole {l : List Int} {r : List (List Int)} {k : Nat} (h : modelOk l r = true) (hk : k ≤ 8) : bothOk l r (wholeP l.length k) = true := by
  unfold bothOk
  rw [h, wholeP_ok (modelOk_yes h).1 (modelOk_yes h).2.1 hk]; rfl
/-- As the program takes them from what is seen. -/
theorem states_none {l : List Int} {r : List (List Int)} {s : Nat} (h : modelOk l r = true) (hs : s + 1 ≤ 8) (hn : (seenV l r (wholeP l.length (s + 1))).isSome = false) : endsR l r l.length s = [] := by
  rw [List.eq_nil_iff_forall_not_mem]
  intro x hx
  obtain ⟨xs, h1⟩ := ends_mem.1 hx
  have h2 := (many_can (l := l) (r := r) (ps := wholeP l.length (s + 1)) (pre := [])).2 ⟨_, h1⟩
  have h3 : 0 < manyOf l r (wholeP l.length (s + 1)) (-1) := h2
  unfold seenV at hn
  rw [both_whole h hs, decide_eq_true h3] at hn
  simp at hn
theorem states_some {l : List Int} {r : List (List Int)} {s : Nat} (h : modelOk l r = true) (hs : s + 1 ≤ 8) (hn : (seenV l r (wholeP l.length (s + 1))).isSome = true) :
    ((seenV l r (wholeP l.length (s + 1))).getD []).length = s + 1 ∧ gt ((seenV l r (wholeP l.length (s + 1))).getD []) s = endsR l r l.length s := by
  unfold seenV at hn ⊢
  split at hn
  · rename_i hc
    rw [if_pos hc]
    simp only [Option.getD_some]
    refine ⟨by rw [seenL_len, wholeP_len], ?_⟩
    rw [seenL_gt (by rw [wholeP_len]; omega), wholeP_gt (by omega), Nat.zero_add, ends_stands]
  · simp at hn
end Go.Proofs.Ytoincfpffioioaa
