/- The span of a list of numbers; how many of a list were there already: what changes of the list leave them alone. No program in sight. -/
import Derived.Test.YtigemahbopligaaDoorTouchPure
import Derived.Test.YtigemahbopligaaDoorBox
namespace Go.Proofs.YtigemahbopligaaDoor
theorem maxL_spec (l : List Int) (m : Int) : (maxL m l = m ∨ maxL m l ∈ l) ∧ m ≤ maxL m l ∧ ∀ x ∈ l, x ≤ maxL m l := by
  induction l generalizing m with
  | nil => simp [maxL]
  | cons a r ih =>
    simp only [maxL]
    obtain ⟨z, hz, hza⟩ : ∃ z, (if m < a then a else m) = z ∧ ((z = a ∧ m < a) ∨ (z = m ∧ a ≤ m)) := by
      by_cases h : m < a
      · exact ⟨a, if_pos h, .inl ⟨rfl, h⟩⟩
      · exact ⟨m, if_neg h, .inr ⟨rfl, by omega⟩⟩
    rw [hz]
    obtain ⟨h1, h2, h3⟩ := ih z
    refine ⟨?_, by omega, fun x hx => ?_⟩
    · rcases h1 with h | h
      · rcases hza with ⟨e, _⟩ | ⟨e, _⟩
        · right; rw [h, e]; exact List.mem_cons_self ..
        · left; rw [h, e]
      · right; exact List.mem_cons_of_mem _ h
    · rcases List.mem_cons.1 hx with e | hx
      · omega
      · exact h3 x hx
theorem minL_spec (l : List Int) (m : Int) : (minL m l = m ∨ minL m l ∈ l) ∧ minL m l ≤ m ∧ ∀ x ∈ l, minL m l ≤ x := by
  induction l generalizing m with
  | nil => simp [minL]
  | cons a r ih =>
    simp only [minL]
    obtain ⟨z, hz, hza⟩ : ∃ z, (if a < m then a else m) = z ∧ ((z = a ∧ a < m) ∨ (z = m ∧ m ≤ a)) := by
      by_cases h : a < m
      · exact ⟨a, if_pos h, .inl ⟨rfl, h⟩⟩
      · exact ⟨m, if_neg h, .inr ⟨rfl, by omega⟩⟩
    rw [hz]
    obtain ⟨h1, h2, h3⟩ := ih z
    refine ⟨?_, by omega, fun x hx => ?_⟩
    · rcases h1 with h | h
      · rcases hza with ⟨e, _⟩ | ⟨e, _⟩
        · right; rw [h, e]; exact List.mem_cons_self ..
        · left; rw [h, e]
      · right; exact List.mem_cons_of_mem _ h
    · rcases List.mem_cons.1 hx with e | hx
      · omega
      · exact h3 x hx
theorem gt0_mem {l : List Int} (h : l ≠ []) : gt l 0 ∈ l := gt_mem (List.length_pos_iff.2 h)
theorem span_of {l : List Int} {M m : Int} (hM : M ∈ l) (hM2 : ∀ x ∈ l, x ≤ M) (hm : m ∈ l) (hm2 : ∀ x ∈ l, m ≤ x) : spanL l = M - m := by
  have hne : l ≠ [] := fun e => by rw [e] at hM; cases hM
  have a := maxL_spec l (gt l 0)
  have b := minL_spec l (gt l 0)
  have h0 := gt0_mem hne
  have a1 : maxL (gt l 0) l ∈ l := by rcases a.1 with h | h; (rw [h]; exact h0); exact h
  have b1 : minL (gt l 0) l ∈ l := by rcases b.1 with h | h; (rw [h]; exact h0); exact h
  have := a.2.2 M hM
  have := hM2 _ a1
  have := b.2.2 m hm
  have := hm2 _ b1
  unfold spanL
  omega
theorem span_ex {l : List Int} (hne : l ≠ []) : ∃ M m, M ∈ l ∧ (∀ x ∈ l, x ≤ M) ∧ m ∈ l ∧ (∀ x ∈ l, m ≤ x) := by
  have a := maxL_spec l (gt l 0)
  have b := minL_spec l (gt l 0)
  have h0 := gt0_mem hne
  exact ⟨maxL (gt l 0) l, minL (gt l 0) l, by rcases a.1 with h | h; (rw [h]; exact h0); exact h, a.2.2, by rcases b.1 with h | h; (rw [h]; exact h0); exact h, b.2.2⟩
theorem span_mem {l l' : List Int} (hne : l ≠ []) (h : ∀ x, x ∈ l' ↔ x ∈ l) : spanL l' = spanL l := by
  obtain ⟨M, m, h1, h2, h3, h4⟩ := span_ex hne
  rw [span_of h1 h2 h3 h4, span_of ((h M).2 h1) (fun x hx => h2 x ((h x).1 hx)) ((h m).2 h3) (fun x hx => h4 x ((h x).1 hx))]
theorem span_neg {l : List Int} (hne : l ≠ []) : spanL (l.map fun x => -x) = spanL l := by
  obtain ⟨M, m, h1, h2, h3, h4⟩ := span_ex hne
  rw [span_of h1 h2 h3 h4, span_of (M := -m) (m := -M) (List.mem_map.2 ⟨m, h3, rfl⟩) (fun x hx => by obtain ⟨y, hy, rfl⟩ := List.mem_map.1 hx; have := h4 y hy; omega) (List.mem_map.2 ⟨M, h1, rfl⟩) (fun x hx => by obtain ⟨y, hy, rfl⟩ := List.mem_map.1 hx; have := h2 y hy; omega)]
  omega
theorem span_add {l : List Int} (c : Int) (hne : l ≠ []) : spanL (l.map fun x => x + c) = spanL l := by
  obtain ⟨M, m, h1, h2, h3, h4⟩ := span_ex hne
  rw [span_of h1 h2 h3 h4, span_of (M := M + c) (m := m + c) (List.mem_map.2 ⟨M, h1, rfl⟩) (fun x hx => by obtain ⟨y, hy, rfl⟩ := List.mem_map.1 hx; have := h2 y hy; omega) (List.mem_map.2 ⟨m, h3, rfl⟩) (fun x hx => by obtain ⟨y, hy, rfl⟩ := List.mem_map.1 hx; have := h4 y hy; omega)]
  omega
theorem span_two {l : List Int} {a b : Int} (ha : a ∈ l) (hb : b ∈ l) : a - b ≤ spanL l := by
  obtain ⟨M, m, h1, h2, h3, h4⟩ := span_ex (l := l) (fun e => by rw [e] at ha; cases ha)
  rw [span_of h1 h2 h3 h4]
  have := h2 a ha
  have := h4 b hb
  omega
/-! What was there already. -/
/-- The first of each point. -/
def firsts (seen : List (Int × Int)) : List (Int × Int) → List (Int × Int)
  | [] => []
  | p :: r => if hasP seen p then firsts (seen ++ [p]) r else p :: firsts (seen ++ [p]) r
theorem firsts_len (l : List (Int × Int)) (seen : List (Int × Int)) : touL seen l + (firsts seen l).length = l.length := by
  induction l generalizing seen with
  | nil => rfl
  | cons p r ih =>
    have := ih (seen ++ [p])
    simp only [touL, firsts, List.length_cons]
    cases h : hasP seen p
    · simp only [bitI, Bool.false_eq_true, if_false, List.length_cons]
      omega
    · simp only [bitI, if_true]
      omega
theorem firsts_mem (l : List (Int × Int)) (seen : List (Int × Int)) (x : Int × Int) : x ∈ firsts seen l ↔ x ∈ l ∧ x ∉ seen := by
  induction l generalizing seen with
  | nil => simp [firsts]
  | cons p r ih =>
    have := ih (seen ++ [p])
    simp only [firsts]
    cases h : hasP seen p
    · have hp : p ∉ seen := fun e => by rw [hasP_iff.2 e] at h; cases h
      simp only [Bool.false_eq_true, if_false, List.mem_cons, this, List.mem_append, List.not_mem_nil, or_false, not_or]
      constructor
      · rintro (rfl | ⟨h1, h2, h3⟩)
        · exact ⟨.inl rfl, hp⟩
        · exact ⟨.inr h1, h2⟩
      · rintro ⟨h1, h2⟩
        by_cases e : x = p
        · exact .inl e
        · exact .inr ⟨h1.resolve_left e, h2, e⟩
    · have hp : p ∈ seen := hasP_iff.1 h
      simp only [if_true, this, List.mem_append, List.mem_cons, List.not_mem_nil, or_false, not_or]
      constructor
      · rintro ⟨h1, h2, h3⟩
        exact ⟨.inr h1, h2⟩
      · rintro ⟨h1, h2⟩
        have e : x ≠ p := fun e => h2 (by rw [e]; exact hp)
        exact ⟨h1.resolve_left e, h2, e⟩
theorem firsts_nodup (l : List (Int × Int)) (seen : List (Int × Int)) : (firsts seen l).Nodup := by
  induction l generalizing seen with
  | nil => simp [firsts]
  | cons p r ih =>
    simp only [firsts]
    split
    · exact ih _
    · rw [List.nodup_cons]
      refine ⟨fun h => ?_, ih _⟩
      have := (firsts_mem r (seen ++ [p]) p).1 h
      simp at this
theorem nodup_le {α : Type} [DecidableEq α] {a b : List α} (h : a.Nodup) (hs : ∀ x ∈ a, x ∈ b) : a.length ≤ b.length := by
  induction a generalizing b with
  | nil => simp
  | cons x r ih =>
    rw [List.nodup_cons] at h
    have hx := hs x (List.mem_cons_self ..)
    have h1 := ih (b := b.erase x) h.2 (fun y hy => (List.mem_erase_of_ne (show y ≠ x from fun e => h.1 (by rw [← e]; exact hy))).2 (hs y (List.mem_cons_of_mem _ hy)))
    rw [List.length_erase_of_mem hx] at h1
    have := List.length_pos_of_mem hx
    simp only [List.length_cons]
    omega
theorem tou_mem {l l' : List (Int × Int)} (hl : l'.length = l.length) (h : ∀ x, x ∈ l' ↔ x ∈ l) : touL [] l' = touL [] l := by
  have a := firsts_len l []
  have b := firsts_len l' []
  have c : (firsts [] l').length ≤ (firsts [] l).length := nodup_le (firsts_nodup _ _) fun x hx => (firsts_mem l [] x).2 ⟨(h x).1 ((firsts_mem l' [] x).1 hx).1, by simp⟩
  have d : (firsts [] l).length ≤ (firsts [] l').length := nodup_le (firsts_nodup _ _) fun x hx => (firsts_mem l' [] x).2 ⟨(h x).2 ((firsts_mem l [] x).1 hx).1, by simp⟩
  omega
theorem hasP_map {f : Int × Int → Int × Int} (hf : ∀ x y, f x = f y → x = y) (l : List (Int × Int)) (p : Int × Int) : hasP (l.map f) (f p) = hasP l p := by
  rw [Bool.eq_iff_iff, hasP_iff, hasP_iff, List.mem_map]
  exact ⟨fun ⟨q, h, e⟩ => hf _ _ e ▸ h, fun h => ⟨p, h, rfl⟩⟩
theorem tou_map {f : Int × Int → Int × Int} (hf : ∀ x y, f x = f y → x = y) (l seen : List (Int × Int)) : touL (seen.map f) (l.map f) = touL seen l := by
  induction l generalizing seen with
  | nil => rfl
  | cons p r ih =>
    have := ih (seen ++ [p])
    rw [List.map_append] at this
    simp only [List.map_cons, List.map_nil] at this
    rw [List.map_cons, touL, touL, hasP_map hf, this]
theorem tou_append (a b seen : List (Int × Int)) : touL seen (a ++ b) = touL seen a + touL (seen ++ a) b := by
  induction a generalizing seen with
  | nil => simp [touL]
  | cons p r ih =>
    rw [List.cons_append, touL, touL, ih, List.append_assoc]
    simp only [List.cons_append, List.nil_append]
    omega
end Go.Proofs.YtigemahbopligaaDoor
