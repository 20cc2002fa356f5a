/- Laws of the best copy. No program in sight. -/
import Derived.Test.YthijnojefeeaoaaBriefPure2
namespace Go.Proofs.Ythijnojefeeaoaa
theorem briefs_iff : ∀ {l pre : List BriefT}, briefsFrom pre l = true ↔ (∀ b ∈ l, briefOk b = true) ∧ (∀ a ∈ pre, ∀ b ∈ l, sameB a b = false) ∧ l.Pairwise (fun a b => sameB a b = false)
  | [], pre => by
    rw [briefsFrom]
    exact ⟨fun _ => ⟨(fun b hb => by cases hb), (fun a _ b hb => by cases hb), List.Pairwise.nil⟩, fun _ => rfl⟩
  | x :: l, pre => by
    rw [briefsFrom, Bool.and_eq_true, Bool.and_eq_true, briefs_iff (l := l), List.pairwise_cons, Bool.not_eq_true', List.any_eq_false]
    constructor
    · rintro ⟨⟨h1, h2⟩, h3, h4, h5⟩
      refine ⟨fun b hb => ?_, fun a ha b hb => ?_, ⟨fun b hb => h4 x (by simp) b hb, h5⟩⟩
      · rcases List.mem_cons.1 hb with rfl | hb
        · exact h2
        · exact h3 b hb
      · rcases List.mem_cons.1 hb with rfl | hb
        · simpa using h1 a ha
        · exact h4 a (by simp [ha]) b hb
    · rintro ⟨h1, h2, h3, h4⟩
      refine ⟨⟨fun a ha => ?_, h1 x (by simp)⟩, fun b hb => h1 b (by simp [hb]), fun a ha b hb => ?_, h4⟩
      · have := h2 a ha x (by simp)
        simp [this]
      · rcases List.mem_append.1 ha with ha | ha
        · exact h2 a ha b (by simp [hb])
        · rw [List.mem_singleton] at ha
          subst ha
          exact h3 b hb
theorem briefs_sub {l m : List BriefT} (hs : m.Sublist l) (h : briefsOk l = true) : briefsOk m = true := by
  unfold briefsOk at h ⊢
  rw [Bool.and_eq_true, decide_eq_true_eq, briefs_iff] at h ⊢
  have := hs.length_le
  exact ⟨by omega, fun b hb => h.2.1 b (hs.subset hb), (fun a ha => by cases ha), h.2.2.2.sublist hs⟩
theorem briefs_wd {l : List BriefT} (h : briefsOk l = true) : ∀ b ∈ l, 1 ≤ b.2.length ∧ b.2.length ≤ 3 := by
  unfold briefsOk at h
  rw [Bool.and_eq_true, briefs_iff] at h
  intro b hb
  have := h.2.1 b hb
  unfold briefOk at this
  rw [Bool.and_eq_true, Bool.and_eq_true, inB_yes] at this
  omega
theorem cp_sub {A B : List BriefT} (h : ∀ b ∈ A, b ∈ B) : ∀ {p : List WayT} {ws : List ByteArray}, isCp A p ws → isCp B p ws
  | [], _, hp => hp
  | none :: _r, _, hp => ⟨hp.1, cp_sub h hp.2⟩
  | some b :: _r, _, hp => ⟨h b hp.1, hp.2.1, hp.2.2.1, cp_sub h hp.2.2.2⟩
theorem cp_few {A B : List BriefT} : ∀ {p : List WayT} {ws : List ByteArray}, isCp A p ws → (∀ b, some b ∈ p → b ∈ B) → isCp B p ws
  | [], _, hp, _ => hp
  | none :: _r, _, hp, h => ⟨hp.1, cp_few hp.2 fun b hb => h b (List.mem_cons_of_mem _ hb)⟩
  | some b :: _r, _, hp, h => ⟨h b (List.mem_cons_self ..), hp.2.1, hp.2.2.1, cp_few hp.2.2.2 fun b hb => h b (List.mem_cons_of_mem _ hb)⟩
theorem cp_mem {A : List BriefT} : ∀ {p : List WayT} {ws : List ByteArray} {b : BriefT}, isCp A p ws → some b ∈ p → b ∈ A ∧ b.1 ∈ cpT p ws
  | [], _, _, _, h => by cases h
  | none :: r, ws, b, hp, h => by
    rcases List.mem_cons.1 h with h | h
    · cases h
    · obtain ⟨h1, h2⟩ := cp_mem hp.2 h
      exact ⟨h1, List.mem_cons_of_mem _ h2⟩
  | some x :: r, ws, b, hp, h => by
    rcases List.mem_cons.1 h with h | h
    · injection h with h
      subst h
      exact ⟨hp.1, List.mem_cons_self ..⟩
    · obtain ⟨h1, h2⟩ := cp_mem hp.2.2.2 h
      exact ⟨h1, List.mem_cons_of_mem _ h2⟩
theorem cp_text {A : List BriefT} : ∀ {p : List WayT} {ws : List ByteArray} {s : ByteArray}, isCp A p ws → s ∈ cpT p ws → s ∈ ws ∨ ∃ b, some b ∈ p ∧ b.1 = s
  | [], _, _, _, h => by cases h
  | none :: r, ws, s, hp, h => by
    rcases List.mem_cons.1 h with rfl | h
    · left
      have : 0 < ws.length := by
        cases ws with
        | nil => exact absurd rfl hp.1
        | cons => simp
      exact gt_mem this
    · rcases cp_text hp.2 h with h | ⟨b, h1, h2⟩
      · exact .inl (List.mem_of_mem_drop h)
      · exact .inr ⟨b, List.mem_cons_of_mem _ h1, h2⟩
  | some x :: r, ws, s, hp, h => by
    rcases List.mem_cons.1 h with rfl | h
    · exact .inr ⟨x, List.mem_cons_self .., rfl⟩
    · rcases cp_text hp.2.2.2 h with h | ⟨b, h1, h2⟩
      · exact .inl (List.mem_of_mem_drop h)
      · exact .inr ⟨b, List.mem_cons_of_mem _ h1, h2⟩
theorem least_sub {a c : Int} {A B : List BriefT} (h : ∀ b ∈ A, b ∈ B) (hB : ∀ b ∈ B, 1 ≤ b.2.length) (ws : List ByteArray) : gt (costs a c B ws) 0 ≤ gt (costs a c A ws) 0 := by
  obtain ⟨h1, h2⟩ := best_cp (a := a) (c := c) (fun b hb => hB b (h b hb)) ws.length ws (Nat.le_refl _)
  rw [← h2]
  exact cost_le hB (cp_sub h h1)
/-! What is used. -/
def bestV (bs : List BriefT) (ws : List ByteArray) : List ByteArray := cpT (bestP 1 0 bs ws) ws
def fewB (bs : List BriefT) (ws : List ByteArray) : List BriefT := bs.filter fun b => (bestV bs ws).contains b.1
def usedN (bs : List BriefT) (ws : List ByteArray) : List Nat := (List.range bs.length).filter fun k => (bestV bs ws).contains (gt bs k).1
theorem range_map (q : BriefT → Bool) : ∀ bs : List BriefT, ((List.range bs.length).filter fun k => q (gt bs k)).map (gt bs) = bs.filter q := by
  intro bs
  have h : bs = (List.range bs.length).map (gt bs) := by
    apply List.ext_getElem
    · simp
    · intro i h1 h2
      simp [gt, h1]
  have e : bs.filter q = ((List.range bs.length).map (gt bs)).filter q := by rw [← h]
  rw [e, List.filter_map]
  rfl
theorem few_eq (bs : List BriefT) (ws : List ByteArray) : (usedN bs ws).map (gt bs) = fewB bs ws := range_map (fun b => (bestV bs ws).contains b.1) bs
theorem few_ok {bs : List BriefT} (ws : List ByteArray) (h : briefsOk bs = true) : briefsOk (fewB bs ws) = true := briefs_sub (List.filter_sublist ..) h
theorem few_least {bs : List BriefT} (ws : List ByteArray) (h : ∀ b ∈ bs, 1 ≤ b.2.length) : gt (costs 1 0 (fewB bs ws) ws) 0 = gt (costs 1 0 bs ws) 0 := by
  have hsub : ∀ b ∈ fewB bs ws, b ∈ bs := fun b hb => (List.mem_filter.1 hb).1
  have h1 := least_sub (a := 1) (c := 0) hsub h ws
  obtain ⟨h2, h3⟩ := best_cp (a := 1) (c := 0) h ws.length ws (Nat.le_refl _)
  have h4 : isCp (fewB bs ws) (bestP 1 0 bs ws) ws := cp_few h2 fun b hb => by
    obtain ⟨h5, h6⟩ := cp_mem h2 hb
    exact List.mem_filter.2 ⟨h5, by simpa [bestV] using h6⟩
  have h5 := cost_le (a := 1) (c := 0) (fun b hb => h b (hsub b hb)) h4
  rw [h3] at h5
  omega
def letters (ws : List ByteArray) : Int := ((ws.map fun s => (s.size : Int)).foldr (· + ·) 0)
theorem letters_cons (w : ByteArray) (ws : List ByteArray) : letters (w :: ws) = w.size + letters ws := rfl
theorem letters_nn : ∀ ws : List ByteArray, 0 ≤ letters ws
  | [] => Int.le_refl _
  | w :: ws => by rw [letters_cons]; have := letters_nn ws; omega
theorem cost_words {A : List BriefT} : ∀ {p : List WayT} {ws : List ByteArray}, isCp A p ws → (∀ b, some b ∉ p) → cpW 1 0 p ws = letters ws
  | [], ws, hp, _ => by
    have h' : ws = [] := hp
    subst h'
    rfl
  | none :: r, ws, hp, h => by
    cases ws with
    | nil => exact absurd rfl hp.1
    | cons w ws =>
      have := cost_words hp.2 fun b hb => h b (List.mem_cons_of_mem _ hb)
      rw [List.drop_succ_cons, List.drop_zero] at this
      show (1 * (w.size : Int) + 0) + cpW 1 0 r ((w :: ws).drop 1) = _
      rw [List.drop_succ_cons, List.drop_zero, this, letters_cons]
      omega
  | some b :: r, ws, _, h => absurd (List.mem_cons_self ..) (h b)
theorem none_saves {bs : List BriefT} {ws : List ByteArray} (h : ∀ b ∈ bs, 1 ≤ b.2.length) (hu : usedN bs ws = []) : letters ws - gt (costs 1 0 bs ws) 0 = 0 := by
  obtain ⟨h2, h3⟩ := best_cp (a := 1) (c := 0) h ws.length ws (Nat.le_refl _)
  rw [← h3, cost_words h2 (fun b hb => by
    obtain ⟨h5, h6⟩ := cp_mem h2 hb
    have : b ∈ fewB bs ws := List.mem_filter.2 ⟨h5, by simpa [bestV] using h6⟩
    rw [← few_eq, hu] at this
    cases this)]
  omega
theorem words_le (bs : List BriefT) (ws : List ByteArray) (h : ∀ b ∈ bs, 1 ≤ b.2.length) : gt (costs 1 0 bs ws) 0 ≤ letters ws := by
  have h1 : ∀ ws : List ByteArray, isCp bs (ws.map fun _ => none) ws := by
    intro ws
    induction ws with
    | nil => rfl
    | cons w ws ih => exact ⟨List.cons_ne_nil _ _, ih⟩
  have h2 := cost_le (a := 1) (c := 0) h (h1 ws)
  rw [cost_words (h1 ws) (fun b hb => by simp at hb)] at h2
  exact h2
theorem costs_nn (a c : Int) (ha : 0 ≤ a) (hc : 0 ≤ c) {bs : List BriefT} (h : ∀ b ∈ bs, 1 ≤ b.2.length) (ws : List ByteArray) : 0 ≤ gt (costs a c bs ws) 0 := by
  rw [← (best_cp (a := a) (c := c) h ws.length ws (Nat.le_refl _)).2]
  have : ∀ (p : List WayT) (ws : List ByteArray), 0 ≤ cpW a c p ws := by
    intro p
    induction p with
    | nil => intro ws; exact Int.le_refl _
    | cons x r ih =>
      intro ws
      have := ih (ws.drop (wayN x))
      have h3 : 0 ≤ wayW a c ws x := by
        cases x with
        | none => have := Int.mul_nonneg ha (Int.natCast_nonneg (gt ws 0).size); show 0 ≤ a * ((gt ws 0).size : Int) + c; omega
        | some b => have := Int.mul_nonneg ha (Int.natCast_nonneg b.1.size); show 0 ≤ a * (b.1.size : Int) + c; omega
      show 0 ≤ _ + _
      omega
  exact this _ _
/-! How many tokens. -/
theorem cp_count : ∀ (p : List WayT) (ws : List ByteArray), cpW 0 1 p ws = p.length
  | [], _ => rfl
  | x :: r, ws => by
    have : wayW 0 1 ws x = 1 := by cases x <;> simp [wayW]
    show wayW 0 1 ws x + cpW 0 1 r _ = _
    rw [this, cp_count r, List.length_cons]
    omega
theorem cp_len {A : List BriefT} (hA : ∀ b ∈ A, 1 ≤ b.2.length ∧ b.2.length ≤ 3) : ∀ {p : List WayT} {ws : List ByteArray}, isCp A p ws → p.length ≤ ws.length ∧ ws.length ≤ 3 * p.length
  | [], ws, hp => by
    have h' : ws = [] := hp
    subst h'
    simp
  | none :: r, ws, hp => by
    have h1 := cp_len hA hp.2
    have : 0 < ws.length := by
      cases ws with
      | nil => exact absurd rfl hp.1
      | cons => simp
    rw [List.length_drop] at h1
    rw [List.length_cons]
    omega
  | some b :: r, ws, hp => by
    have h1 := cp_len hA hp.2.2.2
    have h2 := hA b hp.1
    have h3 := ahead_len hp.2.2.1
    rw [List.length_drop] at h1
    rw [List.length_cons]
    omega
theorem cpT_len : ∀ (p : List WayT) (ws : List ByteArray), (cpT p ws).length = p.length
  | [], _ => rfl
  | none :: r, ws => by rw [cpT, List.length_cons, cpT_len r, List.length_cons]
  | some b :: r, ws => by rw [cpT, List.length_cons, cpT_len r, List.length_cons]
theorem short_law {bs : List BriefT} (ws : List ByteArray) (h : ∀ b ∈ bs, 1 ≤ b.2.length ∧ b.2.length ≤ 3) :
    gt (costs 0 1 bs ws) 0 ≤ (bestV bs ws).length ∧ (bestV bs ws).length ≤ ws.length ∧ (ws.length : Int) ≤ 3 * gt (costs 0 1 bs ws) 0 ∧ gt (costs 0 1 [] ws) 0 = ws.length := by
  have h1 := fun b hb => (h b hb).1
  obtain ⟨h2, -⟩ := best_cp (a := 1) (c := 0) h1 ws.length ws (Nat.le_refl _)
  obtain ⟨h4, h5⟩ := best_cp (a := 0) (c := 1) h1 ws.length ws (Nat.le_refl _)
  have h6 := cost_le (a := 0) (c := 1) h1 h2
  rw [cp_count] at h6 h5
  have h7 := cp_len h h4
  have h8 := cp_len h h2
  refine ⟨by unfold bestV; rw [cpT_len]; exact h6, by unfold bestV; rw [cpT_len]; exact h8.1, by omega, ?_⟩
  clear h2 h4 h5 h6 h7 h8
  induction ws with
  | nil => rfl
  | cons w ws ih =>
    rw [costs_cons, List.foldl_nil, ih, List.length_cons]
    omega
end Go.Proofs.Ythijnojefeeaoaa
