/- Reading a copy; laws of reading, of the first token, of how many copies there are. No program in sight. -/
import Derived.Test.YthijnojefeeaoaaUsedPure
namespace Go.Proofs.Ythijnojefeeaoaa
/-- The words for which a token stands. -/
def pieceOf (bs : List BriefT) (t : ByteArray) : Option (List ByteArray) :=
  match bs.find? fun b => eqD b.1 t with
  | some b => some b.2
  | none => if wordOk t then some [t] else none
def readG (bs : List BriefT) : List ByteArray → List ByteArray → Option (List ByteArray)
  | acc, [] => some acc
  | acc, t :: r => match pieceOf bs t with
    | none => none
    | some ps => if (acc ++ ps).length ≤ 20 then readG bs (acc ++ ps) r else none
def readV (bs : List BriefT) (ts : List ByteArray) : Option (List ByteArray) := if briefsOk bs then readG bs [] ts else none
theorem mark_eq {bs : List BriefT} (h : briefsOk bs = true) {a b : BriefT} (ha : a ∈ bs) (hb : b ∈ bs) (he : a.1 = b.1) : a = b := by
  obtain ⟨i, hi, rfl⟩ := List.getElem_of_mem ha
  obtain ⟨j, hj, rfl⟩ := List.getElem_of_mem hb
  rw [← gt_eq hi, ← gt_eq hj] at he ⊢
  rw [mark_one h hi hj he]
theorem find_mark {bs : List BriefT} (h : briefsOk bs = true) {b : BriefT} (hb : b ∈ bs) : (bs.find? fun a => eqD a.1 b.1) = some b := by
  cases hf : bs.find? fun a => eqD a.1 b.1 with
  | none =>
    have := List.find?_eq_none.1 hf b hb
    rw [eqD_self] at this
    exact absurd rfl this
  | some x =>
    have h1 := List.find?_some hf
    have h2 := List.mem_of_find?_eq_some hf
    rw [mark_eq h h2 hb (eqD_iff.1 h1)]
theorem find_word {bs : List BriefT} (h : briefsOk bs = true) {s : ByteArray} (hs : wordOk s = true) : (bs.find? fun a => eqD a.1 s) = none := by
  rw [List.find?_eq_none]
  intro x hx e
  have e := eqD_iff.1 e
  have h5 := (briefs_all h).1 x hx
  unfold briefOk at h5
  rw [Bool.and_eq_true, e] at h5
  exact mark_word h5.1 hs
theorem piece_mark {bs : List BriefT} (h : briefsOk bs = true) {b : BriefT} (hb : b ∈ bs) : pieceOf bs b.1 = some b.2 := by
  unfold pieceOf
  rw [find_mark h hb]
theorem piece_word {bs : List BriefT} (h : briefsOk bs = true) {s : ByteArray} (hs : wordOk s = true) : pieceOf bs s = some [s] := by
  unfold pieceOf
  rw [find_word h hs]
  dsimp only
  rw [if_pos hs]
theorem ahead_take {b : BriefT} {ws : List ByteArray} (h : ahead b ws = true) : ws.take b.2.length = b.2 := by
  unfold ahead at h
  rw [Bool.and_eq_true] at h
  exact eqD_iff.1 h.2
theorem words_mem {ws : List ByteArray} (h : wordsOk ws = true) : ∀ s ∈ ws, wordOk s = true := by
  unfold wordsOk at h
  rwa [List.all_eq_true] at h
/-- A copy reads as its speech. -/
theorem read_cp {bs : List BriefT} (hb : briefsOk bs = true) : ∀ {p : List WayT} {ws : List ByteArray}, isCp bs p ws → (∀ s ∈ ws, wordOk s = true) → ∀ acc : List ByteArray, acc.length + ws.length ≤ 20 → readG bs acc (cpT p ws) = some (acc ++ ws)
  | [], ws, hp, _, acc, _ => by
    have h' : ws = [] := hp
    subst h'
    rw [cpT, readG, List.append_nil]
  | none :: r, ws, hp, hw, acc, hl => by
    cases ws with
    | nil => exact absurd rfl hp.1
    | cons w ws =>
      have h1 := hp.2
      rw [List.drop_succ_cons, List.drop_zero] at h1
      rw [List.length_cons] at hl
      have h2 := read_cp hb h1 (fun s hs => hw s (List.mem_cons_of_mem _ hs)) (acc ++ [w]) (by simp; omega)
      show readG bs acc (gt (w :: ws) 0 :: cpT r ((w :: ws).drop 1)) = _
      rw [gt_zero, List.drop_succ_cons, List.drop_zero, readG, piece_word hb (hw w (by simp))]
      dsimp only
      rw [if_pos (by simp; omega), h2]
      simp
  | some b :: r, ws, hp, hw, acc, hl => by
    obtain ⟨h1, h2, h3, h4⟩ := hp
    have h5 := ahead_take h3
    have h6 := ahead_len h3
    have h7 := read_cp hb h4 (fun s hs => hw s (List.mem_of_mem_drop hs)) (acc ++ b.2) (by rw [List.length_append, List.length_drop]; omega)
    show readG bs acc (b.1 :: cpT r (ws.drop b.2.length)) = _
    rw [readG, piece_mark hb h1]
    dsimp only
    rw [if_pos (by rw [List.length_append]; omega), h7, List.append_assoc]
    congr 2
    conv => rhs; rw [← List.take_append_drop b.2.length ws, h5]
theorem read_pre {bs : List BriefT} : ∀ {ts acc x out : List ByteArray}, readG bs (x ++ acc) ts = some out → ∃ b, out = x ++ b ∧ readG bs acc ts = some b
  | [], acc, x, out, h => by
    rw [readG] at h
    injection h with h
    exact ⟨acc, h.symm, by rw [readG]⟩
  | t :: r, acc, x, out, h => by
    rw [readG] at h ⊢
    cases hp : pieceOf bs t with
    | none => rw [hp] at h; cases h
    | some ps =>
      rw [hp] at h
      dsimp only at h ⊢
      by_cases hl : (x ++ acc ++ ps).length ≤ 20
      · rw [if_pos hl, List.append_assoc] at h
        rw [if_pos (by rw [List.length_append, List.length_append] at hl; rw [List.length_append]; omega)]
        exact read_pre h
      · rw [if_neg hl] at h
        cases h
theorem read_app {bs : List BriefT} : ∀ {s acc r out : List ByteArray}, readG bs acc (s ++ r) = some out → ∃ a, readG bs acc s = some a ∧ readG bs a r = some out
  | [], acc, r, out, h => ⟨acc, by rw [readG], h⟩
  | t :: s, acc, r, out, h => by
    rw [List.cons_append, readG] at h
    rw [readG]
    cases hp : pieceOf bs t with
    | none => rw [hp] at h; cases h
    | some ps =>
      rw [hp] at h
      dsimp only at h ⊢
      by_cases hl : (acc ++ ps).length ≤ 20
      · rw [if_pos hl] at h ⊢
        exact read_app h
      · rw [if_neg hl] at h
        cases h
theorem readG_len {bs : List BriefT} : ∀ {ts acc out : List ByteArray}, readG bs acc ts = some out → acc.length ≤ 20 → out.length ≤ 20
  | [], acc, out, h, hl => by
    rw [readG] at h
    injection h with h
    subst h
    exact hl
  | t :: r, acc, out, h, _ => by
    rw [readG] at h
    cases hp : pieceOf bs t with
    | none => rw [hp] at h; cases h
    | some ps =>
      rw [hp] at h
      dsimp only at h
      by_cases hl : (acc ++ ps).length ≤ 20
      · rw [if_pos hl] at h
        exact readG_len h hl
      · rw [if_neg hl] at h
        cases h
/-- What is read has the tokens as a copy. -/
theorem read_way {bs : List BriefT} (hb : briefsOk bs = true) : ∀ {ts acc out : List ByteArray}, readG bs acc ts = some out → ∃ ws p, out = acc ++ ws ∧ isCp bs p ws ∧ cpT p ws = ts ∧ ∀ s ∈ ws, wordOk s = true
  | [], acc, out, h => by
    rw [readG] at h
    injection h with h
    exact ⟨[], [], by rw [h, List.append_nil], rfl, rfl, fun s hs => by cases hs⟩
  | t :: r, acc, out, h => by
    rw [readG] at h
    cases hf : bs.find? (fun b => eqD b.1 t) with
    | none =>
      have hpc : pieceOf bs t = if wordOk t then some [t] else none := by unfold pieceOf; rw [hf]
      rw [hpc] at h
      by_cases hw : wordOk t = true
      · rw [if_pos hw] at h
        dsimp only at h
        by_cases hl : (acc ++ [t]).length ≤ 20
        · rw [if_pos hl] at h
          obtain ⟨ws, p, h1, h2, h3, h4⟩ := read_way hb h
          refine ⟨t :: ws, none :: p, by rw [h1, List.append_assoc]; rfl, ⟨List.cons_ne_nil _ _, h2⟩, ?_, fun s hs => ?_⟩
          · show gt (t :: ws) 0 :: cpT p ((t :: ws).drop 1) = _
            rw [gt_zero, List.drop_succ_cons, List.drop_zero, h3]
          · rcases List.mem_cons.1 hs with rfl | hs
            · exact hw
            · exact h4 s hs
        · rw [if_neg hl] at h
          cases h
      · rw [if_neg hw] at h
        cases h
    | some b =>
      have hpc : pieceOf bs t = some b.2 := by unfold pieceOf; rw [hf]
      rw [hpc] at h
      dsimp only at h
      have hbm := List.mem_of_find?_eq_some hf
      have hbt : b.1 = t := eqD_iff.1 (List.find?_some (p := fun b : BriefT => eqD b.1 t) hf)
      by_cases hl : (acc ++ b.2).length ≤ 20
      · rw [if_pos hl] at h
        obtain ⟨ws, p, h1, h2, h3, h4⟩ := read_way hb h
        have hbo := (briefs_all hb).1 b hbm
        have hb1 := (briefs_wd hb b hbm).1
        refine ⟨b.2 ++ ws, some b :: p, by rw [h1, List.append_assoc], ⟨hbm, ?_, ?_, ?_⟩, ?_, fun s hs => ?_⟩
        · intro e
          have := congrArg List.length e
          rw [List.length_append, List.length_nil] at this
          omega
        · unfold ahead
          rw [List.take_left, eqD_self, Bool.and_true, decide_eq_true_eq, List.length_append]
          omega
        · rw [List.drop_left]
          exact h2
        · show b.1 :: cpT p ((b.2 ++ ws).drop b.2.length) = _
          rw [List.drop_left, h3, hbt]
        · rcases List.mem_append.1 hs with hs | hs
          · unfold briefOk at hbo
            rw [Bool.and_eq_true, Bool.and_eq_true] at hbo
            exact words_mem hbo.2.2 s hs
          · exact h4 s hs
      · rw [if_neg hl] at h
        cases h
theorem letters_cp {bs : List BriefT} : ∀ {p : List WayT} {ws : List ByteArray}, isCp bs p ws → letters (cpT p ws) = cpW 1 0 p ws
  | [], _, _ => rfl
  | none :: r, ws, hp => by
    show ((gt ws 0).size : Int) + letters (cpT r (ws.drop 1)) = (1 * ((gt ws 0).size : Int) + 0) + cpW 1 0 r (ws.drop 1)
    rw [letters_cp hp.2]
    omega
  | some b :: r, ws, hp => by
    show (b.1.size : Int) + letters (cpT r (ws.drop b.2.length)) = (1 * (b.1.size : Int) + 0) + cpW 1 0 r (ws.drop b.2.length)
    rw [letters_cp hp.2.2.2]
    omega
/-- FnCopyRead but for the number of copies. -/
theorem read_law {bs : List BriefT} {ts out : List ByteArray} (h : readV bs ts = some out) (k : Nat) :
    ∃ a b, readV bs (ts.take k) = some a ∧ readV bs (ts.drop k) = some b ∧ a ++ b = out ∧ briefsOk bs = true ∧ speechOk out = true ∧ gt (costs 1 0 bs out) 0 ≤ letters ts ∧ gt (costs 0 1 bs out) 0 ≤ (ts.length : Int) := by
  unfold readV at h ⊢
  by_cases hb : briefsOk bs = true
  · rw [if_pos hb] at h
    rw [if_pos hb, if_pos hb]
    have hwd : ∀ b ∈ bs, 1 ≤ b.2.length := fun b hm => (briefs_wd hb b hm).1
    obtain ⟨ws, p, h1, h2, h3, h4⟩ := read_way hb h
    rw [List.nil_append] at h1
    subst h1
    have h5 := readG_len h (by simp)
    have h6 := h
    rw [← List.take_append_drop k ts] at h6
    obtain ⟨a, h7, h8⟩ := read_app h6
    rw [← List.append_nil a] at h8
    obtain ⟨b, h9, h10⟩ := read_pre h8
    refine ⟨a, b, h7, h10, h9.symm, hb, ?_, ?_, ?_⟩
    · unfold speechOk wordsOk
      rw [decide_eq_true h5, Bool.true_and, List.all_eq_true]
      exact h4
    · rw [← h3, letters_cp h2]
      exact cost_le hwd h2
    · have := cost_le (a := 0) (c := 1) hwd h2
      rw [cp_count] at this
      rw [← h3, cpT_len]
      exact this
  · rw [if_neg hb] at h
    cases h
theorem bestP_cons (a c : Int) (bs : List BriefT) (w : ByteArray) (ws : List ByteArray) : bestP a c bs (w :: ws) = pickB a c bs (w :: ws) :: bestP a c bs (ws.drop (wayN (pickB a c bs (w :: ws)) - 1)) := by rw [bestP]
/-- FnCopyBest. -/
theorem best_law {bs : List BriefT} {ws : List ByteArray} (hb : briefsOk bs = true) (hs : speechOk ws = true) :
    readV bs (bestV bs ws) = some ws ∧ letters (bestV bs ws) = gt (costs 1 0 bs ws) 0 ∧ (bestV bs ws = [] ↔ ws = []) ∧
    (ws ≠ [] → ∃ x, readV bs ((bestV bs ws).take 1) = some x ∧ x.length ≤ ws.length ∧ 1 ≤ x.length ∧ bestV bs (ws.drop x.length) = (bestV bs ws).drop 1) := by
  have hwd : ∀ b ∈ bs, 1 ≤ b.2.length := fun b hm => (briefs_wd hb b hm).1
  obtain ⟨h1, h2⟩ := best_cp (a := 1) (c := 0) hwd ws.length ws (Nat.le_refl _)
  unfold speechOk at hs
  rw [Bool.and_eq_true, decide_eq_true_eq] at hs
  have hw := words_mem hs.2
  unfold readV
  rw [if_pos hb, if_pos hb]
  refine ⟨?_, ?_, ?_, fun hne => ?_⟩
  · have := read_cp hb h1 hw [] (by simpa using hs.1)
    rw [List.nil_append] at this
    exact this
  · unfold bestV
    rw [letters_cp h1, h2]
  · constructor
    · intro e
      cases ws with
      | nil => rfl
      | cons w ws =>
        have := congrArg List.length e
        unfold bestV at this
        rw [cpT_len, bestP_cons] at this
        simp at this
    · intro e
      subst e
      unfold bestV
      rw [bestP]
      rfl
  · cases ws with
    | nil => exact absurd rfl hne
    | cons w ws =>
      unfold bestV
      rw [bestP_cons] at h1 ⊢
      cases hp : pickB 1 0 bs (w :: ws) with
      | none =>
        refine ⟨[w], ?_, by simp, by simp, ?_⟩
        · show readG bs [] (([gt (w :: ws) 0] ++ _).take 1) = _
          rw [List.take_left' (by rfl), readG, gt_zero, piece_word hb (hw w (by simp))]
          dsimp only
          rw [if_pos (by simp), readG]
          rfl
        · show cpT (bestP 1 0 bs ws) ws = ([gt (w :: ws) 0] ++ cpT (bestP 1 0 bs ws) ws).drop 1
          rw [List.drop_left' (by rfl)]
      | some b =>
        obtain ⟨h4, h5, h6⟩ := pick_some hp
        have hb1 := briefs_wd hb b h4
        have hal := ahead_len h5
        refine ⟨b.2, ?_, hal, hb1.1, ?_⟩
        · show readG bs [] (([b.1] ++ _).take 1) = _
          rw [List.take_left' (by rfl), readG, piece_mark hb h4]
          dsimp only
          rw [if_pos (by simp; omega), readG]
          rfl
        · show cpT (bestP 1 0 bs ((w :: ws).drop b.2.length)) ((w :: ws).drop b.2.length) = ([b.1] ++ cpT (bestP 1 0 bs (ws.drop (b.2.length - 1))) ((w :: ws).drop b.2.length)).drop 1
          rw [List.drop_left' (by rfl), drop_pred _ _ hb1.1]
/-- FnCopyMarks: brief by brief. -/
def marksG (bs : List BriefT) (ws : List ByteArray) (o : ByteArray) : List BriefT → Option Bool
  | [] => none
  | b :: r => if eqD b.1 o then some true else if ahead b ws && (gt (costs 1 0 bs (ws.drop b.2.length)) 0 + (b.1.size : Int) == gt (costs 1 0 bs ws) 0) then some false else marksG bs ws o r
theorem marks_law {bs : List BriefT} {ws : List ByteArray} (hb : briefsOk bs = true) (hne : ws ≠ []) : ∃ o r, bestV bs ws = o :: r ∧ (marksG bs ws o bs = some true ∨ (marksG bs ws o bs = none ∧ o = gt ws 0)) := by
  have hwd : ∀ b ∈ bs, 1 ≤ b.2.length := fun b hm => (briefs_wd hb b hm).1
  cases ws with
  | nil => exact absurd rfl hne
  | cons w ws =>
    unfold bestV
    rw [bestP_cons]
    have hq : ∀ b ∈ bs, (ahead b (w :: ws) && (gt (costs 1 0 bs ((w :: ws).drop b.2.length)) 0 + (b.1.size : Int) == gt (costs 1 0 bs (w :: ws)) 0)) = (ahead b (w :: ws) && (gt (costs 1 0 bs (w :: ws)) b.2.length + (1 * b.1.size + 0) == gt (costs 1 0 bs (w :: ws)) 0)) := fun b hm => by
      cases ha : ahead b (w :: ws) with
      | false => rfl
      | true =>
        rw [← costs_drop (ahead_len ha), Bool.true_and, Bool.true_and, Int.one_mul, Int.add_zero]
    have key : ∀ l : List BriefT, (∀ b ∈ l, b ∈ bs) → ∀ x : WayT, (l.find? fun b => ahead b (w :: ws) && (gt (costs 1 0 bs (w :: ws)) b.2.length + (1 * b.1.size + 0) == gt (costs 1 0 bs (w :: ws)) 0)) = x →
        (∀ b, x = some b → marksG bs (w :: ws) b.1 l = some true) ∧ (∀ o, x = none → marksG bs (w :: ws) o l = some true ∨ marksG bs (w :: ws) o l = none) := by
      intro l
      induction l with
      | nil =>
        intro _ x hx
        rw [List.find?_nil] at hx
        subst hx
        exact ⟨(fun b e => by cases e), fun o _ => .inr rfl⟩
      | cons b l ih =>
        intro hm x hx
        have hi := ih (fun b hb => hm b (List.mem_cons_of_mem _ hb))
        have hqb := hq b (hm b (by simp))
        rw [List.find?_cons] at hx
        cases hc : (ahead b (w :: ws) && (gt (costs 1 0 bs (w :: ws)) b.2.length + (1 * b.1.size + 0) == gt (costs 1 0 bs (w :: ws)) 0)) with
        | true =>
          rw [hc] at hx
          subst hx
          refine ⟨fun y e => ?_, fun o e => by cases e⟩
          injection e with e
          subst e
          rw [marksG, eqD_self, if_pos rfl]
        | false =>
          rw [hc] at hx
          obtain ⟨h1, h2⟩ := hi x hx
          rw [hc] at hqb
          refine ⟨fun y e => ?_, fun o e => ?_⟩
          · rw [marksG, hqb]
            split
            · rfl
            · exact h1 y e
          · rw [marksG, hqb]
            split
            · exact .inl rfl
            · exact h2 o e
    obtain ⟨k1, k2⟩ := key bs (fun b h => h) (pickB 1 0 bs (w :: ws)) rfl
    cases hp : pickB 1 0 bs (w :: ws) with
    | none => exact ⟨_, _, rfl, (k2 _ hp).imp id fun h => ⟨h, rfl⟩⟩
    | some b => exact ⟨_, _, rfl, .inl (k1 b hp)⟩
/-! How many copies there are. -/
def sumI : List Int → Int
  | [] => 0
  | x :: r => x + sumI r
def manyL (bs : List BriefT) : List ByteArray → List Int
  | [] => [1]
  | w :: ws => sumI ((toks 0 bs (w :: ws)).map fun t => gt (manyL bs ws) (t.wd - 1)) :: manyL bs ws
theorem manyL_len (bs : List BriefT) : ∀ ws, (manyL bs ws).length = ws.length + 1
  | [] => rfl
  | w :: ws => by rw [manyL, List.length_cons, manyL_len bs ws, List.length_cons]
theorem sumI_le {l : List Int} {B : Int} (h : ∀ x ∈ l, 0 ≤ x ∧ x ≤ B) : 0 ≤ sumI l ∧ sumI l ≤ l.length * B := by
  induction l with
  | nil => simp [sumI]
  | cons x r ih =>
    have h1 := h x (by simp)
    have h2 := ih fun y hy => h y (List.mem_cons_of_mem _ hy)
    rw [sumI, List.length_cons]
    have : ((r.length + 1 : Nat) : Int) * B = r.length * B + B := by rw [Int.natCast_add, Int.add_mul]; simp
    omega
theorem sumI_app (a b : List Int) : sumI (a ++ b) = sumI a + sumI b := by
  induction a with
  | nil => simp [sumI]
  | cons x r ih => rw [List.cons_append, sumI, sumI, ih]; omega
theorem nodup_le : ∀ (l m : List Nat), l.Nodup → (∀ x ∈ l, x ∈ m) → l.length ≤ m.length
  | [], m, _, _ => Nat.zero_le _
  | x :: l, m, hn, h => by
    have hx := h x (by simp)
    rw [List.nodup_cons] at hn
    have := nodup_le l (m.erase x) hn.2 fun y hy => (List.mem_erase_of_ne (fun e => hn.1 (by rw [← e]; exact hy))).2 (h y (List.mem_cons_of_mem _ hy))
    rw [List.length_erase_of_mem hx] at this
    have := List.length_pos_of_mem hx
    rw [List.length_cons]
    omega
/-- At most one brief of a width stands at a place. -/
theorem ahead_few {bs : List BriefT} (hb : briefsOk bs = true) (ws : List ByteArray) : (bs.filter fun b => ahead b ws).length ≤ 3 := by
  have hp := (briefs_all hb).2
  have hw := briefs_wd hb
  have h1 : ((bs.filter fun b => ahead b ws).map fun b => b.2.length).Nodup := by
    rw [List.nodup_iff_pairwise_ne, List.pairwise_map]
    refine (List.Pairwise.filter _ hp).imp_of_mem fun {a b} ha hb' hs e => ?_
    have ha2 := ahead_take (List.mem_filter.1 ha).2
    have hb2 := ahead_take (List.mem_filter.1 hb').2
    unfold sameB at hs
    rw [← ha2, ← hb2, e, eqD_self, Bool.or_true] at hs
    cases hs
  have h2 : ∀ x ∈ (bs.filter fun b => ahead b ws).map fun b => b.2.length, x ∈ [1, 2, 3] := fun x hx => by
    obtain ⟨b, hbm, rfl⟩ := List.mem_map.1 hx
    have := hw b (List.mem_filter.1 hbm).1
    simp only [List.mem_cons, List.not_mem_nil, or_false]
    omega
  have h3 := nodup_le _ _ h1 h2
  rwa [List.length_map] at h3
theorem toks_few (i : Nat) (bs : List BriefT) (ws : List ByteArray) : (toks i bs ws).length = (bs.filter fun b => ahead b ws).length + 1 := by
  induction bs generalizing i with
  | nil => rfl
  | cons b r ih =>
    rw [toks]
    by_cases h : ahead b ws = true
    · rw [if_pos h, List.length_cons, ih, List.filter_cons_of_pos (by exact h), List.length_cons]
    · rw [if_neg h, ih, List.filter_cons_of_neg (by exact h)]
end Go.Proofs.Ythijnojefeeaoaa
