/- Words, marks, briefs and speeches in plain Lean; what a copy costs. No program in sight. -/
import Derived.Test.YtigemahbopligaaOutPure
namespace Go.Proofs.Ytigemahbopligaa
abbrev BriefT : Type := ByteArray × List ByteArray
def bytesIn (lo hi : Nat) (s : List UInt8) : Bool := s.all fun c => decide (lo ≤ c.toNat) && decide (c.toNat ≤ hi)
def wordOk (s : ByteArray) : Bool := inB s.size 1 12 && bytesIn 97 122 s.data.toList
def markOk (s : ByteArray) : Bool := inB s.size 1 3 && bytesIn 65 90 s.data.toList
def wordsOk (ws : List ByteArray) : Bool := ws.all wordOk
def speechOk (ws : List ByteArray) : Bool := decide (ws.length ≤ 20) && wordsOk ws
def briefOk (b : BriefT) : Bool := markOk b.1 && (inB b.2.length 1 3 && wordsOk b.2)
def sameB (a b : BriefT) : Bool := eqD a.1 b.1 || eqD a.2 b.2
def briefsFrom : List BriefT → List BriefT → Bool
  | _, [] => true
  | pre, b :: r => (!(pre.any fun a => sameB a b) && briefOk b) && briefsFrom (pre ++ [b]) r
def briefsOk (l : List BriefT) : Bool := decide (l.length ≤ 8) && briefsFrom [] l
instance : LawfulBEq ByteArray where
  eq_of_beq {a b} h := by
    have h2 : (a.data == b.data) = true := h
    have h3 := eq_of_beq h2
    obtain ⟨x⟩ := a
    obtain ⟨y⟩ := b
    exact congrArg _ h3
  rfl {a} := by
    show (a.data == a.data) = true
    exact beq_self_eq_true _
theorem beq_str (a b : ByteArray) : (a.toList == b.toList) = eqD a b := by
  unfold eqD
  rw [ByteArray.toList_eq, ByteArray.toList_eq]
  obtain ⟨⟨x⟩⟩ := a
  obtain ⟨⟨y⟩⟩ := b
  by_cases h : x = y
  · subst h
    rw [beq_self_eq_true, beq_self_eq_true]
  · have h1 : (x == y) = false := by simpa using h
    rw [h1]
    symm
    rw [beq_eq_false_iff_ne]
    intro e
    injection e with e
    injection e with e
    exact h e
theorem briefs_ok_all : ∀ {pre l : List BriefT}, briefsFrom pre l = true → ∀ b ∈ l, briefOk b = true
  | _, [], _, b, hb => by cases hb
  | pre, a :: r, h, b, hb => by
    rw [briefsFrom, Bool.and_eq_true, Bool.and_eq_true] at h
    rcases List.mem_cons.1 hb with rfl | hb
    · exact h.1.2
    · exact briefs_ok_all h.2 b hb
theorem briefs_pre : ∀ {l m : List BriefT} {pre : List BriefT}, briefsFrom pre (l ++ m) = true → briefsFrom pre l = true
  | [], _, _, _ => rfl
  | a :: r, m, pre, h => by
    rw [List.cons_append, briefsFrom, Bool.and_eq_true] at h
    rw [briefsFrom, Bool.and_eq_true]
    exact ⟨h.1, briefs_pre h.2⟩
theorem briefs_snoc_no {l : List BriefT} {b : BriefT} (h : briefsOk l = false) : briefsOk (l ++ [b]) = false := by
  cases h2 : briefsOk (l ++ [b]) with
  | false => rfl
  | true =>
    exfalso
    unfold briefsOk at h h2
    rw [Bool.and_eq_true, decide_eq_true_eq, List.length_append] at h2
    rw [briefs_pre h2.2, decide_eq_true (by omega)] at h
    cases h
/-- BriefsAdd. -/
def addB (l : List BriefT) (b : BriefT) : Option (List BriefT) := if briefsOk (l ++ [b]) then some (l ++ [b]) else none
/-! The ways on from a place of a speech. -/
structure Tok where
  k : Int
  wd : Nat
  co : Nat
instance : Inhabited Tok := ⟨⟨0, 0, 0⟩⟩
/-- The words of the brief stand ahead. -/
def ahead (b : BriefT) (ws : List ByteArray) : Bool := decide (b.2.length ≤ ws.length) && eqD (ws.take b.2.length) b.2
def toks : Nat → List BriefT → List ByteArray → List Tok
  | _, [], ws => [⟨-1, 1, (gt ws 0).size⟩]
  | i, b :: r, ws => if ahead b ws then ⟨i, b.2.length, b.1.size⟩ :: toks (i + 1) r ws else toks (i + 1) r ws
/-- One more way: the first one of the least weight is kept. -/
def stepT (wt : Tok → Int) (rest : List Int) (s : Tok × Int) (t : Tok) : Tok × Int :=
  if s.1.wd = 0 ∨ wt t + gt rest (t.wd - 1) < s.2 then (t, wt t + gt rest (t.wd - 1)) else s
def least (wt : Tok → Int) (bs : List BriefT) : List ByteArray → List Tok × List Int
  | [] => ([], [0])
  | w :: ws => ((((toks 0 bs (w :: ws)).foldl (stepT wt (least wt bs ws).2) (⟨0, 0, 0⟩, 0)).1) :: (least wt bs ws).1, (((toks 0 bs (w :: ws)).foldl (stepT wt (least wt bs ws).2) (⟨0, 0, 0⟩, 0)).2) :: (least wt bs ws).2)
/-- The reference's costs. -/
def costs (a c : Int) (bs : List BriefT) : List ByteArray → List Int
  | [] => [0]
  | w :: ws => (bs.foldl (fun m b => if ahead b (w :: ws) then min m (gt (costs a c bs ws) (b.2.length - 1) + a * b.1.size + c) else m) (gt (costs a c bs ws) 0 + a * w.size + c)) :: costs a c bs ws
theorem least_len (wt : Tok → Int) (bs : List BriefT) : ∀ ws, (least wt bs ws).1.length = ws.length ∧ (least wt bs ws).2.length = ws.length + 1
  | [] => ⟨rfl, rfl⟩
  | w :: ws => by
    have := least_len wt bs ws
    simp [least, this]
theorem costs_len (a c : Int) (bs : List BriefT) : ∀ ws, (costs a c bs ws).length = ws.length + 1
  | [] => rfl
  | w :: ws => by
    have := costs_len a c bs ws
    simp [costs, this]
theorem toks_wd : ∀ (i : Nat) (bs : List BriefT) (ws : List ByteArray), (∀ b ∈ bs, 1 ≤ b.2.length) → ∀ t ∈ toks i bs ws, 1 ≤ t.wd
  | i, [], ws, _, t, ht => by
    rw [toks, List.mem_singleton] at ht
    subst ht
    exact Nat.le_refl _
  | i, b :: r, ws, h, t, ht => by
    rw [toks] at ht
    have hr := toks_wd (i + 1) r ws fun x hx => h x (List.mem_cons_of_mem _ hx)
    split at ht
    · rcases List.mem_cons.1 ht with rfl | ht
      · exact h b (List.mem_cons_self ..)
      · exact hr t ht
    · exact hr t ht
/-- What the choice weighs: the least of all. -/
theorem fold_min (wt : Tok → Int) (rest : List Int) : ∀ (l : List Tok) (s : Tok × Int), (∀ t ∈ l, 1 ≤ t.wd) → 1 ≤ s.1.wd → (l.foldl (stepT wt rest) s).2 = l.foldl (fun m t => min m (wt t + gt rest (t.wd - 1))) s.2 ∧ 1 ≤ (l.foldl (stepT wt rest) s).1.wd
  | [], s, _, hs => ⟨rfl, hs⟩
  | t :: l, s, h, hs => by
    rw [List.foldl_cons, List.foldl_cons]
    have h1 : (stepT wt rest s t).2 = min s.2 (wt t + gt rest (t.wd - 1)) ∧ 1 ≤ (stepT wt rest s t).1.wd := by
      unfold stepT
      split
      · rename_i h0
        have := h t (List.mem_cons_self ..)
        refine ⟨?_, this⟩
        show _ = _
        omega
      · rename_i h0
        refine ⟨?_, hs⟩
        omega
    have := fold_min wt rest l (stepT wt rest s t) (fun x hx => h x (List.mem_cons_of_mem _ hx)) h1.2
    rw [h1.1] at this
    exact this
theorem foldl_min_comm (l : List Int) : ∀ m x : Int, l.foldl min (min m x) = min (l.foldl min m) x := by
  induction l with
  | nil => intro m x; rfl
  | cons y l ih =>
    intro m x
    rw [List.foldl_cons, List.foldl_cons, ← ih]
    congr 1
    omega
/-- The least weight, as the reference reckons it. -/
theorem toks_min (wt : Tok → Int) (rest : List Int) (ws : List ByteArray) (bs : List BriefT) (hb : ∀ b ∈ bs, 1 ≤ b.2.length) (i : Nat) (W : BriefT → Int) (hw : ∀ i (b : BriefT), wt ⟨i, b.2.length, b.1.size⟩ = W b) (m : Int) :
    (toks i bs ws).foldl (fun m t => min m (wt t + gt rest (t.wd - 1))) m = min (bs.foldl (fun m b => if ahead b ws then min m (W b + gt rest (b.2.length - 1)) else m) m) (wt ⟨-1, 1, (gt ws 0).size⟩ + gt rest 0) := by
  induction bs generalizing i m with
  | nil => rfl
  | cons b r ih =>
    have hr := fun x hx => hb x (List.mem_cons_of_mem _ hx)
    rw [toks, List.foldl_cons]
    split
    · rw [List.foldl_cons, ih hr, hw]
    · rw [ih hr]
theorem foldl_min_le (l : List Int) : ∀ m : Int, l.foldl min m ≤ m ∧ ∀ x ∈ l, l.foldl min m ≤ x := by
  induction l with
  | nil => intro m; exact ⟨Int.le_refl _, fun x hx => by cases hx⟩
  | cons y l ih =>
    intro m
    obtain ⟨h1, h2⟩ := ih (min m y)
    rw [List.foldl_cons]
    refine ⟨by omega, fun x hx => ?_⟩
    rcases List.mem_cons.1 hx with rfl | hx
    · omega
    · exact h2 x hx
theorem toks_last : ∀ (i : Nat) (bs : List BriefT) (ws : List ByteArray), (⟨-1, 1, (gt ws 0).size⟩ : Tok) ∈ toks i bs ws
  | _, [], _ => List.mem_cons_self ..
  | i, b :: r, ws => by
    rw [toks]
    split
    · exact List.mem_cons_of_mem _ (toks_last (i + 1) r ws)
    · exact toks_last (i + 1) r ws
theorem costs_le (rest : List Int) (ws : List ByteArray) (W : BriefT → Int) : ∀ (bs : List BriefT) (m : Int), bs.foldl (fun m b => if ahead b ws then min m (W b + gt rest (b.2.length - 1)) else m) m ≤ m
  | [], m => Int.le_refl _
  | b :: r, m => by
    rw [List.foldl_cons]
    split
    · have := costs_le rest ws W r (min m (W b + gt rest (b.2.length - 1)))
      omega
    · exact costs_le rest ws W r m
/-- The weights of the program are the costs of the reference. -/
theorem least_costs {a c : Int} {wt : Tok → Int} (hw : ∀ t : Tok, wt t = a * t.co + c) {bs : List BriefT} (hb : ∀ b ∈ bs, 1 ≤ b.2.length) : ∀ ws, (least wt bs ws).2 = costs a c bs ws
  | [] => rfl
  | w :: ws => by
    have ih := least_costs hw hb ws
    obtain ⟨R, hR⟩ : ∃ R, costs a c bs ws = R := ⟨_, rfl⟩
    rw [least, costs, ih, hR]
    show _ :: R = _ :: R
    congr 1
    have hm := toks_min wt R (w :: ws) bs hb 0 (fun b => a * b.1.size + c) (fun i b => hw _) (wt ⟨-1, 1, (gt (w :: ws) 0).size⟩ + gt R 0)
    have hwd := toks_wd 0 bs (w :: ws) hb
    have hlast := toks_last 0 bs (w :: ws)
    have hle := costs_le R (w :: ws) (fun b => a * b.1.size + c) bs (wt ⟨-1, 1, (gt (w :: ws) 0).size⟩ + gt R 0)
    have e1 : wt ⟨-1, 1, (gt (w :: ws) 0).size⟩ + gt R 0 = gt R 0 + a * w.size + c := by
      rw [hw]
      show a * (w.size : Int) + c + gt R 0 = _
      omega
    have e2 : ∀ m, bs.foldl (fun m b => if ahead b (w :: ws) then min m (gt R (b.2.length - 1) + a * b.1.size + c) else m) m = bs.foldl (fun m b => if ahead b (w :: ws) then min m (a * b.1.size + c + gt R (b.2.length - 1)) else m) m := by
      intro m
      congr 1
      funext m b
      rw [show gt R (b.2.length - 1) + a * b.1.size + c = a * b.1.size + c + gt R (b.2.length - 1) by omega]
    rw [e2, ← e1]
    cases ht : toks 0 bs (w :: ws) with
    | nil => rw [ht] at hlast; cases hlast
    | cons t l =>
      rw [ht] at hm hwd hlast
      rw [List.foldl_cons]
      have hs : stepT wt R (⟨0, 0, 0⟩, 0) t = (t, wt t + gt R (t.wd - 1)) := by unfold stepT; rw [if_pos (.inl rfl)]
      rw [hs, (fold_min wt R l _ (fun x hx => hwd x (List.mem_cons_of_mem _ hx)) (hwd t (List.mem_cons_self ..))).1]
      rw [List.foldl_cons] at hm
      have hf : ∀ (l : List Tok) (m : Int), l.foldl (fun m t => min m (wt t + gt R (t.wd - 1))) m = (l.map fun t => wt t + gt R (t.wd - 1)).foldl min m := fun l m => by rw [List.foldl_map]
      rw [hf] at hm ⊢
      show List.foldl min (wt t + gt R (t.wd - 1)) _ = _
      rw [Int.min_comm, foldl_min_comm] at hm
      have hx : List.foldl min (wt t + gt R (t.wd - 1)) (l.map fun t => wt t + gt R (t.wd - 1)) ≤ wt ⟨-1, 1, (gt (w :: ws) 0).size⟩ + gt R 0 := by
        rcases List.mem_cons.1 hlast with e | e
        · have := (foldl_min_le (l.map fun t => wt t + gt R (t.wd - 1)) (wt t + gt R (t.wd - 1))).1
          rw [← e] at this ⊢
          exact this
        · exact (foldl_min_le (l.map fun t => wt t + gt R (t.wd - 1)) (wt t + gt R (t.wd - 1))).2 _ (List.mem_map.2 ⟨_, e, rfl⟩)
      omega
end Go.Proofs.Ytigemahbopligaa
