/- The best copy of a speech: the program's way and the reference's. No program in sight. -/
import Derived.Test.YthijnojefeeaoaaBriefPure
namespace Go.Proofs.Ythijnojefeeaoaa
abbrev WayT : Type := Option BriefT
def wayW (a c : Int) (ws : List ByteArray) : WayT → Int
  | none => a * (gt ws 0).size + c
  | some b => a * b.1.size + c
def wayN : WayT → Nat
  | none => 1
  | some b => b.2.length
/-- The ways make a copy of the speech. -/
def isCp (bs : List BriefT) : List WayT → List ByteArray → Prop
  | [], ws => ws = []
  | none :: r, ws => ws ≠ [] ∧ isCp bs r (ws.drop 1)
  | some b :: r, ws => b ∈ bs ∧ ws ≠ [] ∧ ahead b ws = true ∧ isCp bs r (ws.drop b.2.length)
def cpW (a c : Int) : List WayT → List ByteArray → Int
  | [], _ => 0
  | x :: r, ws => wayW a c ws x + cpW a c r (ws.drop (wayN x))
def cpT : List WayT → List ByteArray → List ByteArray
  | [], _ => []
  | none :: r, ws => gt ws 0 :: cpT r (ws.drop 1)
  | some b :: r, ws => b.1 :: cpT r (ws.drop b.2.length)
theorem ahead_len {b : BriefT} {ws : List ByteArray} (h : ahead b ws = true) : b.2.length ≤ ws.length := by
  unfold ahead at h
  rw [Bool.and_eq_true, decide_eq_true_eq] at h
  exact h.1
theorem gt_cons {α : Type} [Inhabited α] (x : α) (l : List α) (k : Nat) : gt (x :: l) (k + 1) = gt l k := by simp [gt]
theorem gt_zero {α : Type} [Inhabited α] (x : α) (l : List α) : gt (x :: l) 0 = x := rfl
theorem costs_drop {a c : Int} {bs : List BriefT} : ∀ {ws : List ByteArray} {k : Nat}, k ≤ ws.length → gt (costs a c bs ws) k = gt (costs a c bs (ws.drop k)) 0
  | _, 0, _ => rfl
  | [], k + 1, h => by simp at h
  | w :: ws, k + 1, h => by
    rw [costs, gt_cons, List.drop_succ_cons]
    exact costs_drop (by simpa using h)
theorem drop_pred {α : Type} (x : α) (l : List α) {n : Nat} (h : 1 ≤ n) : (x :: l).drop n = l.drop (n - 1) := by
  obtain ⟨m, rfl⟩ : ∃ m, n = m + 1 := ⟨n - 1, by omega⟩
  rw [List.drop_succ_cons, Nat.add_sub_cancel]
theorem minFold (q : BriefT → Bool) (v : BriefT → Int) : ∀ (bs : List BriefT) (m : Int), bs.foldl (fun m b => if q b then min m (v b) else m) m ≤ m ∧
    (∀ b ∈ bs, q b = true → bs.foldl (fun m b => if q b then min m (v b) else m) m ≤ v b) ∧
    (bs.foldl (fun m b => if q b then min m (v b) else m) m = m ∨ ∃ b ∈ bs, q b = true ∧ v b = bs.foldl (fun m b => if q b then min m (v b) else m) m)
  | [], m => ⟨Int.le_refl _, (fun b hb => by cases hb), .inl rfl⟩
  | b :: r, m => by
    rw [List.foldl_cons]
    cases hq : q b with
    | false =>
      rw [if_neg (by simp)]
      obtain ⟨h1, h2, h3⟩ := minFold q v r m
      refine ⟨h1, fun x hx hqx => ?_, ?_⟩
      · rcases List.mem_cons.1 hx with rfl | hx
        · rw [hq] at hqx
          cases hqx
        · exact h2 x hx hqx
      · rcases h3 with h3 | ⟨x, hx, hqx, hv⟩
        · exact .inl h3
        · exact .inr ⟨x, List.mem_cons_of_mem _ hx, hqx, hv⟩
    | true =>
      rw [if_pos rfl]
      obtain ⟨h1, h2, h3⟩ := minFold q v r (min m (v b))
      refine ⟨by omega, fun x hx hqx => ?_, ?_⟩
      · rcases List.mem_cons.1 hx with rfl | hx
        · omega
        · exact h2 x hx hqx
      · rcases h3 with h3 | ⟨x, hx, hqx, hv⟩
        · by_cases hle : m ≤ v b
          · left; omega
          · right
            exact ⟨b, List.mem_cons_self .., hq, by omega⟩
        · exact .inr ⟨x, List.mem_cons_of_mem _ hx, hqx, hv⟩
theorem costs_cons (a c : Int) (bs : List BriefT) (w : ByteArray) (ws : List ByteArray) : gt (costs a c bs (w :: ws)) 0 = bs.foldl (fun m b => if ahead b (w :: ws) then min m (gt (costs a c bs ws) (b.2.length - 1) + a * b.1.size + c) else m) (gt (costs a c bs ws) 0 + a * w.size + c) := by
  rw [costs, gt_zero]
/-- No copy costs less. -/
theorem cost_le {a c : Int} {bs : List BriefT} (hb : ∀ b ∈ bs, 1 ≤ b.2.length) : ∀ {p : List WayT} {ws : List ByteArray}, isCp bs p ws → gt (costs a c bs ws) 0 ≤ cpW a c p ws
  | [], ws, h => by
    have h' : ws = [] := h
    subst h'
    exact Int.le_refl _
  | none :: r, ws, h => by
    obtain ⟨h1, h2⟩ := h
    cases ws with
    | nil => exact absurd rfl h1
    | cons w ws =>
      have h3 := cost_le (a := a) (c := c) hb h2
      rw [List.drop_succ_cons, List.drop_zero] at h3
      have h4 := (minFold (fun b => ahead b (w :: ws)) (fun b => gt (costs a c bs ws) (b.2.length - 1) + a * b.1.size + c) bs (gt (costs a c bs ws) 0 + a * w.size + c)).1
      rw [costs_cons]
      show _ ≤ (a * w.size + c) + cpW a c r ((w :: ws).drop 1)
      rw [List.drop_succ_cons, List.drop_zero]
      omega
  | some b :: r, ws, h => by
    obtain ⟨h0, h1, h2, h3⟩ := h
    cases ws with
    | nil => exact absurd rfl h1
    | cons w ws =>
      have h4 := cost_le (a := a) (c := c) hb h3
      have hl := ahead_len h2
      rw [List.length_cons] at hl
      have hb1 := hb b h0
      have h5 := (minFold (fun b => ahead b (w :: ws)) (fun b => gt (costs a c bs ws) (b.2.length - 1) + a * b.1.size + c) bs (gt (costs a c bs ws) 0 + a * w.size + c)).2.1 b h0 h2
      rw [costs_cons]
      show _ ≤ (a * b.1.size + c) + cpW a c r ((w :: ws).drop b.2.length)
      rw [drop_pred _ _ hb1] at h4 ⊢
      rw [costs_drop (k := b.2.length - 1) (by omega)] at h5
      omega
/-- The reference's choice at a place: the first brief that reaches the least cost. -/
def pickB (a c : Int) (bs : List BriefT) (ws : List ByteArray) : Option BriefT :=
  bs.find? fun b => ahead b ws && (gt (costs a c bs ws) b.2.length + (a * b.1.size + c) == gt (costs a c bs ws) 0)
/-- The best copy, as the reference finds it. -/
def bestP (a c : Int) (bs : List BriefT) : List ByteArray → List WayT
  | [] => []
  | w :: r => pickB a c bs (w :: r) :: bestP a c bs (r.drop (wayN (pickB a c bs (w :: r)) - 1))
termination_by l => l.length
decreasing_by simp; omega
theorem pick_some {a c : Int} {bs : List BriefT} {ws : List ByteArray} {b : BriefT} (h : pickB a c bs ws = some b) : b ∈ bs ∧ ahead b ws = true ∧ gt (costs a c bs ws) b.2.length + (a * b.1.size + c) = gt (costs a c bs ws) 0 := by
  have h1 := List.find?_some h
  simp only [Bool.and_eq_true, beq_iff_eq] at h1
  exact ⟨List.mem_of_find?_eq_some h, h1.1, h1.2⟩
theorem pick_none {a c : Int} {bs : List BriefT} {w : ByteArray} {ws : List ByteArray} (hb : ∀ b ∈ bs, 1 ≤ b.2.length) (h : pickB a c bs (w :: ws) = none) : gt (costs a c bs (w :: ws)) 0 = gt (costs a c bs ws) 0 + a * w.size + c := by
  have h1 := List.find?_eq_none.1 h
  rw [costs_cons]
  rcases (minFold (fun b => ahead b (w :: ws)) (fun b => gt (costs a c bs ws) (b.2.length - 1) + a * b.1.size + c) bs (gt (costs a c bs ws) 0 + a * w.size + c)).2.2 with e | ⟨b, hm, hq, hv⟩
  · exact e
  · exfalso
    have h2 := h1 b hm
    have hb1 := hb b hm
    apply h2
    rw [costs_cons, ← hv, costs]
    obtain ⟨m, hm⟩ : ∃ m, b.2.length = m + 1 := ⟨b.2.length - 1, by omega⟩
    rw [hm, gt_cons, Nat.add_sub_cancel, Bool.and_eq_true, beq_iff_eq]
    exact ⟨hq, by omega⟩
/-- The best copy is one, and costs least. -/
theorem best_cp {a c : Int} {bs : List BriefT} (hb : ∀ b ∈ bs, 1 ≤ b.2.length) : ∀ (n : Nat) (ws : List ByteArray), ws.length ≤ n → isCp bs (bestP a c bs ws) ws ∧ cpW a c (bestP a c bs ws) ws = gt (costs a c bs ws) 0
  | _, [], _ => by rw [bestP]; exact ⟨rfl, rfl⟩
  | 0, w :: ws, h => by simp at h
  | n + 1, w :: ws, h => by
    rw [List.length_cons] at h
    rw [bestP]
    cases hp : pickB a c bs (w :: ws) with
    | none =>
      obtain ⟨h1, h2⟩ := best_cp hb n ws (by omega)
      have h3 := pick_none hb hp
      refine ⟨⟨List.cons_ne_nil _ _, ?_⟩, ?_⟩
      · exact h1
      · show (a * w.size + c) + cpW a c (bestP a c bs ws) ws = _
        rw [h2, h3]
        omega
    | some b =>
      obtain ⟨h4, h5, h6⟩ := pick_some hp
      have hb1 := hb b h4
      have hl := ahead_len h5
      obtain ⟨h1, h2⟩ := best_cp hb n (ws.drop (b.2.length - 1)) (by rw [List.length_drop]; omega)
      rw [costs_drop hl, drop_pred _ _ hb1] at h6
      refine ⟨⟨h4, List.cons_ne_nil _ _, h5, ?_⟩, ?_⟩
      · rw [drop_pred _ _ hb1]
        exact h1
      · show (a * b.1.size + c) + cpW a c (bestP a c bs (ws.drop (b.2.length - 1))) ((w :: ws).drop b.2.length) = _
        rw [drop_pred _ _ hb1, h2]
        omega
/-! The program's way. -/
def follow : List Tok → List Tok
  | [] => []
  | t :: r => t :: follow (r.drop (t.wd - 1))
termination_by l => l.length
decreasing_by simp; omega
def wayOf (bs : List BriefT) (t : Tok) : WayT := if t.k = -1 then none else some (gt bs t.k.toNat)
def tokOk (bs : List BriefT) (t : Tok) : Prop := (t.k = -1 ∨ (0 ≤ t.k ∧ t.k < bs.length)) ∧ t.wd = wayN (wayOf bs t)
/-- What the tokens say, place by place. -/
def tokCp (bs : List BriefT) : List Tok → List ByteArray → Prop
  | [], ws => ws = []
  | t :: r, ws => ws ≠ [] ∧ tokOk bs t ∧ 1 ≤ t.wd ∧ t.wd ≤ ws.length ∧ tokCp bs r (ws.drop t.wd)
def textsOf (bs : List BriefT) : List Tok → List ByteArray → List ByteArray
  | [], _ => []
  | t :: r, ws => (if t.k = -1 then gt ws 0 else (gt bs t.k.toNat).1) :: textsOf bs r (ws.drop t.wd)
/-- The first one of the least weight. -/
theorem fold_find (W : Tok → Int) : ∀ (l p : List Tok) (s : Tok × Int), p.find? (fun t => W t == s.2) = some s.1 → (∀ t ∈ p, s.2 ≤ W t) → (∀ t ∈ l, 1 ≤ t.wd) → 1 ≤ s.1.wd →
    (p ++ l).find? (fun t => W t == (l.foldl (fun s t => if s.1.wd = 0 ∨ W t < s.2 then (t, W t) else s) s).2) = some (l.foldl (fun s t => if s.1.wd = 0 ∨ W t < s.2 then (t, W t) else s) s).1
  | [], p, s, h1, _, _, _ => by rw [List.append_nil]; exact h1
  | t :: l, p, s, h1, h2, h3, h4 => by
    have ht := h3 t (List.mem_cons_self ..)
    have hl := fun x hx => h3 x (List.mem_cons_of_mem _ hx)
    rw [List.foldl_cons, show p ++ t :: l = (p ++ [t]) ++ l by simp]
    by_cases hlt : W t < s.2
    · rw [if_pos (.inr hlt)]
      refine fold_find W l (p ++ [t]) (t, W t) ?_ (fun x hx => ?_) hl ht
      · rw [List.find?_append, List.find?_eq_none.2 (fun x hx => by
          have := h2 x hx
          simp only [beq_iff_eq]
          omega)]
        simp
      · rcases List.mem_append.1 hx with hx | hx
        · have := h2 x hx
          show W t ≤ _
          omega
        · rw [List.mem_singleton] at hx
          subst hx
          exact Int.le_refl _
    · rw [if_neg (by omega)]
      refine fold_find W l (p ++ [t]) s ?_ (fun x hx => ?_) hl h4
      · rw [List.find?_append, h1]
        rfl
      · rcases List.mem_append.1 hx with hx | hx
        · exact h2 x hx
        · rw [List.mem_singleton] at hx
          subst hx
          omega
/-- Which token of a place is the first to have a quality that hangs on its width and its cost alone. -/
theorem toks_find (q : Nat → Nat → Bool) (ws : List ByteArray) (all : List BriefT) : ∀ (bs pre : List BriefT), pre ++ bs = all →
    match bs.find? (fun b => ahead b ws && q b.2.length b.1.size) with
    | none => (toks pre.length bs ws).find? (fun t => q t.wd t.co) = if q 1 (gt ws 0).size then some ⟨-1, 1, (gt ws 0).size⟩ else none
    | some b => ∃ j : Nat, j < all.length ∧ gt all j = b ∧ (toks pre.length bs ws).find? (fun t => q t.wd t.co) = some ⟨j, b.2.length, b.1.size⟩
  | [], pre, h => by
    show (toks pre.length [] ws).find? _ = _
    rw [toks, List.find?_cons, List.find?_nil]
    split <;> simp_all
  | b :: r, pre, h => by
    have ih := toks_find q ws all r (pre ++ [b]) (by rw [← h]; simp)
    rw [List.length_append, List.length_singleton] at ih
    rw [List.find?_cons]
    by_cases ha : ahead b ws = true
    · rw [toks, if_pos ha, List.find?_cons, ha, Bool.true_and]
      cases hq : q b.2.length b.1.size with
      | true =>
        refine ⟨pre.length, by rw [← h]; simp, ?_, rfl⟩
        rw [← h]
        unfold gt
        rw [List.getD_eq_getElem?_getD, List.getElem?_append_right (Nat.le_refl _), Nat.sub_self]
        rfl
      | false => exact ih
    · have ha' : ahead b ws = false := by simpa using ha
      rw [toks, if_neg ha, ha', Bool.false_and]
      exact ih
theorem find_congr {α : Type} {p q : α → Bool} : ∀ {l : List α}, (∀ x ∈ l, p x = q x) → l.find? p = l.find? q
  | [], _ => rfl
  | x :: l, h => by rw [List.find?_cons, List.find?_cons, h x (List.mem_cons_self ..), find_congr fun y hy => h y (List.mem_cons_of_mem _ hy)]
/-- The token that the program keeps is the reference's choice. -/
theorem first_way {a c : Int} {wt : Tok → Int} (hw : ∀ t : Tok, wt t = a * t.co + c) {bs : List BriefT} (hb : ∀ b ∈ bs, 1 ≤ b.2.length) (w : ByteArray) (ws : List ByteArray) :
    match pickB a c bs (w :: ws) with
    | none => gt (least wt bs (w :: ws)).1 0 = ⟨-1, 1, w.size⟩
    | some b => ∃ j : Nat, j < bs.length ∧ gt bs j = b ∧ gt (least wt bs (w :: ws)).1 0 = ⟨j, b.2.length, b.1.size⟩ := by
  have hlc := least_costs hw hb (w :: ws)
  have hlc0 := least_costs hw hb ws
  obtain ⟨R, hR⟩ : ∃ R, (least wt bs ws).2 = R := ⟨_, rfl⟩
  have hm : ((toks 0 bs (w :: ws)).foldl (stepT wt R) (⟨0, 0, 0⟩, 0)).2 = gt (costs a c bs (w :: ws)) 0 := by
    rw [← hlc, least, hR, gt_zero]
  have hf : gt (least wt bs (w :: ws)).1 0 = ((toks 0 bs (w :: ws)).foldl (stepT wt R) (⟨0, 0, 0⟩, 0)).1 := by
    rw [least, hR, gt_zero]
  have hwd := toks_wd 0 bs (w :: ws) hb
  have hlast := toks_last 0 bs (w :: ws)
  obtain ⟨W, hW⟩ : ∃ W : Tok → Int, W = fun t => wt t + gt R (t.wd - 1) := ⟨_, rfl⟩
  have hst : stepT wt R = fun s t => if s.1.wd = 0 ∨ W t < s.2 then (t, W t) else s := by
    subst hW
    rfl
  have hfind : (toks 0 bs (w :: ws)).find? (fun t => W t == ((toks 0 bs (w :: ws)).foldl (stepT wt R) (⟨0, 0, 0⟩, 0)).2) = some ((toks 0 bs (w :: ws)).foldl (stepT wt R) (⟨0, 0, 0⟩, 0)).1 := by
    rw [hst]
    cases ht : toks 0 bs (w :: ws) with
    | nil => rw [ht] at hlast; cases hlast
    | cons t l =>
      rw [ht] at hwd
      rw [List.foldl_cons, if_pos (.inl rfl)]
      exact fold_find W l [t] (t, W t) (by simp) (fun x hx => by rw [List.mem_singleton] at hx; subst hx; exact Int.le_refl _) (fun x hx => hwd x (List.mem_cons_of_mem _ hx)) (hwd t (List.mem_cons_self ..))
  rw [hm, ← hf] at hfind
  have hq : (fun t : Tok => W t == gt (costs a c bs (w :: ws)) 0) = fun t => (fun n s : Nat => (a * s + c + gt R (n - 1) == gt (costs a c bs (w :: ws)) 0)) t.wd t.co := by
    funext t
    rw [hW]
    show (wt t + gt R (t.wd - 1) == _) = _
    rw [hw]
  rw [hq] at hfind
  have hp : pickB a c bs (w :: ws) = bs.find? fun b => ahead b (w :: ws) && (fun n s : Nat => (a * s + c + gt R (n - 1) == gt (costs a c bs (w :: ws)) 0)) b.2.length b.1.size := by
    unfold pickB
    refine find_congr fun b hm => ?_
    have hb1 := hb b hm
    obtain ⟨m, hm⟩ : ∃ m, b.2.length = m + 1 := ⟨b.2.length - 1, by omega⟩
    have e : gt (costs a c bs (w :: ws)) b.2.length = gt R (b.2.length - 1) := by
      rw [hm, costs, gt_cons, Nat.add_sub_cancel, ← hlc0, hR]
    rw [e, Int.add_comm]
  have hk := toks_find (fun n s : Nat => (a * s + c + gt R (n - 1) == gt (costs a c bs (w :: ws)) 0)) (w :: ws) bs bs [] rfl
  rw [← hp] at hk
  rw [show ([] : List BriefT).length = 0 from rfl, hfind] at hk
  cases hpk : pickB a c bs (w :: ws) with
  | none =>
    rw [hpk] at hk
    dsimp only at hk ⊢
    split at hk
    · injection hk
    · cases hk
  | some b =>
    rw [hpk] at hk
    dsimp only at hk ⊢
    obtain ⟨j, h1, h2, h3⟩ := hk
    injection h3 with h3
    exact ⟨j, h1, h2, h3⟩
theorem least_drop {wt : Tok → Int} {bs : List BriefT} : ∀ (ws : List ByteArray) (k : Nat), (least wt bs ws).1.drop k = (least wt bs (ws.drop k)).1
  | _, 0 => rfl
  | [], k + 1 => rfl
  | w :: ws, k + 1 => by
    rw [least, List.drop_succ_cons, List.drop_succ_cons]
    exact least_drop ws k
def copyT (wt : Tok → Int) (bs : List BriefT) (ws : List ByteArray) : List Tok := follow (least wt bs ws).1
theorem copy_way {a c : Int} {wt : Tok → Int} (hw : ∀ t : Tok, wt t = a * t.co + c) {bs : List BriefT} (hb : ∀ b ∈ bs, 1 ≤ b.2.length) : ∀ (n : Nat) (ws : List ByteArray), ws.length ≤ n →
    (copyT wt bs ws).map (wayOf bs) = bestP a c bs ws ∧ tokCp bs (copyT wt bs ws) ws ∧ textsOf bs (copyT wt bs ws) ws = cpT (bestP a c bs ws) ws
  | _, [], _ => by
    unfold copyT
    rw [least, follow, bestP]
    exact ⟨rfl, rfl, rfl⟩
  | 0, w :: ws, h => by simp at h
  | n + 1, w :: ws, h => by
    rw [List.length_cons] at h
    have hfw := first_way hw hb w ws
    unfold copyT
    rw [bestP]
    have hc : follow (least wt bs (w :: ws)).1 = gt (least wt bs (w :: ws)).1 0 :: copyT wt bs (ws.drop ((gt (least wt bs (w :: ws)).1 0).wd - 1)) := by
      unfold copyT
      rw [least, follow, gt_zero, least_drop]
    rw [hc]
    cases hp : pickB a c bs (w :: ws) with
    | none =>
      rw [hp] at hfw
      dsimp only at hfw
      rw [hfw]
      obtain ⟨h1, h2, h3⟩ := copy_way hw hb n ws (by omega)
      refine ⟨?_, ⟨List.cons_ne_nil _ _, ⟨.inl rfl, rfl⟩, Nat.le_refl _, ?_, ?_⟩, ?_⟩
      · show none :: (copyT wt bs ws).map (wayOf bs) = none :: bestP a c bs ws
        rw [h1]
      · show 1 ≤ ws.length + 1
        omega
      · exact h2
      · show w :: textsOf bs (copyT wt bs ws) ws = w :: cpT (bestP a c bs ws) ws
        rw [h3]
    | some b =>
      rw [hp] at hfw
      dsimp only at hfw
      obtain ⟨j, hj, hg, hfw⟩ := hfw
      rw [hfw]
      obtain ⟨h4, h5, h6⟩ := pick_some hp
      have hb1 := hb b h4
      have hl := ahead_len h5
      obtain ⟨h1, h2, h3⟩ := copy_way hw hb n (ws.drop (b.2.length - 1)) (by rw [List.length_drop]; omega)
      have hwo : wayOf bs ⟨j, b.2.length, b.1.size⟩ = some b := by
        unfold wayOf
        rw [if_neg (by show ¬ (j : Int) = -1; omega)]
        show some (gt bs j) = _
        rw [hg]
      refine ⟨?_, ⟨List.cons_ne_nil _ _, ⟨.inr ⟨by show (0 : Int) ≤ (j : Int); omega, by show (j : Int) < _; omega⟩, by rw [hwo]; rfl⟩, hb1, hl, ?_⟩, ?_⟩
      · show wayOf bs _ :: (copyT wt bs (ws.drop (b.2.length - 1))).map (wayOf bs) = some b :: bestP a c bs (ws.drop (b.2.length - 1))
        rw [h1, hwo]
      · show tokCp bs _ ((w :: ws).drop b.2.length)
        rw [drop_pred _ _ hb1]
        exact h2
      · show (if (j : Int) = -1 then _ else (gt bs j).1) :: textsOf bs (copyT wt bs (ws.drop (b.2.length - 1))) ((w :: ws).drop b.2.length) = b.1 :: cpT (bestP a c bs (ws.drop (b.2.length - 1))) ((w :: ws).drop b.2.length)
        rw [drop_pred _ _ hb1, h3, if_neg (by omega), hg]
end Go.Proofs.Ythijnojefeeaoaa
