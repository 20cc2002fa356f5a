/- Words, systems and dictionaries in plain Lean. No program in sight. -/
import Derived.Test.YtigemahbopligaaBriefPure
namespace Go.Proofs.Ytigemahbopligaa
abbrev SignT : Type := ByteArray × (Int × Int)
/-- a, e, i, o, u. -/
def vowB (c : UInt8) : Bool := c.toNat == 97 || c.toNat == 101 || c.toNat == 105 || c.toNat == 111 || c.toNat == 117
/-- What is kept of a word, the letter ahead known. -/
def bareFrom : Option UInt8 → List UInt8 → List UInt8
  | _, [] => []
  | p, c :: r => if vowB c = true ∨ p = some c then bareFrom (some c) r else c :: bareFrom (some c) r
def bareL (s : ByteArray) : List UInt8 := if wordOk s then bareFrom none s.data.toList else []
theorem bareFrom_len : ∀ (l : List UInt8) (p : Option UInt8), (bareFrom p l).length ≤ l.length
  | [], _ => Nat.le_refl _
  | c :: r, p => by
    unfold bareFrom
    have := bareFrom_len r (some c)
    split
    · simp only [List.length_cons]; omega
    · simp only [List.length_cons]; omega
theorem bareL_len (s : ByteArray) : (bareL s).length ≤ 12 := by
  unfold bareL
  split
  · next h =>
    unfold wordOk at h
    rw [Bool.and_eq_true, inB_yes] at h
    have := bareFrom_len s.data.toList none
    have e : s.size = s.data.toList.length := rfl
    omega
  · exact Nat.zero_le _
/-- One small consonant. -/
def letterB (c : UInt8) : Bool := (decide (97 ≤ c.toNat) && decide (c.toNat ≤ 122)) && !vowB c
def letterOk (s : ByteArray) : Bool := match s.data.toList with
  | [c] => letterB c
  | _ => false
def signOk (x : SignT) : Bool := letterOk x.1 && strokeOk x.2
def clash (a x : SignT) : Bool := eqD a.1 x.1 || eqD a.2 x.2
def sysFrom : List SignT → List SignT → Bool
  | _, [] => true
  | pre, x :: r => (signOk x && !(pre.any fun a => clash a x)) && sysFrom (pre ++ [x]) r
def sysOk (l : List SignT) : Bool := decide (l.length ≤ 21) && sysFrom [] l
theorem sys_all : ∀ {pre l : List SignT}, sysFrom pre l = true → ∀ x ∈ l, signOk x = true
  | _, [], _, x, hx => by cases hx
  | pre, a :: r, h, x, hx => by
    rw [sysFrom, Bool.and_eq_true, Bool.and_eq_true] at h
    rcases List.mem_cons.1 hx with rfl | hx
    · exact h.1.1
    · exact sys_all h.2 x hx
/-- The stroke of a letter. -/
def strokeAt : List SignT → UInt8 → Option (Int × Int)
  | [], _ => none
  | x :: r, c => if x.1.data.toList = [c] then some x.2 else strokeAt r c
def strokesOf (sys : List SignT) : List UInt8 → Option (List (Int × Int))
  | [] => some []
  | c :: r => match strokeAt sys c with
    | none => none
    | some p => (strokesOf sys r).map (p :: ·)
theorem strokesOf_len {sys : List SignT} : ∀ {l : List UInt8} {o : List (Int × Int)}, strokesOf sys l = some o → o.length = l.length
  | [], o, h => by injection h with h; subst h; rfl
  | c :: r, o, h => by
    unfold strokesOf at h
    split at h
    · cases h
    · cases hr : strokesOf sys r with
      | none => rw [hr] at h; cases h
      | some q =>
        rw [hr] at h
        injection h with h
        subst h
        have := strokesOf_len hr
        simp only [List.length_cons, this]
/-- The outline of a word in a system that is one. -/
def outlineW (sys : List SignT) (s : ByteArray) : Option (List (Int × Int)) :=
  if wordOk s then match strokesOf sys (bareL s) with
    | none => none
    | some o => if outOk o then some o else none
  else none
theorem outlineW_ok {sys : List SignT} {s : ByteArray} {o : List (Int × Int)} (h : outlineW sys s = some o) : outOk o = true := by
  unfold outlineW at h
  split at h
  · split at h
    · cases h
    · split at h
      · next h2 => injection h with h; subst h; exact h2
      · cases h
  · cases h
def dictFrom : List ByteArray → List ByteArray → Bool
  | _, [] => true
  | pre, x :: r => (wordOk x && !(pre.any fun a => eqD a x)) && dictFrom (pre ++ [x]) r
def dictOk (l : List ByteArray) : Bool := decide (l.length ≤ 20) && dictFrom [] l
def lenW (sys : List SignT) (s : ByteArray) : Int := match outlineW sys s with
  | some o => lenOf o
  | none => 0
theorem lenOf_bd' {o : List (Int × Int)} (h : outOk o = true) : 0 ≤ lenOf o ∧ lenOf o ≤ 24 := by
  obtain ⟨hl, h8⟩ := outOk_yes h
  have := sumSz_bd (linked_ok hl)
  unfold lenOf
  rw [if_pos h]
  omega
theorem lenW_bd (sys : List SignT) (s : ByteArray) : 0 ≤ lenW sys s ∧ lenW sys s ≤ 24 := by
  unfold lenW
  split
  · next o h => exact lenOf_bd' (outlineW_ok h)
  · omega
def dictSum (sys : List SignT) : List ByteArray → Int
  | [] => 0
  | x :: r => lenW sys x + dictSum sys r
def dictV (sys : List SignT) (ws : List ByteArray) : Int := if sysOk sys && dictOk ws then dictSum sys ws else -1
theorem dictSum_bd (sys : List SignT) : ∀ ws : List ByteArray, 0 ≤ dictSum sys ws ∧ dictSum sys ws ≤ 24 * ws.length
  | [] => by simp [dictSum]
  | x :: r => by
    have h1 := lenW_bd sys x
    have h2 := dictSum_bd sys r
    unfold dictSum
    simp only [List.length_cons]
    omega
theorem dictSum_app (sys : List SignT) : ∀ a b : List ByteArray, dictSum sys (a ++ b) = dictSum sys a + dictSum sys b
  | [], b => by simp [dictSum]
  | x :: r, b => by
    rw [List.cons_append, dictSum, dictSum, dictSum_app sys r b]
    omega
theorem dictSum_rev (sys : List SignT) : ∀ a : List ByteArray, dictSum sys a.reverse = dictSum sys a
  | [] => rfl
  | x :: r => by
    rw [List.reverse_cons, dictSum_app, dictSum_rev sys r]
    simp only [dictSum]
    omega
theorem dictFrom_iff : ∀ {l pre : List ByteArray}, dictFrom pre l = true ↔ (∀ x ∈ l, wordOk x = true) ∧ l.Nodup ∧ ∀ x ∈ l, x ∉ pre
  | [], pre => by simp [dictFrom]
  | a :: r, pre => by
    have hp : (pre.any fun b => eqD b a) = true ↔ a ∈ pre := by
      rw [List.any_eq_true]
      constructor
      · rintro ⟨b, hb, e⟩
        rw [eqD_iff] at e
        exact e ▸ hb
      · intro h
        exact ⟨a, h, eqD_self a⟩
    rw [dictFrom, Bool.and_eq_true, Bool.and_eq_true, Bool.not_eq_true', dictFrom_iff, List.nodup_cons]
    have hp2 : (pre.any fun b => eqD b a) = false ↔ a ∉ pre := by rw [← hp]; simp
    rw [hp2]
    constructor
    · rintro ⟨⟨h1, h2⟩, h3, h4, h5⟩
      refine ⟨fun x hx => ?_, ⟨fun hm => ?_, h4⟩, fun x hx => ?_⟩
      · rcases List.mem_cons.1 hx with rfl | hx
        · exact h1
        · exact h3 x hx
      · exact h5 a hm (by simp)
      · rcases List.mem_cons.1 hx with rfl | hx
        · exact h2
        · intro hm
          exact h5 x hx (List.mem_append_left _ hm)
    · rintro ⟨h1, ⟨h2, h3⟩, h4⟩
      refine ⟨⟨h1 a (by simp), h4 a (by simp)⟩, fun x hx => h1 x (by simp [hx]), h3, fun x hx hm => ?_⟩
      rcases List.mem_append.1 hm with hm | hm
      · exact h4 x (by simp [hx]) hm
      · rw [List.mem_singleton] at hm
        subst hm
        exact h2 hx
theorem dictOk_iff {l : List ByteArray} : dictOk l = true ↔ l.length ≤ 20 ∧ (∀ x ∈ l, wordOk x = true) ∧ l.Nodup := by
  unfold dictOk
  rw [Bool.and_eq_true, decide_eq_true_eq, dictFrom_iff]
  simp
theorem dictOk_take {l : List ByteArray} (h : dictOk l = true) (k : Nat) : dictOk (l.take k) = true := by
  rw [dictOk_iff] at h ⊢
  refine ⟨Nat.le_trans (List.length_take_le' _ _) h.1, fun x hx => h.2.1 x (List.mem_of_mem_take hx), h.2.2.sublist (List.take_sublist _ _)⟩
theorem dictOk_drop {l : List ByteArray} (h : dictOk l = true) (k : Nat) : dictOk (l.drop k) = true := by
  rw [dictOk_iff] at h ⊢
  refine ⟨by rw [List.length_drop]; omega, fun x hx => h.2.1 x (List.mem_of_mem_drop hx), h.2.2.sublist (List.drop_sublist _ _)⟩
theorem dictOk_rev {l : List ByteArray} (h : dictOk l = true) : dictOk l.reverse = true := by
  rw [dictOk_iff] at h ⊢
  exact ⟨by rw [List.length_reverse]; exact h.1, fun x hx => h.2.1 x (List.mem_reverse.1 hx), (List.reverse_perm l).nodup_iff.2 h.2.2⟩
/-- The laws on lengths of dictionaries. -/
theorem dict_law {sys : List SignT} {ws : List ByteArray} (h : 0 ≤ dictV sys ws) (k : Nat) : dictV sys (ws.take k) + dictV sys (ws.drop k) = dictV sys ws ∧ dictV sys ws.reverse = dictV sys ws := by
  have hok : (sysOk sys && dictOk ws) = true := by
    cases hb : (sysOk sys && dictOk ws) with
    | true => rfl
    | false => unfold dictV at h; rw [hb] at h; simp at h
  rw [Bool.and_eq_true] at hok
  unfold dictV
  rw [hok.1, hok.2, dictOk_take hok.2, dictOk_drop hok.2, dictOk_rev hok.2]
  simp only [Bool.and_self, if_true, dictSum_rev, and_true]
  rw [← dictSum_app, List.take_append_drop]
/-! Steps, from a place on. -/
/-- The letter ahead of place k. -/
def prevB (l : List UInt8) : Nat → Option UInt8
  | 0 => none
  | k + 1 => some (gt l k)
theorem bare_drop {l : List UInt8} {k : Nat} (h : k < l.length) : bareFrom (prevB l k) (l.drop k) = if vowB (gt l k) = true ∨ prevB l k = some (gt l k) then bareFrom (prevB l (k + 1)) (l.drop (k + 1)) else gt l k :: bareFrom (prevB l (k + 1)) (l.drop (k + 1)) := by
  rw [drop_gt h, bareFrom]
  rfl
theorem sys_drop {l : List SignT} {k : Nat} (h : k < l.length) : sysFrom (l.take k) (l.drop k) = ((signOk (gt l k) && !((l.take k).any fun a => clash a (gt l k))) && sysFrom (l.take (k + 1)) (l.drop (k + 1))) := by
  rw [drop_gt h, take_gt h, sysFrom]
theorem dict_drop {l : List ByteArray} {k : Nat} (h : k < l.length) : dictFrom (l.take k) (l.drop k) = ((wordOk (gt l k) && !((l.take k).any fun a => eqD a (gt l k))) && dictFrom (l.take (k + 1)) (l.drop (k + 1))) := by
  rw [drop_gt h, take_gt h, dictFrom]
theorem any_drop {α : Type} [Inhabited α] {l : List α} {i k : Nat} (hk : k < i) (hi : i ≤ l.length) (p : α → Bool) : ((l.take i).drop k).any p = (p (gt l k) || ((l.take i).drop (k + 1)).any p) := by
  have h1 : k < (l.take i).length := by rw [List.length_take]; omega
  have h2 : gt (l.take i) k = gt l k := by simp [gt, hk]
  rw [drop_gt h1, h2, List.any_cons]
theorem letterOk_no {s : ByteArray} (h : s.size ≠ 1) : letterOk s = false := by
  unfold letterOk
  split
  · next c hc =>
    exfalso
    apply h
    show s.data.toList.length = 1
    rw [hc]
    rfl
  · rfl
theorem one_byte {s : ByteArray} (h : s.size = 1) : s.data.toList = [s[0]] := by
  have h2 : s.data.toList.length = 1 := h
  obtain ⟨⟨l⟩⟩ := s
  match l, h2 with
  | [c], _ => rfl
theorem letterOk_one {s : ByteArray} (h : s.size = 1) : letterOk s = letterB (s[0]) := by
  unfold letterOk
  rw [one_byte h]
theorem wordOk_one {s : ByteArray} (h : s.size = 1) : wordOk s = (decide (97 ≤ (s[0]).toNat) && decide ((s[0]).toNat ≤ 122)) := by
  have e : inB s.size 1 12 = true := inB_yes.2 (by omega)
  unfold wordOk bytesIn
  rw [e, one_byte h, Bool.true_and, List.all_cons, List.all_nil, Bool.and_true]
theorem letterOk_size {s : ByteArray} (h : letterOk s = true) : s.size = 1 := by
  cases Nat.decEq s.size 1 with
  | isTrue h1 => exact h1
  | isFalse h1 => rw [letterOk_no h1] at h; cases h
theorem str_ext {a b : ByteArray} (h : a.data.toList = b.data.toList) : a = b := by
  obtain ⟨⟨x⟩⟩ := a
  obtain ⟨⟨y⟩⟩ := b
  have : x = y := h
  rw [this]
theorem sys_pre : ∀ {pre l : List SignT}, sysFrom pre l = true → ∀ x ∈ l, ∀ a ∈ pre, clash a x = false
  | _, [], _, x, hx, _, _ => by cases hx
  | pre, y :: r, h, x, hx, a, ha => by
    rw [sysFrom, Bool.and_eq_true, Bool.and_eq_true, Bool.not_eq_true'] at h
    rcases List.mem_cons.1 hx with rfl | hx
    · cases hc : clash a x with
      | false => rfl
      | true =>
        have := (List.any_eq_true (p := fun a => clash a x)).2 ⟨a, ha, hc⟩
        rw [this] at h
        cases h.1.2
    · exact sys_pre h.2 x hx a (List.mem_append_left _ ha)
theorem strokeAt_mem : ∀ {pre l : List SignT}, sysFrom pre l = true → ∀ x ∈ l, ∀ c, x.1.data.toList = [c] → strokeAt l c = some x.2
  | _, [], _, x, hx, _, _ => by cases hx
  | pre, a :: r, h, x, hx, c, hc => by
    rw [sysFrom, Bool.and_eq_true] at h
    unfold strokeAt
    rcases List.mem_cons.1 hx with rfl | hx
    · rw [if_pos hc]
    · split
      · next ha =>
        have hp := sys_pre h.2 x hx a (by simp)
        unfold clash at hp
        rw [str_ext (ha.trans hc.symm), eqD_self] at hp
        cases hp
      · exact strokeAt_mem h.2 x hx c hc
theorem strokeAt_none : ∀ {l : List SignT} {c : UInt8}, (∀ x ∈ l, x.1.data.toList ≠ [c]) → strokeAt l c = none
  | [], _, _ => rfl
  | a :: r, c, h => by
    unfold strokeAt
    rw [if_neg (h a (by simp))]
    exact strokeAt_none fun x hx => h x (by simp [hx])
theorem strokeAt_drop {l : List SignT} {k : Nat} {c : UInt8} (h : k < l.length) : strokeAt (l.drop k) c = if (gt l k).1.data.toList = [c] then some (gt l k).2 else strokeAt (l.drop (k + 1)) c := by
  rw [drop_gt h, strokeAt]
theorem strokes_drop {sys : List SignT} {l : List UInt8} {k : Nat} (h : k < l.length) : strokesOf sys (l.drop k) = match strokeAt sys (gt l k) with
    | none => none
    | some p => (strokesOf sys (l.drop (k + 1))).map (p :: ·) := by
  rw [drop_gt h, strokesOf]
theorem dictSum_drop (sys : List SignT) {l : List ByteArray} {k : Nat} (h : k < l.length) : dictSum sys (l.drop k) = lenW sys (gt l k) + dictSum sys (l.drop (k + 1)) := by
  rw [drop_gt h, dictSum]
end Go.Proofs.Ytigemahbopligaa
