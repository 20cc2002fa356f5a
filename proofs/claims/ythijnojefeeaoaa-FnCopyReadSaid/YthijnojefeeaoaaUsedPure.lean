/- Which briefs stand in the best copy: sorted and each once. No program in sight. -/
import Derived.Test.YthijnojefeeaoaaBriefPure3
import Derived.Lib.SlicesCompact
namespace Go.Proofs.Ythijnojefeeaoaa
/-- The numbers of the briefs among tokens. -/
def usedT (ts : List Tok) : List Int := (ts.filter fun t => t.k != -1).map (·.k)
theorem usedT_none {t : Tok} {r : List Tok} (h : t.k = -1) : usedT (t :: r) = usedT r := by simp [usedT, h]
theorem usedT_some {t : Tok} {r : List Tok} (h : t.k ≠ -1) : usedT (t :: r) = t.k :: usedT r := by simp [usedT, h]
theorem usedT_app (l r : List Tok) : usedT (l ++ r) = usedT l ++ usedT r := by simp [usedT]
theorem usedT_len (l : List Tok) : (usedT l).length ≤ l.length := by
  unfold usedT
  rw [List.length_map]
  exact List.length_filter_le _ _
theorem tokCp_ok {bs : List BriefT} : ∀ {ts : List Tok} {ws : List ByteArray}, tokCp bs ts ws → ∀ t ∈ ts, tokOk bs t
  | [], _, _, t, h => by cases h
  | x :: r, _, hp, t, h => by
    rcases List.mem_cons.1 h with rfl | h
    · exact hp.2.1
    · exact tokCp_ok hp.2.2.2.2 t h
theorem mark_word {s : ByteArray} (h1 : markOk s = true) (h2 : wordOk s = true) : False := by
  unfold markOk at h1
  unfold wordOk at h2
  rw [Bool.and_eq_true, inB_yes] at h1 h2
  obtain ⟨⟨h3, _⟩, h4⟩ := h1
  obtain ⟨_, h5⟩ := h2
  unfold bytesIn at h4 h5
  rw [List.all_eq_true] at h4 h5
  have hl : s.data.toList.length = s.size := by simp
  cases hd : s.data.toList with
  | nil => rw [hd] at hl; simp at hl; omega
  | cons c r =>
    have h6 := h4 c (by rw [hd]; simp)
    have h7 := h5 c (by rw [hd]; simp)
    simp only [Bool.and_eq_true, decide_eq_true_eq] at h6 h7
    omega
theorem briefs_all {bs : List BriefT} (h : briefsOk bs = true) : (∀ b ∈ bs, briefOk b = true) ∧ bs.Pairwise (fun a b => sameB a b = false) := by
  unfold briefsOk at h
  rw [Bool.and_eq_true, briefs_iff] at h
  exact ⟨h.2.1, h.2.2.2⟩
theorem mark_one {bs : List BriefT} (h : briefsOk bs = true) {i j : Nat} (hi : i < bs.length) (hj : j < bs.length) (he : (gt bs i).1 = (gt bs j).1) : i = j := by
  have hp := (briefs_all h).2
  rw [gt_eq hi, gt_eq hj] at he
  have hs : ∀ {a b : BriefT}, a.1 = b.1 → sameB a b = true := fun {a b} e => by
    unfold sameB
    rw [e, eqD_self, Bool.true_or]
  rcases Nat.lt_trichotomy i j with hlt | heq | hlt
  · have := List.pairwise_iff_getElem.1 hp i j hi hj hlt
    rw [hs he] at this
    cases this
  · exact heq
  · have := List.pairwise_iff_getElem.1 hp j i hj hi hlt
    rw [hs he.symm] at this
    cases this
theorem used_mem {wt : Tok → Int} (hw : ∀ t : Tok, wt t = 1 * t.co + 0) {bs : List BriefT} {ws : List ByteArray} (hb : briefsOk bs = true) (hs : speechOk ws = true) (k : Int) : k ∈ usedT (copyT wt bs ws) ↔ ∃ j : Nat, k = j ∧ j ∈ usedN bs ws := by
  have hwd : ∀ b ∈ bs, 1 ≤ b.2.length := fun b h => (briefs_wd hb b h).1
  obtain ⟨h1, h2, h3⟩ := copy_way hw hwd ws.length ws (Nat.le_refl _)
  obtain ⟨h4, -⟩ := best_cp (a := 1) (c := 0) hwd ws.length ws (Nat.le_refl _)
  have hok := tokCp_ok h2
  unfold usedT usedN
  constructor
  · intro h
    obtain ⟨t, ht, rfl⟩ := List.mem_map.1 h
    obtain ⟨ht, hk⟩ := List.mem_filter.1 ht
    have hk : t.k ≠ -1 := by simpa using hk
    obtain ⟨h5, h6⟩ := hok t ht
    have h7 : 0 ≤ t.k ∧ t.k < bs.length := by
      rcases h5 with h5 | h5
      · exact absurd h5 hk
      · exact h5
    refine ⟨t.k.toNat, by omega, List.mem_filter.2 ⟨List.mem_range.2 (by omega), ?_⟩⟩
    have h8 : some (gt bs t.k.toNat) ∈ bestP 1 0 bs ws := by
      rw [← h1]
      refine List.mem_map.2 ⟨t, ht, ?_⟩
      unfold wayOf
      rw [if_neg hk]
    exact List.contains_iff_mem.2 (cp_mem h4 h8).2
  · rintro ⟨j, rfl, h⟩
    obtain ⟨hj, hm⟩ := List.mem_filter.1 h
    have hj := List.mem_range.1 hj
    have hm := List.contains_iff_mem.1 hm
    rcases cp_text h4 hm with hm | ⟨b, hm, he⟩
    · exfalso
      unfold speechOk wordsOk at hs
      rw [Bool.and_eq_true, List.all_eq_true] at hs
      have h5 := (briefs_all hb).1 _ (gt_mem hj)
      unfold briefOk at h5
      rw [Bool.and_eq_true] at h5
      exact mark_word h5.1 (hs.2 _ hm)
    · rw [← h1] at hm
      obtain ⟨t, ht, hto⟩ := List.mem_map.1 hm
      unfold wayOf at hto
      have hk : t.k ≠ -1 := fun e => by rw [if_pos e] at hto; cases hto
      rw [if_neg hk] at hto
      injection hto with hto
      obtain ⟨h5, h6⟩ := hok t ht
      have h7 : 0 ≤ t.k ∧ t.k < bs.length := by
        rcases h5 with h5 | h5
        · exact absurd h5 hk
        · exact h5
      have h8 := mark_one hb (i := t.k.toNat) (j := j) (by omega) hj (by rw [hto]; exact he)
      exact List.mem_map.2 ⟨t, List.mem_filter.2 ⟨ht, by simpa using hk⟩, by omega⟩
/-- Ascending lists of the same members are equal. -/
theorem asc_ext : ∀ {a b : List Int}, a.Pairwise (· < ·) → b.Pairwise (· < ·) → (∀ x, x ∈ a ↔ x ∈ b) → a = b
  | [], [], _, _, _ => rfl
  | [], y :: b, _, _, h => absurd ((h y).2 (by simp)) (by simp)
  | x :: a, [], _, _, h => absurd ((h x).1 (by simp)) (by simp)
  | x :: a, y :: b, ha, hb, h => by
    rw [List.pairwise_cons] at ha hb
    have hxy : x = y := by
      rcases List.mem_cons.1 ((h x).1 (by simp)) with e | e
      · exact e
      · rcases List.mem_cons.1 ((h y).2 (by simp)) with e2 | e2
        · exact e2.symm
        · have := hb.1 x e
          have := ha.1 y e2
          omega
    subst hxy
    rw [asc_ext ha.2 hb.2 fun z => ?_]
    constructor
    · intro hz
      rcases List.mem_cons.1 ((h z).1 (List.mem_cons_of_mem _ hz)) with e | e
      · subst e
        have := ha.1 _ hz
        omega
      · exact e
    · intro hz
      rcases List.mem_cons.1 ((h z).2 (List.mem_cons_of_mem _ hz)) with e | e
      · subst e
        have := hb.1 _ hz
        omega
      · exact e
theorem get_bang {l : List Int} {j : Nat} (h : j < l.length) : l.toArray[j]! = l[j] := by simp [h]
/-- What compact leaves of an ascending list: ascending, no number twice, the same members. -/
theorem compact_asc {l : List Int} (hl : l.Pairwise (· ≤ ·)) : ∀ m, m ≤ l.length → (Lib.compactUpTo l.toArray m).Pairwise (· < ·) ∧ (∀ x, x ∈ Lib.compactUpTo l.toArray m ↔ ∃ j, j < m ∧ l.toArray[j]! = x)
  | 0, _ => by
    refine ⟨by simp [Lib.compactUpTo], fun x => ?_⟩
    simp [Lib.compactUpTo]
  | m + 1, h => by
    obtain ⟨h1, h2⟩ := compact_asc hl m (by omega)
    have hmono : ∀ i j, i < j → j < l.length → l.toArray[i]! ≤ l.toArray[j]! := fun i j hij hj => by
      rw [get_bang (by omega), get_bang hj]
      exact List.pairwise_iff_getElem.1 hl i j (by omega) hj hij
    rw [Lib.compactUpTo_succ]
    by_cases hk : Lib.keeps l.toArray m = true
    · rw [if_pos hk]
      refine ⟨?_, fun x => ?_⟩
      · rw [List.pairwise_append]
        refine ⟨h1, by simp, fun x hx y hy => ?_⟩
        rw [List.mem_singleton] at hy
        subst hy
        obtain ⟨j, hj, rfl⟩ := (h2 x).1 hx
        unfold Lib.keeps at hk
        rw [decide_eq_true_eq] at hk
        have h3 := hmono j m hj (by omega)
        rcases hk with hk | hk
        · omega
        · by_cases hjm : j = m - 1
          · subst hjm
            omega
          · have h4 := hmono j (m - 1) (by omega) (by omega)
            have h5 := hmono (m - 1) m (by omega) (by omega)
            omega
      · rw [List.mem_append, h2, List.mem_singleton]
        constructor
        · rintro (⟨j, hj, e⟩ | e)
          · exact ⟨j, by omega, e⟩
          · exact ⟨m, by omega, e.symm⟩
        · rintro ⟨j, hj, e⟩
          by_cases hjm : j = m
          · subst hjm
            exact .inr e.symm
          · exact .inl ⟨j, by omega, e⟩
    · rw [if_neg hk, List.append_nil]
      refine ⟨h1, fun x => ?_⟩
      rw [h2]
      constructor
      · rintro ⟨j, hj, e⟩
        exact ⟨j, by omega, e⟩
      · rintro ⟨j, hj, e⟩
        by_cases hjm : j = m
        · subst hjm
          unfold Lib.keeps at hk
          rw [decide_eq_true_eq, not_or] at hk
          have : l.toArray[j]! = l.toArray[j - 1]! := Classical.not_not.1 hk.2
          exact ⟨j - 1, by omega, by rw [← this]; exact e⟩
        · exact ⟨j, by omega, e⟩
theorem usedN_asc (bs : List BriefT) (ws : List ByteArray) : ((usedN bs ws).map fun j : Nat => (j : Int)).Pairwise (· < ·) := by
  rw [List.pairwise_map]
  unfold usedN
  refine (List.Pairwise.filter _ List.pairwise_lt_range).imp fun h => by omega
/-- What the program returns is what the reference returns. -/
theorem used_sorted {wt : Tok → Int} (hw : ∀ t : Tok, wt t = 1 * t.co + 0) {bs : List BriefT} {ws : List ByteArray} (hb : briefsOk bs = true) (hs : speechOk ws = true) :
    Lib.compact ((usedT (copyT wt bs ws)).mergeSort fun x y => decide (x ≤ y)) = (usedN bs ws).map fun j : Nat => (j : Int) := by
  have hsort : ((usedT (copyT wt bs ws)).mergeSort fun x y => decide (x ≤ y)).Pairwise (· ≤ ·) := by
    have := List.pairwise_mergeSort (le := fun x y : Int => decide (x ≤ y)) (fun a b c h1 h2 => by simp at h1 h2 ⊢; omega) (fun a b => by simp; omega) (usedT (copyT wt bs ws))
    exact this.imp fun h => by simpa using h
  obtain ⟨h1, h2⟩ := compact_asc hsort _ (Nat.le_refl _)
  refine asc_ext h1 (usedN_asc bs ws) fun x => ?_
  have h3 : x ∈ Lib.compact ((usedT (copyT wt bs ws)).mergeSort fun x y => decide (x ≤ y)) ↔ x ∈ usedT (copyT wt bs ws) := by
    unfold Lib.compact
    rw [h2, ← (List.mergeSort_perm (usedT (copyT wt bs ws)) fun x y => decide (x ≤ y)).mem_iff]
    constructor
    · rintro ⟨j, hj, rfl⟩
      rw [get_bang hj]
      exact List.getElem_mem hj
    · intro h
      obtain ⟨j, hj, e⟩ := List.getElem_of_mem h
      exact ⟨j, hj, by rw [get_bang hj]; exact e⟩
  refine h3.trans ((used_mem hw hb hs x).trans ?_)
  rw [List.mem_map]
  constructor
  · rintro ⟨j, rfl, hj⟩
    exact ⟨j, hj, rfl⟩
  · rintro ⟨j, hj, rfl⟩
    exact ⟨j, rfl, hj⟩
end Go.Proofs.Ythijnojefeeaoaa
