/- Joined pages: what the law takes from the contract. -/
import Derived.Test.YtfjoininagdlcaaLawKit
import Derived.Test.YtfjoininagdlcaaReadLaws3
namespace Go.Proofs.Ytfjoininagdlcaa
open Go.RowKit
theorem joinV_yes {n : Int} {a b f : List (List Int)} (h : joinV n a b = some f) : pageOk n a = true ∧ pageOk n b = true ∧ a.length + b.length ≤ 8 ∧ f = a ++ b := by
  unfold joinV at h
  split at h
  · rename_i h1
    rw [Bool.and_eq_true, Bool.and_eq_true, decide_eq_true_eq] at h1
    injection h with h
    exact ⟨h1.1, h1.2.1, h1.2.2, h.symm⟩
  · cases h
/-- As rb_rd, and how the address lies. -/
theorem rb_rd2 {w w' : World} {V : Option (List (List Int))} {e : Ending} (h : RetRB w V e w') (hl : (V.getD []).length ≤ 1048576) : ∃ A c, e = .returned (.tuple #[.slice A (V.getD []).length c, .bool V.isSome]) ∧ (V.getD []).length ≤ c ∧ ((A = none ∧ c = 0 ∧ (V.getD []).length = 0) ∨ ∃ g, A = some ⟨g, 0, none⟩) ∧ Rd (sliceS intS) 0 w'.heap.size w' A (V.getD []).length (V.getD []) ∧ Below w.heap.size w w' := by
  obtain ⟨A, c, rs, rfl, hN, hm, hb⟩ := h
  have h1 := congrArg List.length hm
  rw [List.length_map] at h1
  have h2 := (hN.rd (by omega)).2
  rw [hm] at h2
  have ho := hN.own
  obtain ⟨xs, ⟨hxl, h3⟩, _⟩ := ho
  rw [List.length_map] at h3
  rcases h3 with ⟨h3, h0⟩ | ⟨g, cap, cur, h3, _, _, hc, _⟩
  · injection h3 with a1 a2 a3
    subst a1 a3
    exact ⟨none, 0, rfl, by omega, .inl ⟨rfl, rfl, by omega⟩, h2.wide (Nat.zero_le _) (Nat.le_refl _), hb⟩
  · injection h3 with a1 a2 a3
    subst a1 a3
    exact ⟨_, c, rfl, by omega, .inr ⟨g, rfl⟩, h2.wide (Nat.zero_le _) (Nat.le_refl _), hb⟩
theorem pageOk_app {n : Int} {a b : List (List Int)} (ha : pageOk n a = true) (hb : pageOk n b = true) (hl : a.length + b.length ≤ 8) : pageOk n (a ++ b) = true := by
  unfold pageOk at ha hb ⊢
  rw [Bool.and_eq_true, Bool.and_eq_true, decide_eq_true_eq, List.all_eq_true] at ha hb ⊢
  refine ⟨ha.1, by rw [List.length_append]; exact hl, fun p hp => ?_⟩
  rcases List.mem_append.1 hp with hp | hp
  · exact ha.2.2 p hp
  · exact hb.2.2 p hp
theorem onesL_succ (k : Nat) : onesL (k + 1) = onesL k ++ [1] := by unfold onesL; rw [List.replicate_succ']
theorem onesL_len (k : Nat) : (onesL k).length = k := by simp [onesL]
/-- The rows of the model of ones. -/
theorem ones_rows {N k : Nat} {rs : List RowD} (h : rs.map (·.2.2) = List.replicate k (onesL N)) (h1 : rs.length = k) {g d : Nat} : (rs ++ [(g, d, onesL N)]).map (·.2.2) = List.replicate (k + 1) (onesL N) := by
  rw [List.map_append, h, List.replicate_succ']; rfl
/-- The page that is joined, cut where the first ends. -/
theorem join_cut {w : World} {A : Option Addr} {q c : Nat} {a b : List (List Int)} (h : Rd (sliceS intS) 0 w.heap.size w A (a ++ b).length (a ++ b)) (hq : q = a.length) (hcap : (a ++ b).length ≤ c) :
    Rd (sliceS intS) 0 w.heap.size w A q a ∧ ∀ g, A = some ⟨g, 0, none⟩ → Rd (sliceS intS) 0 w.heap.size w (if c = q then some ⟨g, 0, none⟩ else some ⟨g, q, none⟩) ((a ++ b).length - q) b := by
  subst hq
  have hl : a.length ≤ (a ++ b).length := by rw [List.length_append]; omega
  constructor
  · have := h.sub (i := 0) (j := a.length) (Nat.zero_le _) hl A (fun b off h _ => by rw [h]; simp)
    rw [Nat.sub_zero, List.drop_zero, List.take_left'] at this
    · exact this
    · rfl
  · intro g hg
    have := h.sub (i := a.length) (j := (a ++ b).length) hl (Nat.le_refl _) (if c = a.length then some ⟨g, 0, none⟩ else some ⟨g, a.length, none⟩) 
    rw [List.take_length, List.drop_left'] at this
    · refine if hlt : a.length < (a ++ b).length then ?_ else ?_
      · by_cases hc : c = a.length
        · exact absurd hlt (by omega)
        · refine this fun b off h _ => ?_
          rw [if_neg hc]
          rw [hg] at h
          injection h with h
          injection h with h1 h2
          rw [← h1, ← h2]
          simp [sliceS]
      · have : (a ++ b).length - a.length = 0 := by omega
        have hb : b = [] := by
          rw [List.length_append] at hlt
          exact List.length_eq_zero_iff.1 (by omega)
        rw [this, hb]
        exact Rd.nil _ _ _ _ _
    · rfl
section
variable {P : Program} {α : Type} [Inhabited α]
/-- As wpList_append_R2, the length under a name. -/
theorem wpList_append_R2n {ops : Array Oper} {rest : List Oper} {o : Oper} {a : Act} {w : World} {Q : Exit → Act → World → Prop} (hgd : o.guard = none) (s x : Operand) (t : TypeId)
    (ho : o.op = .call { callee := .builtin .append, args := #[s, x], argTypes := #[t, t] })
    {base : Nat} {e : TypeId} {i : TypeInfo} {z : Value} {bytes : Nat} (S : Shape α) (ht : P.underlying t = some (.slice e)) (hi : P.info? e = some i ∧ i.zero = some z ∧ i.size = S.sz ∧ i.bytes = bytes)
    (hzs : z.cells.size = S.sz) (hsz : 0 < S.sz)
    {v : Value} {l : List α} {m : Nat} (hm : l.length = m) (hs : a.eval s = v) (hown : OwnR S base w e v l)
    {g c : Nat} {cs : List Value} {tg : TypeId} {y : α} (hx : a.eval x = .slice (some ⟨g, 0, none⟩) 1 c) (hg : w.heap[g]? = some (.cells cs.toArray tg (0, 0))) (hl : cs.length = S.sz) (h1 : ∀ u ∈ cs, u.oneCell' = true) (hE : S.E (ownD base w v) w y (fun j => cs.getD j undef))
    (h63 : m + 1 ≤ 9223372036854775807) (hbytes : (m + 1) * bytes ≤ 140737488355328) (hbase : base ≤ w.heap.size)
    (h : ∀ A c' w', OwnR S base w' e (.slice A (m + 1) c') (l ++ [y]) → Chg (fun k => v.ownBlock = some k) w w' → ((Value.slice A (m + 1) c').ownBlock = v.ownBlock ∨ (Value.slice A (m + 1) c').ownBlock = some w.heap.size) → wpList P ops Q rest (a.put o.dst (.slice A (m + 1) c')) w') :
    wpList P ops Q (o :: rest) a w := by
  subst hm
  exact wpList_append_R2 hgd s x t ho S ht hi hzs hsz hs hown hx hg hl h1 hE h63 hbytes hbase h
end
end Go.Proofs.Ytfjoininagdlcaa
