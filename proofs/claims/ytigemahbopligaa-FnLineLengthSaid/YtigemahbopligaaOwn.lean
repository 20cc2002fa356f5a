/- Rows that a call itself makes and appends to. General; nothing here names the program. Rows of the call's own that grow side by side, and rows made with one element. General; nothing here names the program. -/
import Derived.Test.YtigemahbopligaaLib
import Derived.Maps.AppendAt
namespace Go.Proofs.Ytigemahbopligaa
open Go.RowKit

/-- The blocks from base on that are not the row's own. -/
def ownD (base : Nat) (w : World) (v : Value) : Nat → Prop := fun b => base ≤ b ∧ b < w.heap.size ∧ v.ownBlock ≠ some b
section
variable {α : Type} [Inhabited α]
/-- The slice v is a row of the call's own (blocks from base on) and reads as l. -/
def OwnR (S : Shape α) (base : Nat) (w : World) (e : TypeId) (v : Value) (l : List α) : Prop :=
  ∃ xs : List Value, w.ownsRow base e S.sz v l.length xs ∧ ∀ k, k < l.length → ∃ f : Nat → Value, (∀ j, j < S.sz → xs[k * S.sz + j]? = some (f j)) ∧ S.E (ownD base w v) w (gt l k) f
variable {S : Shape α} {base : Nat} {w w' : World} {e : TypeId} {v : Value} {l : List α}
theorem OwnR.keep (_h : OwnR S base w e v l) {v' : Value} {_row : Option Nat} {_xs' : List Value} (hsz : w.heap.size ≤ w'.heap.size) (hv' : v'.ownBlock = v.ownBlock ∨ v'.ownBlock = some w.heap.size) (hb : ∀ k, k < w.heap.size → v.ownBlock ≠ some k → w'.heap[k]? = w.heap[k]?)
    {y : α} {f : Nat → Value} (hE : S.E (ownD base w v) w y f) : S.E (ownD base w' v') w' y f := by
  refine S.wide (ownD base w v) _ _ _ _ (fun b hb => ⟨hb.1, Nat.lt_of_lt_of_le hb.2.1 hsz, ?_⟩) (S.keep _ _ _ _ _ (fun b o hd => World.cell?_of_block (hb b hd.2.1 hd.2.2)) hE)
  rcases hv' with hv' | hv'
  · rw [hv']; exact hb.2.2
  · rw [hv']; intro e; injection e with e; have := hb.2.1; omega
theorem OwnR.bl (h : OwnR S base w e v l) (hb : Below w.heap.size w w') : OwnR S base w' e v l := by
  obtain ⟨xs, ho, hx⟩ := h
  have hg : w.grownBy w' none := ⟨hb.os, hb.tape, hb.output, hb.size, fun k hk _ => hb.block k hk⟩
  refine ⟨xs, ho.kept hg (by cases v.ownBlock <;> simp), fun k hk => ?_⟩
  obtain ⟨f, hf, he⟩ := hx k hk
  exact ⟨f, hf, OwnR.keep (_row := none) (_xs' := []) ⟨xs, ho, hx⟩ hb.size (.inl rfl) (fun k hk _ => hb.block k hk) he⟩
theorem OwnR.al (h : OwnR S base w e v l) (o : Obj) : OwnR S base (w.alloc o) e v l := h.bl (bnew w o)
theorem OwnR.nil (hb : base ≤ w.heap.size) (cs : Array Value) (hcs : cs.size = 0) : OwnR S base (w.alloc (.cells cs e)) e (.slice (some ⟨w.heap.size, 0, none⟩) 0 0) [] :=
  ⟨[], World.ownsRow_made w cs 0 hb (by unfold maxLen; omega) (by simpa using hcs), fun k hk => absurd hk (by simp)⟩
theorem OwnR.nil0 : OwnR S base w e (.slice none 0 0) [] :=
  ⟨[], World.ownsRow_nil w base e S.sz, fun k hk => absurd hk (by simp)⟩
theorem OwnR.form (h : OwnR S base w e v l) : ∃ A c, v = .slice A l.length c ∧ l.length ≤ c := by
  obtain ⟨xs, ⟨hl, h2⟩, hx⟩ := h
  rcases h2 with ⟨rfl, h0⟩ | ⟨g, cap, cur, rfl, _, _, hc, _⟩
  · exact ⟨none, 0, by rw [h0], by omega⟩
  · exact ⟨_, cap, rfl, hc⟩
theorem OwnR.rd {A : Option Addr} {n c : Nat} (h : OwnR S base w e (.slice A n c) l) (hm : l.length ≤ 9223372036854775807) : n = l.length ∧ Rd S base w.heap.size w A n l := by
  obtain ⟨xs, ⟨hl, h2⟩, hx⟩ := h
  rcases h2 with ⟨h3, h0⟩ | ⟨g, cap, cur, h3, hg, hh, hc, hcm, hcs, htake⟩
  · injection h3 with a1 a2 a3
    subst a2
    exact ⟨h0.symm, h0.symm, by omega, fun h => absurd h (by omega)⟩
  · injection h3 with a1 a2 a3
    subst a1 a2
    refine ⟨rfl, rfl, hm, fun hn => ⟨g, 0, rfl, hg, (Array.getElem?_eq_some_iff.1 hh).1, fun k hk => ?_⟩⟩
    obtain ⟨f, hf, he⟩ := hx k hk
    refine ⟨f, fun j hj => ?_, S.wide _ _ _ _ _ (fun b hb => ⟨hb.1, hb.2.1⟩) he⟩
    rw [Nat.zero_add, cell_of_row w g _ cur e (0, 0) hh]
    have := hf j hj
    rw [← htake, List.getElem?_take] at this
    split at this
    · simpa using this
    · cases this
theorem OwnR.low {base' : Nat} (h : OwnR S base w e v l) (hb : base' ≤ base) : OwnR S base' w e v l := by
  obtain ⟨xs, ⟨h1, h2⟩, hx⟩ := h
  refine ⟨xs, ⟨h1, ?_⟩, fun k hk => ?_⟩
  · rcases h2 with h2 | ⟨g, cap, cur, hv, hg, r⟩
    · exact .inl h2
    · exact .inr ⟨g, cap, cur, hv, Nat.le_trans hb hg, r⟩
  · obtain ⟨f, hf, he⟩ := hx k hk
    exact ⟨f, hf, S.wide _ _ _ _ _ (fun b hb' => ⟨Nat.le_trans hb hb'.1, hb'.2⟩) he⟩
theorem OwnR.blk {A : Option Addr} {n c : Nat} (h : OwnR S base w e (.slice A n c) l) (hn : 0 < n) : ∃ g, A = some ⟨g, 0, none⟩ ∧ base ≤ g ∧ g < w.heap.size ∧ n = l.length ∧ ∃ cur : Array Value, w.heap[g]? = some (.cells cur e (0, 0)) ∧ n * S.sz ≤ cur.size := by
  obtain ⟨xs, ⟨hl, h2⟩, hx⟩ := h
  rcases h2 with ⟨h3, h0⟩ | ⟨g, cap, cur, h3, hg, hh, hc, hcm, hcs, htake⟩
  · injection h3 with a1 a2 a3
    omega
  · injection h3 with a1 a2 a3
    subst a1 a2
    exact ⟨g, rfl, hg, (Array.getElem?_eq_some_iff.1 hh).1, rfl, cur, hh, by rw [hcs]; exact Nat.mul_le_mul_right _ hc⟩
theorem OwnR.chg {D : Nat → Prop} (h : OwnR S base w e v l) (hc : Chg D w w') (hd : ∀ k, D k → k < base) : OwnR S base w' e v l := by
  obtain ⟨xs, ho, hx⟩ := h
  have hb : ∀ k, base ≤ k → k < w.heap.size → w'.heap[k]? = w.heap[k]? := fun k h1 h2 => hc.block k h2 fun hdk => by have := hd k hdk; omega
  have ho' : w'.ownsRow base e S.sz v l.length xs := by
    refine ⟨ho.1, ?_⟩
    rcases ho.2 with hn | ⟨g, cap, cur, rfl, hbg, hgg, rest⟩
    · exact .inl hn
    · exact .inr ⟨g, cap, cur, rfl, hbg, (hb g hbg (Array.getElem?_eq_some_iff.1 hgg).1).trans hgg, rest⟩
  refine ⟨xs, ho', fun k hk => ?_⟩
  obtain ⟨f, hf, he⟩ := hx k hk
  exact ⟨f, hf, S.wide _ _ _ _ _ (fun b hb' => ⟨hb'.1, Nat.lt_of_lt_of_le hb'.2.1 hc.size, hb'.2.2⟩) (S.keep _ _ _ _ _ (fun b o hb' => World.cell?_of_block (hb b hb'.1 hb'.2.1)) he)⟩
/-- A block that has been filled is such a row. -/
theorem OwnR.filled {lo hi g n : Nat} (h : Filled S lo hi w g e n n l) (hcap : ∃ cur : Array Value, w.heap[g]? = some (.cells cur e (0, 0)) ∧ cur.size = n * S.sz) (h1 : base ≤ g) (h2 : base ≤ lo) (h3 : hi ≤ w.heap.size) (h4 : g < lo ∨ hi ≤ g) : OwnR S base w e (.slice (some ⟨g, 0, none⟩) n n) l := by
  obtain ⟨cur, a1, a2, a3, a4, a5⟩ := h
  obtain ⟨cur', b1, b2⟩ := hcap
  rw [a1] at b1
  injection b1 with b1
  injection b1 with b1
  subst b1
  subst a3
  refine ⟨cur.toList, ⟨by rw [Array.length_toList, b2], .inr ⟨g, _, cur, rfl, h1, a1, Nat.le_refl _, by simp only [maxLen]; omega, b2, by rw [← b2, ← Array.length_toList]; exact List.take_length⟩⟩, fun k hk => ?_⟩
  obtain ⟨f, hf, he⟩ := a5 k hk
  refine ⟨f, fun j hj => by simpa using hf j hj, S.wide _ _ _ _ _ (fun b hb => ⟨Nat.le_trans h2 hb.1, Nat.lt_of_lt_of_le hb.2 h3, ?_⟩) he⟩
  show some g ≠ some b
  intro e
  injection e with e
  have q1 := hb.1
  have q2 := hb.2
  omega
theorem OwnR.own_lt (h : OwnR S base w e v l) {k : Nat} (hk : v.ownBlock = some k) : base ≤ k ∧ k < w.heap.size := by
  obtain ⟨xs, ho, _⟩ := h
  exact ho.lt k hk
end

section
variable {P : Program} {α : Type} [Inhabited α]
/-- One element, laid in a new block, appended to such a row. -/
theorem wp_append_R {o : Oper} {a : Act} {w : World} {K : Act → World → Prop} {Q : Exit → Act → World → Prop} (s x : Operand) (t : TypeId)
    (ho : o.op = .call { callee := .builtin .append, args := #[s, x], argTypes := #[t, t] })
    {base : Nat} {e : TypeId} {i : TypeInfo} {z : Value} {bytes : Nat} (S : Shape α) (ht : P.underlying t = some (.slice e)) (hi : P.info? e = some i ∧ i.zero = some z ∧ i.size = S.sz ∧ i.bytes = bytes)
    (hzs : z.cells.size = S.sz) (hsz : 0 < S.sz)
    {v : Value} {l : List α} (hs : a.eval s = v) (hown : OwnR S base w e v l)
    {g c : Nat} {cs : List Value} {tg : TypeId} {y : α} (hx : a.eval x = .slice (some ⟨g, 0, none⟩) 1 c) (hg : w.heap[g]? = some (.cells cs.toArray tg (0, 0))) (hl : cs.length = S.sz) (h1 : ∀ u ∈ cs, u.oneCell' = true) (hE : S.E (ownD base w v) w y (fun j => cs.getD j undef))
    (h63 : l.length + 1 ≤ 9223372036854775807) (hbytes : (l.length + 1) * bytes ≤ 140737488355328) (hbase : base ≤ w.heap.size)
    (h : ∀ A c' w', OwnR S base w' e (.slice A (l.length + 1) c') (l ++ [y]) → Below base w w' → K (a.put o.dst (.slice A (l.length + 1) c')) w') :
    o.wp P a w K Q := by
  obtain ⟨xs, ho', hxs⟩ := hown
  obtain ⟨hi, hz, hsize, hby⟩ := hi
  have hnews : ∀ j u, cs[j]? = some u → w.cell? ((⟨g, 0, none⟩ : Addr).add j) = some u := fun j u hj => by
    have hadd : (⟨g, 0, none⟩ : Addr).add j = ⟨g, j, none⟩ := by unfold Addr.add; split <;> simp_all
    rw [hadd, cell_of_row w g j _ tg (0, 0) hg]
    simpa using hj
  obtain ⟨v', w', hrun, ho2, hgr, _, hv'⟩ := run_append_own_at (P := P) w base t o.type e i z S.sz bytes ht hi hz hsize hby hzs hsz v l.length xs ho' ⟨g, 0, none⟩ 1 c cs (by omega) hnews h1 (by simp only [maxLen]; omega) hbytes hbase
  have hlen : (l ++ [y]).length = l.length + 1 := by simp
  have hO : OwnR S base w' e v' (l ++ [y]) := by
    refine ⟨xs ++ cs, by rw [hlen]; exact ho2, fun k hk => ?_⟩
    have kp : ∀ {y' : α} {f : Nat → Value}, S.E (ownD base w v) w y' f → S.E (ownD base w' v') w' y' f := fun hE => OwnR.keep (_row := none) (_xs' := []) ⟨xs, ho', hxs⟩ hgr.size hv' (fun k hk hne => hgr.block k hk (fun e => hne e.symm)) hE
    by_cases hkl : k < l.length
    · obtain ⟨f, hf, he⟩ := hxs k hkl
      refine ⟨f, fun j hj => ?_, ?_⟩
      · rw [List.getElem?_append_left]
        · exact hf j hj
        · rw [ho'.1]
          calc k * S.sz + j < k * S.sz + S.sz := by omega
            _ = (k + 1) * S.sz := by rw [Nat.add_mul, Nat.one_mul]
            _ ≤ l.length * S.sz := Nat.mul_le_mul_right _ hkl
      · rw [gt_append hkl]; exact kp he
    · obtain rfl : k = l.length := by rw [hlen] at hk; omega
      refine ⟨fun j => cs.getD j undef, fun j hj => ?_, by rw [gt_last]; exact kp hE⟩
      rw [List.getElem?_append_right (by rw [ho'.1]; omega), ho'.1, show l.length * S.sz + j - l.length * S.sz = j by omega, List.getElem?_eq_getElem (by omega)]
      simp [show j < cs.length by omega]
  obtain ⟨A, c', rfl, _⟩ := hO.form
  rw [hlen] at hO hrun
  unfold Oper.wp execOp
  simp only [ho, resolve, invoke, builtin, Sem.run_bind, Sem.run_pure, Result.andThen_ok, List.map_toArray, List.map_cons, List.map_nil, hs, hx, hrun]
  refine h A c' w' hO ⟨hgr.os, hgr.tape, hgr.output, hgr.size, fun k hk => hgr.block k (by omega) (fun e => ?_)⟩
  have := ho'.lt k e.symm
  omega
/-- In a plain list of operations. -/
theorem wpList_append_R {ops : Array Oper} {rest : List Oper} {o : Oper} {a : Act} {w : World} {Q : Exit → Act → World → Prop} (hgd : o.guard = none) (s x : Operand) (t : TypeId)
    (ho : o.op = .call { callee := .builtin .append, args := #[s, x], argTypes := #[t, t] })
    {base : Nat} {e : TypeId} {i : TypeInfo} {z : Value} {bytes : Nat} (S : Shape α) (ht : P.underlying t = some (.slice e)) (hi : P.info? e = some i ∧ i.zero = some z ∧ i.size = S.sz ∧ i.bytes = bytes)
    (hzs : z.cells.size = S.sz) (hsz : 0 < S.sz)
    {v : Value} {l : List α} (hs : a.eval s = v) (hown : OwnR S base w e v l)
    {g c : Nat} {cs : List Value} {tg : TypeId} {y : α} (hx : a.eval x = .slice (some ⟨g, 0, none⟩) 1 c) (hg : w.heap[g]? = some (.cells cs.toArray tg (0, 0))) (hl : cs.length = S.sz) (h1 : ∀ u ∈ cs, u.oneCell' = true) (hE : S.E (ownD base w v) w y (fun j => cs.getD j undef))
    (h63 : l.length + 1 ≤ 9223372036854775807) (hbytes : (l.length + 1) * bytes ≤ 140737488355328) (hbase : base ≤ w.heap.size)
    (h : ∀ A c' w', OwnR S base w' e (.slice A (l.length + 1) c') (l ++ [y]) → Below base w w' → wpList P ops Q rest (a.put o.dst (.slice A (l.length + 1) c')) w') :
    wpList P ops Q (o :: rest) a w :=
  wpList_plain hgd fun _ hK => wp_append_R s x t ho S ht hi hzs hsz hs hown hx hg hl h1 hE h63 hbytes hbase fun A c' w' h2 h3 => hK _ _ (h A c' w' h2 h3)
/-- In a region that draws its order. -/
theorem step_append_R {ops : Array Oper} {o : Oper} {a : Act} {w : World} {K : Act → World → Prop} {Q : Exit → Act → World → Prop} {E : Prop} (hgd : o.guard = none) (s x : Operand) (t : TypeId)
    (ho : o.op = .call { callee := .builtin .append, args := #[s, x], argTypes := #[t, t] })
    {base : Nat} {e : TypeId} {i : TypeInfo} {z : Value} {bytes : Nat} (S : Shape α) (ht : P.underlying t = some (.slice e)) (hi : P.info? e = some i ∧ i.zero = some z ∧ i.size = S.sz ∧ i.bytes = bytes)
    (hzs : z.cells.size = S.sz) (hsz : 0 < S.sz)
    {v : Value} {l : List α} (hs : a.eval s = v) (hown : OwnR S base w e v l)
    {g c : Nat} {cs : List Value} {tg : TypeId} {y : α} (hx : a.eval x = .slice (some ⟨g, 0, none⟩) 1 c) (hg : w.heap[g]? = some (.cells cs.toArray tg (0, 0))) (hl : cs.length = S.sz) (h1 : ∀ u ∈ cs, u.oneCell' = true) (hE : S.E (ownD base w v) w y (fun j => cs.getD j undef))
    (h63 : l.length + 1 ≤ 9223372036854775807) (hbytes : (l.length + 1) * bytes ≤ 140737488355328) (hbase : base ≤ w.heap.size)
    (h : ∀ A c' w', OwnR S base w' e (.slice A (l.length + 1) c') (l ++ [y]) → Below base w w' → K (a.put o.dst (.slice A (l.length + 1) c')) w') :
    if Region.wanted o (yielded ops a.tmps) = true then Oper.wp P o a w K Q else E := by
  have hw : Region.wanted o (yielded ops a.tmps) = true := by simp [Region.wanted, hgd]
  rw [if_pos hw]
  exact wp_append_R s x t ho S ht hi hzs hsz hs hown hx hg hl h1 hE h63 hbytes hbase h
end
end Go.Proofs.Ytigemahbopligaa
namespace Go.Proofs.Ytigemahbopligaa
open Go.RowKit
section
variable {α : Type} [Inhabited α] {S : Shape α} {base : Nat} {w w' : World} {e : TypeId} {v : Value} {l : List α}
/-- What an element reads as hangs on no world. -/
def Shape.flat {α : Type} (S : Shape α) : Prop := ∀ (D D' : Nat → Prop) w w' x f, S.E D w x f → S.E D' w' x f
theorem intS_flat : Shape.flat intS := fun _ _ _ _ _ _ h => h
theorem strokeS_flat : Shape.flat strokeS := fun _ _ _ _ _ _ h => h
theorem strS_flat : Shape.flat strS := fun _ _ _ _ _ _ h => h
theorem OwnR.flat (hf : S.flat) (h : OwnR S base w e v l) {D : Nat → Prop} (hc : Chg D w w') (hd : ∀ k, v.ownBlock = some k → ¬ D k) : OwnR S base w' e v l := by
  obtain ⟨xs, ho, hx⟩ := h
  refine ⟨xs, ⟨ho.1, ?_⟩, fun k hk => ?_⟩
  · rcases ho.2 with hn | ⟨g, cap, cur, rfl, hbg, hgg, rest⟩
    · exact .inl hn
    · exact .inr ⟨g, cap, cur, rfl, hbg, (hc.block g (Array.getElem?_eq_some_iff.1 hgg).1 (hd g rfl)).trans hgg, rest⟩
  · obtain ⟨f, hf1, he⟩ := hx k hk
    exact ⟨f, hf1, hf _ _ _ _ _ _ he⟩
theorem OwnR.one (hb : base ≤ w.heap.size) (cs : Array Value) (hl : cs.size = S.sz) {y : α} (hf : S.flat) (hE : S.E (fun _ => True) w y (fun j => cs.getD j undef)) : OwnR S base (w.alloc (.cells cs e)) e (.slice (some ⟨w.heap.size, 0, none⟩) 1 1) [y] := by
  refine ⟨cs.toList, ⟨by simpa using hl, .inr ⟨w.heap.size, 1, cs, rfl, hb, heap_alloc_new w _, Nat.le_refl _, by simp only [maxLen]; omega, by simpa using hl, ?_⟩⟩, fun k hk => ?_⟩
  · rw [show ([y].length * S.sz) = cs.toList.length by simpa using hl.symm]
    exact List.take_length
  · obtain rfl : k = 0 := by have : [y].length = 1 := rfl; omega
    refine ⟨fun j => cs.getD j undef, fun j hj => ?_, hf _ _ _ _ _ _ hE⟩
    rw [Nat.zero_mul, Nat.zero_add]
    have : j < cs.size := by omega
    simp [this]
theorem chg_below {B : Nat} (h : Below B w w') : Chg (fun k => B ≤ k) w w' := ⟨h.os, h.tape, h.output, h.size, fun k _ hd => h.block k (by omega)⟩
theorem chg_new (w : World) (o : Obj) (D : Nat → Prop) : Chg D w (w.alloc o) := ⟨rfl, rfl, rfl, by simp, fun k hk _ => (bnew w o).block k hk⟩
theorem OwnR.lt' (h : OwnR S base w e v l) : ∀ k, v.ownBlock = some k → k < w.heap.size := fun _ hk => (h.own_lt hk).2
end
section
variable {P : Program} {α : Type} [Inhabited α]
/-- As wp_append_R, and it tells which block has turned. -/
theorem wpList_append_R2 {ops : Array Oper} {rest : List Oper} {o : Oper} {a : Act} {w : World} {Q : Exit → Act → World → Prop} (hgd : o.guard = none) (s x : Operand) (t : TypeId)
    (ho : o.op = .call { callee := .builtin .append, args := #[s, x], argTypes := #[t, t] })
    {base : Nat} {e : TypeId} {i : TypeInfo} {z : Value} {bytes : Nat} (S : Shape α) (ht : P.underlying t = some (.slice e)) (hi : P.info? e = some i ∧ i.zero = some z ∧ i.size = S.sz ∧ i.bytes = bytes)
    (hzs : z.cells.size = S.sz) (hsz : 0 < S.sz)
    {v : Value} {l : List α} (hs : a.eval s = v) (hown : OwnR S base w e v l)
    {g c : Nat} {cs : List Value} {tg : TypeId} {y : α} (hx : a.eval x = .slice (some ⟨g, 0, none⟩) 1 c) (hg : w.heap[g]? = some (.cells cs.toArray tg (0, 0))) (hl : cs.length = S.sz) (h1 : ∀ u ∈ cs, u.oneCell' = true) (hE : S.E (ownD base w v) w y (fun j => cs.getD j undef))
    (h63 : l.length + 1 ≤ 9223372036854775807) (hbytes : (l.length + 1) * bytes ≤ 140737488355328) (hbase : base ≤ w.heap.size)
    (h : ∀ A c' w', OwnR S base w' e (.slice A (l.length + 1) c') (l ++ [y]) → Chg (fun k => v.ownBlock = some k) w w' → ((Value.slice A (l.length + 1) c').ownBlock = v.ownBlock ∨ (Value.slice A (l.length + 1) c').ownBlock = some w.heap.size) → wpList P ops Q rest (a.put o.dst (.slice A (l.length + 1) c')) w') :
    wpList P ops Q (o :: rest) a w := by
  refine wpList_plain hgd fun K hK => ?_
  obtain ⟨xs, ho', hxs⟩ := hown
  obtain ⟨hi, hz, hsize, hby⟩ := hi
  have hnews : ∀ j u, cs[j]? = some u → w.cell? ((⟨g, 0, none⟩ : Addr).add j) = some u := fun j u hj => by
    have hadd : (⟨g, 0, none⟩ : Addr).add j = ⟨g, j, none⟩ := by unfold Addr.add; split <;> simp_all
    rw [hadd, cell_of_row w g j _ tg (0, 0) hg]
    simpa using hj
  obtain ⟨v', w', hrun, ho2, hgr, _, hv'⟩ := run_append_own_at (P := P) w base t o.type e i z S.sz bytes ht hi hz hsize hby hzs hsz v l.length xs ho' ⟨g, 0, none⟩ 1 c cs (by omega) hnews h1 (by simp only [maxLen]; omega) hbytes hbase
  have hlen : (l ++ [y]).length = l.length + 1 := by simp
  have hO : OwnR S base w' e v' (l ++ [y]) := by
    refine ⟨xs ++ cs, by rw [hlen]; exact ho2, fun k hk => ?_⟩
    have kp : ∀ {y' : α} {f : Nat → Value}, S.E (ownD base w v) w y' f → S.E (ownD base w' v') w' y' f := fun hE => OwnR.keep (_row := none) (_xs' := []) ⟨xs, ho', hxs⟩ hgr.size hv' (fun k hk hne => hgr.block k hk (fun e => hne e.symm)) hE
    by_cases hkl : k < l.length
    · obtain ⟨f, hf, he⟩ := hxs k hkl
      refine ⟨f, fun j hj => ?_, ?_⟩
      · rw [List.getElem?_append_left]
        · exact hf j hj
        · rw [ho'.1]
          calc k * S.sz + j < k * S.sz + S.sz := by omega
            _ = (k + 1) * S.sz := by rw [Nat.add_mul, Nat.one_mul]
            _ ≤ l.length * S.sz := Nat.mul_le_mul_right _ hkl
      · rw [gt_append hkl]; exact kp he
    · obtain rfl : k = l.length := by rw [hlen] at hk; omega
      refine ⟨fun j => cs.getD j undef, fun j hj => ?_, by rw [gt_last]; exact kp hE⟩
      rw [List.getElem?_append_right (by rw [ho'.1]; omega), ho'.1, show l.length * S.sz + j - l.length * S.sz = j by omega, List.getElem?_eq_getElem (by omega)]
      simp [show j < cs.length by omega]
  obtain ⟨A, c', rfl, _⟩ := hO.form
  rw [hlen] at hO hrun hv'
  unfold Oper.wp execOp
  simp only [ho, resolve, invoke, builtin, Sem.run_bind, Sem.run_pure, Result.andThen_ok, List.map_toArray, List.map_cons, List.map_nil, hs, hx, hrun]
  exact hK _ _ (h A c' w' hO ⟨hgr.os, hgr.tape, hgr.output, hgr.size, fun k hk hd => hgr.block k hk (fun e => hd e.symm)⟩ hv')
end
end Go.Proofs.Ytigemahbopligaa
