/- Rows of the call's own that grow side by side, and rows made with one element. General; nothing here names the program. -/
import Derived.Test.YtoincfpffioioaaOwn
namespace Go.Proofs.Ytoincfpffioioaa
open Go.RowKit
section
variable {α : Type} [Inhabited α] {S : Shape α} {base : Nat} {w w' : World} {e : TypeId} {v : Value} {l : List α}
/-- What an element reads as hangs on no world. -/
def Shape.flat {α : Type} (S : Shape α) : Prop := ∀ (D D' : Nat → Prop) w w' x f, S.E D w x f → S.E D' w' x f
theorem intS_flat : Shape.flat intS := fun _ _ _ _ _ _ h => h
theorem strokeS_flat : Shape.flat strokeS := fun _ _ _ _ _ _ h => h
theorem strS_flat : Shape.flat strS := fun _ _ _ _ _ _ h => h
theorem OwnR.flat (hf : S.flat) (h : OwnR S base w e v l) {D : Nat → Prop} (hc : Chg D w w') (hd : ∀ k, v.ownBlock = some k → ¬ D k) : OwnR S base w' e v l := by
  obtain ⟨xs, ho, hx⟩ := h
  refine ⟨xs, ⟨ho.1, ?_⟩, fun k hk => ?_⟩
  · rcases ho.2 with hn | ⟨g, cap, cur, rfl, hbg, hgg, rest⟩
    · exact .inl hn
    · exact .inr ⟨g, cap, cur, rfl, hbg, (hc.block g (Array.getElem?_eq_some_iff.1 hgg).1 (hd g rfl)).trans hgg, rest⟩
  · obtain ⟨f, hf1, he⟩ := hx k hk
    exact ⟨f, hf1, hf _ _ _ _ _ _ he⟩
theorem OwnR.one (hb : base ≤ w.heap.size) (cs : Array Value) (hl : cs.size = S.sz) {y : α} (hf : S.flat) (hE : S.E (fun _ => True) w y (fun j => cs.getD j undef)) : OwnR S base (w.alloc (.cells cs e)) e (.slice (some ⟨w.heap.size, 0, none⟩) 1 1) [y] := by
  refine ⟨cs.toList, ⟨by simpa using hl, .inr ⟨w.heap.size, 1, cs, rfl, hb, heap_alloc_new w _, Nat.le_refl _, by simp only [maxLen]; omega, by simpa using hl, ?_⟩⟩, fun k hk => ?_⟩
  · rw [show ([y].length * S.sz) = cs.toList.length by simpa using hl.symm]
    exact List.take_length
  · obtain rfl : k = 0 := by have : [y].length = 1 := rfl; omega
    refine ⟨fun j => cs.getD j undef, fun j hj => ?_, hf _ _ _ _ _ _ hE⟩
    rw [Nat.zero_mul, Nat.zero_add]
    have : j < cs.size := by omega
    simp [this]
theorem chg_below {B : Nat} (h : Below B w w') : Chg (fun k => B ≤ k) w w' := ⟨h.os, h.tape, h.output, h.size, fun k _ hd => h.block k (by omega)⟩
theorem chg_new (w : World) (o : Obj) (D : Nat → Prop) : Chg D w (w.alloc o) := ⟨rfl, rfl, rfl, by simp, fun k hk _ => (bnew w o).block k hk⟩
theorem OwnR.lt' (h : OwnR S base w e v l) : ∀ k, v.ownBlock = some k → k < w.heap.size := fun _ hk => (h.own_lt hk).2
end
section
variable {P : Program} {α : Type} [Inhabited α]
/-- As wp_append_R, and it tells which block has turned. -/
theorem wpList_append_R2 {ops : Array Oper} {rest : List Oper} {o : Oper} {a : Act} {w : World} {Q : Exit → Act → World → Prop} (hgd : o.guard = none) (s x : Operand) (t : TypeId)
    (ho : o.op = .call { callee := .builtin .append, args := #[s, x], argTypes := #[t, t] })
    {base : Nat} {e : TypeId} {i : TypeInfo} {z : Value} {bytes : Nat} (S : Shape α) (ht : P.underlying t = some (.slice e)) (hi : P.info? e = some i ∧ i.zero = some z ∧ i.size = S.sz ∧ i.bytes = bytes)
    (hzs : z.cells.size = S.sz) (hsz : 0 < S.sz)
    {v : Value} {l : List α} (hs : a.eval s = v) (hown : OwnR S base w e v l)
    {g c : Nat} {cs : List Value} {tg : TypeId} {y : α} (hx : a.eval x = .slice (some ⟨g, 0, none⟩) 1 c) (hg : w.heap[g]? = some (.cells cs.toArray tg (0, 0))) (hl : cs.length = S.sz) (h1 : ∀ u ∈ cs, u.oneCell' = true) (hE : S.E (ownD base w v) w y (fun j => cs.getD j undef))
    (h63 : l.length + 1 ≤ 9223372036854775807) (hbytes : (l.length + 1) * bytes ≤ 140737488355328) (hbase : base ≤ w.heap.size)
    (h : ∀ A c' w', OwnR S base w' e (.slice A (l.length + 1) c') (l ++ [y]) → Chg (fun k => v.ownBlock = some k) w w' → ((Value.slice A (l.length + 1) c').ownBlock = v.ownBlock ∨ (Value.slice A (l.length + 1) c').ownBlock = some w.heap.size) → wpList P ops Q rest (a.put o.dst (.slice A (l.length + 1) c')) w') :
    wpList P ops Q (o :: rest) a w := by
  refine wpList_plain hgd fun K hK => ?_
  obtain ⟨xs, ho', hxs⟩ := hown
  obtain ⟨hi, hz, hsize, hby⟩ := hi
  have hnews : ∀ j u, cs[j]? = some u → w.cell? ((⟨g, 0, none⟩ : Addr).add j) = some u := fun j u hj => by
    have hadd : (⟨g, 0, none⟩ : Addr).add j = ⟨g, j, none⟩ := by unfold Addr.add; split <;> simp_all
    rw [hadd, cell_of_row w g j _ tg (0, 0) hg]
    simpa using hj
  obtain ⟨v', w', hrun, ho2, hgr, _, hv'⟩ := run_append_own_at (P := P) w base t o.type e i z S.sz bytes ht hi hz hsize hby hzs hsz v l.length xs ho' ⟨g, 0, none⟩ 1 c cs (by omega) hnews h1 (by simp only [maxLen]; omega) hbytes hbase
  have hlen : (l ++ [y]).length = l.length + 1 := by simp
  have hO : OwnR S base w' e v' (l ++ [y]) := by
    refine ⟨xs ++ cs, by rw [hlen]; exact ho2, fun k hk => ?_⟩
    have kp : ∀ {y' : α} {f : Nat → Value}, S.E (ownD base w v) w y' f → S.E (ownD base w' v') w' y' f := fun hE => OwnR.keep (row := none) (xs' := []) ⟨xs, ho', hxs⟩ hgr.size hv' (fun k hk hne => hgr.block k hk (fun e => hne e.symm)) hE
    by_cases hkl : k < l.length
    · obtain ⟨f, hf, he⟩ := hxs k hkl
      refine ⟨f, fun j hj => ?_, ?_⟩
      · rw [List.getElem?_append_left]
        · exact hf j hj
        · rw [ho'.1]
          calc k * S.sz + j < k * S.sz + S.sz := by omega
            _ = (k + 1) * S.sz := by rw [Nat.add_mul, Nat.one_mul]
            _ ≤ l.length * S.sz := Nat.mul_le_mul_right _ hkl
      · rw [gt_append hkl]; exact kp he
    · obtain rfl : k = l.length := by rw [hlen] at hk; omega
      refine ⟨fun j => cs.getD j undef, fun j hj => ?_, by rw [gt_last]; exact kp hE⟩
      rw [List.getElem?_append_right (by rw [ho'.1]; omega), ho'.1, show l.length * S.sz + j - l.length * S.sz = j by omega, List.getElem?_eq_getElem (by omega)]
      simp [show j < cs.length by omega]
  obtain ⟨A, c', rfl, _⟩ := hO.form
  rw [hlen] at hO hrun hv'
  unfold Oper.wp execOp
  simp only [ho, resolve, invoke, builtin, Sem.run_bind, Sem.run_pure, Result.andThen_ok, List.map_toArray, List.map_cons, List.map_nil, hs, hx, hrun]
  exact hK _ _ (h A c' w' hO ⟨hgr.os, hgr.tape, hgr.output, hgr.size, fun k hk hd => hgr.block k hk (fun e => hd e.symm)⟩ hv')
end
end Go.Proofs.Ytoincfpffioioaa
