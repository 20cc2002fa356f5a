/- Appends of slices of many elements. General; nothing here names the program. -/
import Derived.Test.YthijnojefeeaoaaAppS
import Derived.Test.YthijnojefeeaoaaMarkS2
namespace Go.Proofs.Ythijnojefeeaoaa
open Go.RowKit
section
variable {P : Program} {α : Type} [Inhabited α]
theorem wp_append_Rn {o : Oper} {a : Act} {w : World} {K : Act → World → Prop} {Q : Exit → Act → World → Prop} (s x : Operand) (t : TypeId)
    (ho : o.op = .call { callee := .builtin .append, args := #[s, x], argTypes := #[t, t] })
    {base : Nat} {e : TypeId} {i : TypeInfo} {z : Value} {bytes : Nat} (S : Shape α) (ht : P.underlying t = some (.slice e)) (hi : P.info? e = some i ∧ i.zero = some z ∧ i.size = S.sz ∧ i.bytes = bytes)
    (hzs : z.cells.size = S.sz) (hsz : 0 < S.sz)
    {v : Value} {l : List α} (hs : a.eval s = v) (hown : OwnR S base w e v l)
    {b off m c : Nat} {ys : List α} {cs : List Value} (hx : a.eval x = .slice (some ⟨b, off, none⟩) m c) (hm : ys.length = m) (hl : cs.length = m * S.sz) (hnews : ∀ j u, cs[j]? = some u → w.cell? ⟨b, off + j, none⟩ = some u) (h1 : ∀ u ∈ cs, u.oneCell' = true)
    (hE : ∀ k, k < m → S.E (ownD base w v) w (gt ys k) (fun j => cs.getD (k * S.sz + j) undef))
    (h63 : l.length + m ≤ 9223372036854775807) (hbytes : (l.length + m) * bytes ≤ 140737488355328) (hbase : base ≤ w.heap.size)
    (h : ∀ A c' w', OwnR S base w' e (.slice A (l.length + m) c') (l ++ ys) → Chg (fun k => v.ownBlock = some k) w w' → ((Value.slice A (l.length + m) c').ownBlock = v.ownBlock ∨ (Value.slice A (l.length + m) c').ownBlock = some w.heap.size) → K (a.put o.dst (.slice A (l.length + m) c')) w') :
    o.wp P a w K Q := by
  obtain ⟨xs, ho', hxs⟩ := hown
  obtain ⟨hi, hz, hsize, hby⟩ := hi
  have hnews' : ∀ j u, cs[j]? = some u → w.cell? ((⟨b, off, none⟩ : Addr).add j) = some u := fun j u hj => by
    have hadd : (⟨b, off, none⟩ : Addr).add j = ⟨b, off + j, none⟩ := by unfold Addr.add; split <;> simp_all
    rw [hadd]
    exact hnews j u hj
  obtain ⟨v', w', hrun, ho2, hgr, _, hv'⟩ := run_append_own_at (P := P) w base t o.type e i z S.sz bytes ht hi hz hsize hby hzs hsz v l.length xs ho' ⟨b, off, none⟩ m c cs hl hnews' h1 (by simp only [maxLen]; omega) hbytes hbase
  have hlen : (l ++ ys).length = l.length + m := by rw [List.length_append, hm]
  have hO : OwnR S base w' e v' (l ++ ys) := by
    refine ⟨xs ++ cs, by rw [hlen]; exact ho2, fun k hk => ?_⟩
    have kp : ∀ {y' : α} {f : Nat → Value}, S.E (ownD base w v) w y' f → S.E (ownD base w' v') w' y' f := fun hE => OwnR.keep (_row := none) (_xs' := []) ⟨xs, ho', hxs⟩ hgr.size hv' (fun k hk hne => hgr.block k hk (fun e => hne e.symm)) hE
    by_cases hkl : k < l.length
    · obtain ⟨f, hf, he⟩ := hxs k hkl
      refine ⟨f, fun j hj => ?_, ?_⟩
      · rw [List.getElem?_append_left]
        · exact hf j hj
        · rw [ho'.1]
          calc k * S.sz + j < k * S.sz + S.sz := by omega
            _ = (k + 1) * S.sz := by rw [Nat.add_mul, Nat.one_mul]
            _ ≤ l.length * S.sz := Nat.mul_le_mul_right _ hkl
      · rw [gt_append hkl]; exact kp he
    · obtain ⟨q, rfl⟩ : ∃ q, k = l.length + q := ⟨k - l.length, by omega⟩
      have hq : q < m := by rw [hlen] at hk; omega
      have hgq : gt (l ++ ys) (l.length + q) = gt ys q := by
        unfold gt
        simp [List.getElem?_append_right]
      have hql : q * S.sz + S.sz ≤ m * S.sz := by
        rw [← Nat.succ_mul]
        exact Nat.mul_le_mul_right _ hq
      refine ⟨fun j => cs.getD (q * S.sz + j) undef, fun j hj => ?_, by rw [hgq]; exact kp (hE q hq)⟩
      rw [List.getElem?_append_right (by rw [ho'.1, Nat.add_mul]; omega), ho'.1, show (l.length + q) * S.sz + j - l.length * S.sz = q * S.sz + j by rw [Nat.add_mul]; omega, List.getElem?_eq_getElem (by omega)]
      simp [show q * S.sz + j < cs.length by omega]
  obtain ⟨A, c', rfl, _⟩ := hO.form
  rw [hlen] at hO hrun hv'
  unfold Oper.wp execOp
  simp only [ho, resolve, invoke, builtin, Sem.run_bind, Sem.run_pure, Result.andThen_ok, List.map_toArray, List.map_cons, List.map_nil, hs, hx, hrun]
  exact (h A c' w' hO ⟨hgr.os, hgr.tape, hgr.output, hgr.size, fun k hk hd => hgr.block k hk (fun e => hd e.symm)⟩ hv')
end
/-- The cells of a row of briefs. -/
def cellsP : List (ByteArray × Value) → List Value
  | [] => []
  | p :: r => .string p.1 :: p.2 :: cellsP r
theorem cellsP_len : ∀ l : List (ByteArray × Value), (cellsP l).length = l.length * 2
  | [] => rfl
  | p :: r => by
    show (cellsP r).length + 1 + 1 = (r.length + 1) * 2
    rw [cellsP_len r]
    omega
theorem cellsP_get : ∀ (l : List (ByteArray × Value)) (k : Nat), k < l.length → (cellsP l)[k * 2]? = some (.string (gt l k).1) ∧ (cellsP l)[k * 2 + 1]? = some (gt l k).2
  | [], k, h => absurd h (by simp)
  | p :: r, 0, _ => by simp [cellsP, gt]
  | p :: r, k + 1, h => by
    have := cellsP_get r k (by simpa using h)
    rw [show (k + 1) * 2 = k * 2 + 1 + 1 by omega]
    simpa [cellsP, gt] using this
theorem wp_append_brvs {P : Program} {o : Oper} {a : Act} {w : World} {K : Act → World → Prop} {Q : Exit → Act → World → Prop} (s x : Operand) (t : TypeId)
    (ho : o.op = .call { callee := .builtin .append, args := #[s, x], argTypes := #[t, t] })
    {base : Nat} {e : TypeId} {i : TypeInfo} {z : Value} {bytes : Nat} (ht : P.underlying t = some (.slice e)) (hi : P.info? e = some i ∧ i.zero = some z ∧ i.size = 2 ∧ i.bytes = bytes)
    (hzs : z.cells.size = 2)
    {v : Value} {l : List (ByteArray × Value)} (hs : a.eval s = v) (hown : OwnR brvS base w e v l)
    {b off m c : Nat} {ys : List (ByteArray × Value)} (hx : a.eval x = .slice (some ⟨b, off, none⟩) m c) (hm : ys.length = m)
    (hc : ∀ k, k < m → w.cell? ⟨b, off + k * 2, none⟩ = some (.string (gt ys k).1) ∧ (gt ys k).1.size ≤ 9223372036854775807 ∧ w.cell? ⟨b, off + k * 2 + 1, none⟩ = some (gt ys k).2 ∧ (gt ys k).2.oneCell' = true)
    (h63 : l.length + m ≤ 9223372036854775807) (hbytes : (l.length + m) * bytes ≤ 140737488355328) (hbase : base ≤ w.heap.size)
    (h : ∀ A c' w', OwnR brvS base w' e (.slice A (l.length + m) c') (l ++ ys) → Chg (fun k => v.ownBlock = some k) w w' → ((Value.slice A (l.length + m) c').ownBlock = v.ownBlock ∨ (Value.slice A (l.length + m) c').ownBlock = some w.heap.size) → K (a.put o.dst (.slice A (l.length + m) c')) w') :
    o.wp P a w K Q := by
  subst hm
  have hlen := cellsP_len ys
  have hget : ∀ j u, (cellsP ys)[j]? = some u → ∃ k, k < ys.length ∧ ((j = k * 2 ∧ u = .string (gt ys k).1) ∨ (j = k * 2 + 1 ∧ u = (gt ys k).2)) := fun j u hj => by
    have hjl := (List.getElem?_eq_some_iff.1 hj).1
    rw [hlen] at hjl
    have hk : j / 2 < ys.length := by omega
    obtain ⟨g0, g1⟩ := cellsP_get ys (j / 2) hk
    rcases Nat.mod_two_eq_zero_or_one j with e | e
    · have ej : j = j / 2 * 2 := by omega
      rw [ej, g0] at hj
      injection hj with hj
      exact ⟨j / 2, hk, .inl ⟨ej, hj.symm⟩⟩
    · have ej : j = j / 2 * 2 + 1 := by omega
      rw [ej, g1] at hj
      injection hj with hj
      exact ⟨j / 2, hk, .inr ⟨ej, hj.symm⟩⟩
  refine wp_append_Rn s x t ho brvS ht hi hzs (by decide) hs hown hx rfl (cs := cellsP ys) hlen (fun j u hj => ?_) (fun u hu => ?_) (fun k hk => ?_) h63 hbytes hbase h
  · obtain ⟨k, hk, ⟨rfl, rfl⟩ | ⟨rfl, rfl⟩⟩ := hget j u hj
    · exact (hc k hk).1
    · exact (hc k hk).2.2.1
  · obtain ⟨j, hj⟩ := List.getElem?_of_mem hu
    obtain ⟨k, hk, ⟨rfl, rfl⟩ | ⟨rfl, rfl⟩⟩ := hget j u hj
    · rfl
    · exact (hc k hk).2.2.2
  · obtain ⟨g0, g1⟩ := cellsP_get ys k hk
    refine ⟨?_, (hc k hk).2.1, ?_⟩
    · show (cellsP ys).getD (k * 2 + 0) undef = _
      rw [Nat.add_zero, List.getD_eq_getElem?_getD, g0]
      rfl
    · show (cellsP ys).getD (k * 2 + 1) undef = _
      rw [List.getD_eq_getElem?_getD, g1]
      rfl
end Go.Proofs.Ythijnojefeeaoaa
