/- Appends, operation by operation, for drawn regions: one element, many elements; rows of signs. General but for signs. -/
import Derived.Test.YtigemahbopligaaSignS
import Derived.Test.YtigemahbopligaaRegInv
namespace Go.Proofs.Ytigemahbopligaa
open Go.RowKit
section
variable {P : Program} {α : Type} [Inhabited α]
/-- As wp_append_R, and it tells which block has turned. -/
theorem wp_append_R2 {o : Oper} {a : Act} {w : World} {K : Act → World → Prop} {Q : Exit → Act → World → Prop} (s x : Operand) (t : TypeId)
    (ho : o.op = .call { callee := .builtin .append, args := #[s, x], argTypes := #[t, t] })
    {base : Nat} {e : TypeId} {i : TypeInfo} {z : Value} {bytes : Nat} (S : Shape α) (ht : P.underlying t = some (.slice e)) (hi : P.info? e = some i ∧ i.zero = some z ∧ i.size = S.sz ∧ i.bytes = bytes)
    (hzs : z.cells.size = S.sz) (hsz : 0 < S.sz)
    {v : Value} {l : List α} (hs : a.eval s = v) (hown : OwnR S base w e v l)
    {g c : Nat} {cs : List Value} {tg : TypeId} {y : α} (hx : a.eval x = .slice (some ⟨g, 0, none⟩) 1 c) (hg : w.heap[g]? = some (.cells cs.toArray tg (0, 0))) (hl : cs.length = S.sz) (h1 : ∀ u ∈ cs, u.oneCell' = true) (hE : S.E (ownD base w v) w y (fun j => cs.getD j undef))
    (h63 : l.length + 1 ≤ 9223372036854775807) (hbytes : (l.length + 1) * bytes ≤ 140737488355328) (hbase : base ≤ w.heap.size)
    (h : ∀ A c' w', OwnR S base w' e (.slice A (l.length + 1) c') (l ++ [y]) → Chg (fun k => v.ownBlock = some k) w w' → ((Value.slice A (l.length + 1) c').ownBlock = v.ownBlock ∨ (Value.slice A (l.length + 1) c').ownBlock = some w.heap.size) → K (a.put o.dst (.slice A (l.length + 1) c')) w') :
    o.wp P a w K Q := by
  obtain ⟨xs, ho', hxs⟩ := hown
  obtain ⟨hi, hz, hsize, hby⟩ := hi
  have hnews : ∀ j u, cs[j]? = some u → w.cell? ((⟨g, 0, none⟩ : Addr).add j) = some u := fun j u hj => by
    have hadd : (⟨g, 0, none⟩ : Addr).add j = ⟨g, j, none⟩ := by unfold Addr.add; split <;> simp_all
    rw [hadd, cell_of_row w g j _ tg (0, 0) hg]
    simpa using hj
  obtain ⟨v', w', hrun, ho2, hgr, _, hv'⟩ := run_append_own_at (P := P) w base t o.type e i z S.sz bytes ht hi hz hsize hby hzs hsz v l.length xs ho' ⟨g, 0, none⟩ 1 c cs (by omega) hnews h1 (by simp only [maxLen]; omega) hbytes hbase
  have hlen : (l ++ [y]).length = l.length + 1 := by simp
  have hO : OwnR S base w' e v' (l ++ [y]) := by
    refine ⟨xs ++ cs, by rw [hlen]; exact ho2, fun k hk => ?_⟩
    have kp : ∀ {y' : α} {f : Nat → Value}, S.E (ownD base w v) w y' f → S.E (ownD base w' v') w' y' f := fun hE => OwnR.keep (_row := none) (_xs' := []) ⟨xs, ho', hxs⟩ hgr.size hv' (fun k hk hne => hgr.block k hk (fun e => hne e.symm)) hE
    by_cases hkl : k < l.length
    · obtain ⟨f, hf, he⟩ := hxs k hkl
      refine ⟨f, fun j hj => ?_, ?_⟩
      · rw [List.getElem?_append_left]
        · exact hf j hj
        · rw [ho'.1]
          calc k * S.sz + j < k * S.sz + S.sz := by omega
            _ = (k + 1) * S.sz := by rw [Nat.add_mul, Nat.one_mul]
            _ ≤ l.length * S.sz := Nat.mul_le_mul_right _ hkl
      · rw [gt_append hkl]; exact kp he
    · obtain rfl : k = l.length := by rw [hlen] at hk; omega
      refine ⟨fun j => cs.getD j undef, fun j hj => ?_, by rw [gt_last]; exact kp hE⟩
      rw [List.getElem?_append_right (by rw [ho'.1]; omega), ho'.1, show l.length * S.sz + j - l.length * S.sz = j by omega, List.getElem?_eq_getElem (by omega)]
      simp [show j < cs.length by omega]
  obtain ⟨A, c', rfl, _⟩ := hO.form
  rw [hlen] at hO hrun hv'
  unfold Oper.wp execOp
  simp only [ho, resolve, invoke, builtin, Sem.run_bind, Sem.run_pure, Result.andThen_ok, List.map_toArray, List.map_cons, List.map_nil, hs, hx, hrun]
  exact (h A c' w' hO ⟨hgr.os, hgr.tape, hgr.output, hgr.size, fun k hk hd => hgr.block k hk (fun e => hd e.symm)⟩ hv')
theorem wp_append_Rn {o : Oper} {a : Act} {w : World} {K : Act → World → Prop} {Q : Exit → Act → World → Prop} (s x : Operand) (t : TypeId)
    (ho : o.op = .call { callee := .builtin .append, args := #[s, x], argTypes := #[t, t] })
    {base : Nat} {e : TypeId} {i : TypeInfo} {z : Value} {bytes : Nat} (S : Shape α) (ht : P.underlying t = some (.slice e)) (hi : P.info? e = some i ∧ i.zero = some z ∧ i.size = S.sz ∧ i.bytes = bytes)
    (hzs : z.cells.size = S.sz) (hsz : 0 < S.sz)
    {v : Value} {l : List α} (hs : a.eval s = v) (hown : OwnR S base w e v l)
    {b off m c : Nat} {ys : List α} {cs : List Value} (hx : a.eval x = .slice (some ⟨b, off, none⟩) m c) (hm : ys.length = m) (hl : cs.length = m * S.sz) (hnews : ∀ j u, cs[j]? = some u → w.cell? ⟨b, off + j, none⟩ = some u) (h1 : ∀ u ∈ cs, u.oneCell' = true)
    (hE : ∀ k, k < m → S.E (ownD base w v) w (gt ys k) (fun j => cs.getD (k * S.sz + j) undef))
    (h63 : l.length + m ≤ 9223372036854775807) (hbytes : (l.length + m) * bytes ≤ 140737488355328) (hbase : base ≤ w.heap.size)
    (h : ∀ A c' w', OwnR S base w' e (.slice A (l.length + m) c') (l ++ ys) → Chg (fun k => v.ownBlock = some k) w w' → ((Value.slice A (l.length + m) c').ownBlock = v.ownBlock ∨ (Value.slice A (l.length + m) c').ownBlock = some w.heap.size) → K (a.put o.dst (.slice A (l.length + m) c')) w') :
    o.wp P a w K Q := by
  obtain ⟨xs, ho', hxs⟩ := hown
  obtain ⟨hi, hz, hsize, hby⟩ := hi
  have hnews' : ∀ j u, cs[j]? = some u → w.cell? ((⟨b, off, none⟩ : Addr).add j) = some u := fun j u hj => by
    have hadd : (⟨b, off, none⟩ : Addr).add j = ⟨b, off + j, none⟩ := by unfold Addr.add; split <;> simp_all
    rw [hadd]
    exact hnews j u hj
  obtain ⟨v', w', hrun, ho2, hgr, _, hv'⟩ := run_append_own_at (P := P) w base t o.type e i z S.sz bytes ht hi hz hsize hby hzs hsz v l.length xs ho' ⟨b, off, none⟩ m c cs hl hnews' h1 (by simp only [maxLen]; omega) hbytes hbase
  have hlen : (l ++ ys).length = l.length + m := by rw [List.length_append, hm]
  have hO : OwnR S base w' e v' (l ++ ys) := by
    refine ⟨xs ++ cs, by rw [hlen]; exact ho2, fun k hk => ?_⟩
    have kp : ∀ {y' : α} {f : Nat → Value}, S.E (ownD base w v) w y' f → S.E (ownD base w' v') w' y' f := fun hE => OwnR.keep (_row := none) (_xs' := []) ⟨xs, ho', hxs⟩ hgr.size hv' (fun k hk hne => hgr.block k hk (fun e => hne e.symm)) hE
    by_cases hkl : k < l.length
    · obtain ⟨f, hf, he⟩ := hxs k hkl
      refine ⟨f, fun j hj => ?_, ?_⟩
      · rw [List.getElem?_append_left]
        · exact hf j hj
        · rw [ho'.1]
          calc k * S.sz + j < k * S.sz + S.sz := by omega
            _ = (k + 1) * S.sz := by rw [Nat.add_mul, Nat.one_mul]
            _ ≤ l.length * S.sz := Nat.mul_le_mul_right _ hkl
      · rw [gt_append hkl]; exact kp he
    · obtain ⟨q, rfl⟩ : ∃ q, k = l.length + q := ⟨k - l.length, by omega⟩
      have hq : q < m := by rw [hlen] at hk; omega
      have hgq : gt (l ++ ys) (l.length + q) = gt ys q := by
        unfold gt
        simp [List.getElem?_append_right]
      have hql : q * S.sz + S.sz ≤ m * S.sz := by
        rw [← Nat.succ_mul]
        exact Nat.mul_le_mul_right _ hq
      refine ⟨fun j => cs.getD (q * S.sz + j) undef, fun j hj => ?_, by rw [hgq]; exact kp (hE q hq)⟩
      rw [List.getElem?_append_right (by rw [ho'.1, Nat.add_mul]; omega), ho'.1, show (l.length + q) * S.sz + j - l.length * S.sz = q * S.sz + j by rw [Nat.add_mul]; omega, List.getElem?_eq_getElem (by omega)]
      simp [show q * S.sz + j < cs.length by omega]
  obtain ⟨A, c', rfl, _⟩ := hO.form
  rw [hlen] at hO hrun hv'
  unfold Oper.wp execOp
  simp only [ho, resolve, invoke, builtin, Sem.run_bind, Sem.run_pure, Result.andThen_ok, List.map_toArray, List.map_cons, List.map_nil, hs, hx, hrun]
  exact (h A c' w' hO ⟨hgr.os, hgr.tape, hgr.output, hgr.size, fun k hk hd => hgr.block k hk (fun e => hd e.symm)⟩ hv')
end
def cellsG : List SignT → List Value
  | [] => []
  | x :: r => .string x.1 :: .int .i64 x.2.1 :: .int .i64 x.2.2 :: cellsG r
theorem cellsG_len : ∀ l : List SignT, (cellsG l).length = l.length * 3
  | [] => rfl
  | x :: r => by
    show (cellsG r).length + 1 + 1 + 1 = (r.length + 1) * 3
    rw [cellsG_len r]
    omega
theorem cellsG_get : ∀ (l : List SignT) (k : Nat), k < l.length → (cellsG l)[k * 3]? = some (.string (gt l k).1) ∧ (cellsG l)[k * 3 + 1]? = some (.int .i64 (gt l k).2.1) ∧ (cellsG l)[k * 3 + 2]? = some (.int .i64 (gt l k).2.2)
  | [], k, h => absurd h (by simp)
  | x :: r, 0, _ => by simp [cellsG, gt]
  | x :: r, k + 1, h => by
    have := cellsG_get r k (by simpa using h)
    rw [show (k + 1) * 3 = k * 3 + 1 + 1 + 1 by omega]
    simpa [cellsG, gt] using this
theorem cellsG_one : ∀ (l : List SignT), ∀ u ∈ cellsG l, u.oneCell' = true
  | [], u, hu => by cases hu
  | x :: r, u, hu => by
    have e : cellsG (x :: r) = .string x.1 :: .int .i64 x.2.1 :: .int .i64 x.2.2 :: cellsG r := rfl
    rw [e] at hu
    rcases List.mem_cons.1 hu with rfl | hu
    · rfl
    · rcases List.mem_cons.1 hu with rfl | hu
      · rfl
      · rcases List.mem_cons.1 hu with rfl | hu
        · rfl
        · exact cellsG_one r u hu
/-- Signs appended to a row of signs. -/
theorem wp_append_signs {P : Program} {o : Oper} {a : Act} {w : World} {K : Act → World → Prop} {Q : Exit → Act → World → Prop} (s x : Operand) (t : TypeId)
    (ho : o.op = .call { callee := .builtin .append, args := #[s, x], argTypes := #[t, t] })
    {base : Nat} {e : TypeId} {i : TypeInfo} {z : Value} {bytes : Nat} (ht : P.underlying t = some (.slice e)) (hi : P.info? e = some i ∧ i.zero = some z ∧ i.size = 3 ∧ i.bytes = bytes)
    (hzs : z.cells.size = 3)
    {v : Value} {l : List SignT} (hs : a.eval s = v) (hown : OwnR signS base w e v l)
    {b off m c lo : Nat} {ys : List SignT} (hx : a.eval x = .slice (some ⟨b, off, none⟩) m c) (hy : Rd signS lo w.heap.size w (some ⟨b, off, none⟩) m ys)
    (hbytes : (l.length + m) * bytes ≤ 140737488355328) (hm63 : l.length + m ≤ 9223372036854775807) (hbase : base ≤ w.heap.size)
    (h : ∀ A c' w', OwnR signS base w' e (.slice A (l.length + m) c') (l ++ ys) → Chg (fun k => v.ownBlock = some k) w w' → ((Value.slice A (l.length + m) c').ownBlock = v.ownBlock ∨ (Value.slice A (l.length + m) c').ownBlock = some w.heap.size) → K (a.put o.dst (.slice A (l.length + m) c')) w') :
    o.wp P a w K Q := by
  have hym := hy.1
  have hat : ∀ k, k < m → w.cell? ⟨b, off + k * 3, none⟩ = some (.string (gt ys k).1) ∧ w.cell? ⟨b, off + k * 3 + 1, none⟩ = some (.int .i64 (gt ys k).2.1) ∧ w.cell? ⟨b, off + k * 3 + 2, none⟩ = some (.int .i64 (gt ys k).2.2) ∧ (gt ys k).1.size ≤ 9223372036854775807 := fun k hk => by
    obtain ⟨b', off', he, _, _, hcx⟩ := hy.2.2 (by omega)
    injection he with he
    injection he with h1 h2 _
    subst h1 h2
    exact hcx.sign hk
  refine wp_append_Rn s x t ho signS ht hi hzs (by decide) hs hown (ys := ys) (cs := cellsG ys) hx hym.symm (by rw [cellsG_len, hym]; rfl) (fun j u hj => ?_) (fun u hu => ?_) (fun k hk => ?_) hm63 hbytes hbase h
  · have hjl := (List.getElem?_eq_some_iff.1 hj).1
    rw [cellsG_len] at hjl
    have hkl : j / 3 < ys.length := by omega
    obtain ⟨g0, g1, g2⟩ := cellsG_get ys (j / 3) hkl
    obtain ⟨c0, c1, c2, _⟩ := hat (j / 3) (by omega)
    have h3 : j = j / 3 * 3 ∨ j = j / 3 * 3 + 1 ∨ j = j / 3 * 3 + 2 := by omega
    rcases h3 with h3 | h3 | h3
    · rw [h3, g0] at hj
      injection hj with hj
      rw [h3, ← hj]
      exact c0
    · rw [h3, g1] at hj
      injection hj with hj
      rw [h3, ← hj, ← Nat.add_assoc]
      exact c1
    · rw [h3, g2] at hj
      injection hj with hj
      rw [h3, ← hj, ← Nat.add_assoc]
      exact c2
  · exact cellsG_one ys u hu
  · obtain ⟨g0, g1, g2⟩ := cellsG_get ys k (by omega)
    obtain ⟨_, _, _, hz⟩ := hat k hk
    have e0 : (cellsG ys).getD (k * 3 + 0) undef = .string (gt ys k).1 := by rw [Nat.add_zero, List.getD_eq_getElem?_getD, g0]; rfl
    have e1 : (cellsG ys).getD (k * 3 + 1) undef = .int .i64 (gt ys k).2.1 := by rw [List.getD_eq_getElem?_getD, g1]; rfl
    have e2 : (cellsG ys).getD (k * 3 + 2) undef = .int .i64 (gt ys k).2.2 := by rw [List.getD_eq_getElem?_getD, g2]; rfl
    exact ⟨⟨e0, hz⟩, e1, e2⟩
/-- An empty row of the call's own that has room for nothing. -/
theorem own_empty {α : Type} [Inhabited α] {S : Shape α} {base g : Nat} {w : World} {e : TypeId} {l : List α} (h : OwnR S base w e (.slice (some ⟨g, 0, none⟩) 0 0) l) : ∃ cur : Array Value, w.heap[g]? = some (.cells cur e (0, 0)) ∧ cur.size = 0 := by
  obtain ⟨xs, ⟨hl, h2⟩, _⟩ := h
  rcases h2 with ⟨h3, h0⟩ | ⟨g', cap, cur, h3, hg, hh, hc, hcm, hcs, htake⟩
  · cases h3
  · injection h3 with a1 a2 a3
    injection a1 with a1
    injection a1 with a1
    subst a1 a3
    exact ⟨cur, hh, by rw [hcs, Nat.zero_mul]⟩
end Go.Proofs.Ytigemahbopligaa
