/- Appends, operation by operation, for drawn regions. General; nothing here names the program. -/
import Derived.Test.YthijnojefeeaoaaMarkB2
import Derived.Test.YthijnojefeeaoaaRegInv
namespace Go.Proofs.Ythijnojefeeaoaa
open Go.RowKit
section
variable {P : Program} {α : Type} [Inhabited α]
/-- As wp_append_R, and it tells which block has turned. -/
theorem wp_append_R2 {o : Oper} {a : Act} {w : World} {K : Act → World → Prop} {Q : Exit → Act → World → Prop} (s x : Operand) (t : TypeId)
    (ho : o.op = .call { callee := .builtin .append, args := #[s, x], argTypes := #[t, t] })
    {base : Nat} {e : TypeId} {i : TypeInfo} {z : Value} {bytes : Nat} (S : Shape α) (ht : P.underlying t = some (.slice e)) (hi : P.info? e = some i ∧ i.zero = some z ∧ i.size = S.sz ∧ i.bytes = bytes)
    (hzs : z.cells.size = S.sz) (hsz : 0 < S.sz)
    {v : Value} {l : List α} (hs : a.eval s = v) (hown : OwnR S base w e v l)
    {g c : Nat} {cs : List Value} {tg : TypeId} {y : α} (hx : a.eval x = .slice (some ⟨g, 0, none⟩) 1 c) (hg : w.heap[g]? = some (.cells cs.toArray tg (0, 0))) (hl : cs.length = S.sz) (h1 : ∀ u ∈ cs, u.oneCell' = true) (hE : S.E (ownD base w v) w y (fun j => cs.getD j undef))
    (h63 : l.length + 1 ≤ 9223372036854775807) (hbytes : (l.length + 1) * bytes ≤ 140737488355328) (hbase : base ≤ w.heap.size)
    (h : ∀ A c' w', OwnR S base w' e (.slice A (l.length + 1) c') (l ++ [y]) → Chg (fun k => v.ownBlock = some k) w w' → ((Value.slice A (l.length + 1) c').ownBlock = v.ownBlock ∨ (Value.slice A (l.length + 1) c').ownBlock = some w.heap.size) → K (a.put o.dst (.slice A (l.length + 1) c')) w') :
    o.wp P a w K Q := by
  obtain ⟨xs, ho', hxs⟩ := hown
  obtain ⟨hi, hz, hsize, hby⟩ := hi
  have hnews : ∀ j u, cs[j]? = some u → w.cell? ((⟨g, 0, none⟩ : Addr).add j) = some u := fun j u hj => by
    have hadd : (⟨g, 0, none⟩ : Addr).add j = ⟨g, j, none⟩ := by unfold Addr.add; split <;> simp_all
    rw [hadd, cell_of_row w g j _ tg (0, 0) hg]
    simpa using hj
  obtain ⟨v', w', hrun, ho2, hgr, _, hv'⟩ := run_append_own_at (P := P) w base t o.type e i z S.sz bytes ht hi hz hsize hby hzs hsz v l.length xs ho' ⟨g, 0, none⟩ 1 c cs (by omega) hnews h1 (by simp only [maxLen]; omega) hbytes hbase
  have hlen : (l ++ [y]).length = l.length + 1 := by simp
  have hO : OwnR S base w' e v' (l ++ [y]) := by
    refine ⟨xs ++ cs, by rw [hlen]; exact ho2, fun k hk => ?_⟩
    have kp : ∀ {y' : α} {f : Nat → Value}, S.E (ownD base w v) w y' f → S.E (ownD base w' v') w' y' f := fun hE => OwnR.keep (_row := none) (_xs' := []) ⟨xs, ho', hxs⟩ hgr.size hv' (fun k hk hne => hgr.block k hk (fun e => hne e.symm)) hE
    by_cases hkl : k < l.length
    · obtain ⟨f, hf, he⟩ := hxs k hkl
      refine ⟨f, fun j hj => ?_, ?_⟩
      · rw [List.getElem?_append_left]
        · exact hf j hj
        · rw [ho'.1]
          calc k * S.sz + j < k * S.sz + S.sz := by omega
            _ = (k + 1) * S.sz := by rw [Nat.add_mul, Nat.one_mul]
            _ ≤ l.length * S.sz := Nat.mul_le_mul_right _ hkl
      · rw [gt_append hkl]; exact kp he
    · obtain rfl : k = l.length := by rw [hlen] at hk; omega
      refine ⟨fun j => cs.getD j undef, fun j hj => ?_, by rw [gt_last]; exact kp hE⟩
      rw [List.getElem?_append_right (by rw [ho'.1]; omega), ho'.1, show l.length * S.sz + j - l.length * S.sz = j by omega, List.getElem?_eq_getElem (by omega)]
      simp [show j < cs.length by omega]
  obtain ⟨A, c', rfl, _⟩ := hO.form
  rw [hlen] at hO hrun hv'
  unfold Oper.wp execOp
  simp only [ho, resolve, invoke, builtin, Sem.run_bind, Sem.run_pure, Result.andThen_ok, List.map_toArray, List.map_cons, List.map_nil, hs, hx, hrun]
  exact (h A c' w' hO ⟨hgr.os, hgr.tape, hgr.output, hgr.size, fun k hk hd => hgr.block k hk (fun e => hd e.symm)⟩ hv')
end

/-- Nothing is appended. -/
theorem run_append_owned_nil {P : Program} (w : World) (base : Nat) (t ty e : TypeId) (i : TypeInfo) (size c : Nat) (ht : P.underlying t = some (.slice e)) (hi : P.info? e = some i)
    (v : Value) (n : Nat) (xs : List Value) (hown : w.ownsRow base e size v n xs) :
    (Builtin.append_ #[t, t] ty #[v, .slice none 0 c]).run P w = .ok v w := by
  rcases hown.2 with ⟨rfl, rfl⟩ | ⟨g, cap, cur, rfl, _, _, hnc, _⟩
  · simp [Builtin.append_, run_underlying ht, sizeOf, typeInfo, hi, Builtin.lenOf, Builtin.firstCells]
  · simp [Builtin.append_, run_underlying ht, sizeOf, typeInfo, hi, Builtin.lenOf, Builtin.firstCells, hnc, storeCells]
theorem own_strs {base : Nat} {w : World} {e : TypeId} {v : Value} {l : List ByteArray} (hl : ∀ s ∈ l, s.size ≤ 9223372036854775807) (h : w.ownsRow base e 1 v l.length (l.map Value.string)) : OwnR strS base w e v l := by
  refine ⟨_, h, fun k hk => ⟨fun _ => .string (gt l k), fun j hj => ?_, rfl, hl _ (gt_mem hk)⟩⟩
  have hj' : j < 1 := hj
  obtain rfl : j = 0 := by omega
  have s0 : k * strS.sz + 0 = k := by show k * 1 + 0 = k; omega
  rw [s0, List.getElem?_map, List.getElem?_eq_getElem hk, gt_eq hk]
  rfl
theorem strs_own {base : Nat} {w : World} {e : TypeId} {v : Value} {l : List ByteArray} (h : OwnR strS base w e v l) : w.ownsRow base e 1 v l.length (l.map Value.string) ∧ ∀ s ∈ l, s.size ≤ 9223372036854775807 := by
  obtain ⟨xs, ho, hx⟩ := h
  have hxl : xs.length = l.length * 1 := ho.1
  have hk : ∀ k, k < l.length → xs[k]? = some (.string (gt l k)) ∧ (gt l k).size ≤ 9223372036854775807 := fun k hk => by
    obtain ⟨f, hf, e0, e9⟩ := hx k hk
    have f0 := hf 0 (by show 0 < 1; omega)
    have s0 : k * strS.sz + 0 = k := by show k * 1 + 0 = k; omega
    rw [s0, e0] at f0
    exact ⟨f0, e9⟩
  have : xs = l.map Value.string := by
    apply List.ext_getElem?
    intro k
    by_cases hkl : k < l.length
    · rw [(hk k hkl).1, List.getElem?_map, List.getElem?_eq_getElem hkl, gt_eq hkl]
      rfl
    · rw [List.getElem?_eq_none (by omega), List.getElem?_eq_none (by rw [List.length_map]; omega)]
  refine ⟨by rw [← this]; exact ho, fun s hs => ?_⟩
  obtain ⟨k, hkl, rfl⟩ := List.getElem_of_mem hs
  rw [← gt_eq hkl]
  exact (hk k hkl).2
/-- A slice of texts, appended to a row of texts of the call's own. -/
theorem wp_append_strs {P : Program} {o : Oper} {a : Act} {w : World} {K : Act → World → Prop} {Q : Exit → Act → World → Prop} (s x : Operand) (t : TypeId)
    (ho : o.op = .call { callee := .builtin .append, args := #[s, x], argTypes := #[t, t] })
    {base : Nat} {e : TypeId} {i : TypeInfo} {z : Value} (ht : P.underlying t = some (.slice e)) (hi : P.info? e = some i ∧ i.zero = some z ∧ i.size = 1 ∧ i.bytes = 16) (hzs : z.cells.size = 1)
    {v : Value} {l : List ByteArray} (hs : a.eval s = v) (hown : OwnR strS base w e v l)
    {A : Option Addr} {m c : Nat} {ys : List ByteArray} (hx : a.eval x = .slice A m c) (hm : ys.length = m) (hy : Rd strS 0 w.heap.size w A m ys)
    (hbytes : (l.length + m) * 16 ≤ 140737488355328) (hbase : base ≤ w.heap.size)
    (h : ∀ A' c' w', OwnR strS base w' e (.slice A' (l.length + m) c') (l ++ ys) → Chg (fun k => v.ownBlock = some k) w w' → ((Value.slice A' (l.length + m) c').ownBlock = v.ownBlock ∨ (Value.slice A' (l.length + m) c').ownBlock = some w.heap.size) → K (a.put o.dst (.slice A' (l.length + m) c')) w') :
    o.wp P a w K Q := by
  obtain ⟨ho', hls⟩ := strs_own hown
  obtain ⟨hi, hz, hsize, hby⟩ := hi
  have hfin : ∀ v' w', (Builtin.append_ #[t, t] o.type #[v, .slice A m c]).run P w = .ok v' w' → w'.ownsRow base e 1 v' (l.length + m) (l.map Value.string ++ ys.map Value.string) → w.grownBy w' v.ownBlock → (v'.ownBlock = v.ownBlock ∨ v'.ownBlock = some w.heap.size) → o.wp P a w K Q := by
    intro v' w' hrun ho2 hgr hv'
    have hys : ∀ s ∈ ys, s.size ≤ 9223372036854775807 := fun s hsm => by
      obtain ⟨k, hk, rfl⟩ := List.getElem_of_mem hsm
      obtain ⟨b, off, _, _, _, hcx⟩ := hy.2.2 (by omega)
      have := (hcx.str (k := k) (by omega)).2
      rwa [gt_eq hk] at this
    have hO : OwnR strS base w' e v' (l ++ ys) := own_strs (fun s hsm => by rcases List.mem_append.1 hsm with h | h; exact hls s h; exact hys s h) (by rw [List.length_append, hm, List.map_append]; exact ho2)
    obtain ⟨A', c', rfl, _⟩ := hO.form
    have hlen : (l ++ ys).length = l.length + m := by rw [List.length_append, hm]
    rw [hlen] at hO hrun hv'
    unfold Oper.wp execOp
    simp only [ho, resolve, invoke, builtin, Sem.run_bind, Sem.run_pure, Result.andThen_ok, List.map_toArray, List.map_cons, List.map_nil, hs, hx, hrun]
    exact (h A' c' w' hO ⟨hgr.os, hgr.tape, hgr.output, hgr.size, fun k hk hd => hgr.block k hk (fun e => hd e.symm)⟩ hv')
  by_cases hm0 : 0 < m
  · obtain ⟨b, off, rfl, _, _, hcx⟩ := hy.2.2 hm0
    have hnews : ∀ j u, (ys.map Value.string)[j]? = some u → w.cell? ((⟨b, off, none⟩ : Addr).add j) = some u := fun j u hj => by
      have hadd : (⟨b, off, none⟩ : Addr).add j = ⟨b, off + j, none⟩ := by unfold Addr.add; split <;> simp_all
      rw [List.getElem?_map, Option.map_eq_some_iff] at hj
      obtain ⟨y, hy1, rfl⟩ := hj
      have hjl := (List.getElem?_eq_some_iff.1 hy1).1
      rw [hadd, (hcx.str (k := j) (by omega)).1]
      simp [gt, hy1]
    obtain ⟨v', w', hrun, ho2, hgr, _, hv'⟩ := run_append_own_at (P := P) w base t o.type e i z 1 16 ht hi hz hsize hby hzs (by decide) v l.length (l.map Value.string) ho' ⟨b, off, none⟩ m c (ys.map Value.string) (by rw [List.length_map]; omega) hnews (fun u hu => by obtain ⟨y, _, rfl⟩ := List.mem_map.1 hu; rfl) (by simp only [maxLen]; omega) hbytes hbase
    exact hfin v' w' hrun ho2 hgr hv'
  · obtain rfl : m = 0 := by omega
    obtain rfl : ys = [] := List.length_eq_zero_iff.1 hm
    rcases A with _ | aa
    · exact hfin v w (run_append_owned_nil w base t o.type e i 1 c ht hi v l.length _ ho') (by simpa using ho') ⟨rfl, rfl, rfl, Nat.le_refl _, fun _ _ _ => rfl⟩ (.inl rfl)
    · obtain ⟨v', w', hrun, ho2, hgr, _, hv'⟩ := run_append_own_at (P := P) w base t o.type e i z 1 16 ht hi hz hsize hby hzs (by decide) v l.length (l.map Value.string) ho' aa 0 c [] (by simp) (fun j u hj => by simp at hj) (fun u hu => by cases hu) (by simp only [maxLen]; omega) hbytes hbase
      exact hfin v' w' hrun (by simpa using ho2) hgr hv'
/-- What owns a row and has a block lies there. -/
theorem OwnR.at_block {α : Type} [Inhabited α] {S : Shape α} {base : Nat} {w : World} {e : TypeId} {A : Option Addr} {n c k : Nat} {l : List α} (h : OwnR S base w e (.slice A n c) l) (hk : (Value.slice A n c).ownBlock = some k) : A = some ⟨k, 0, none⟩ := by
  obtain ⟨xs, ⟨hl, h2⟩, hx⟩ := h
  rcases h2 with ⟨h3, h0⟩ | ⟨g', cap, cur, h3, hg, hh, hc, hcm, hcs, htake⟩
  · injection h3 with a1 _ _
    subst a1
    cases hk
  · injection h3 with a1 _ _
    subst a1
    injection hk with hk
    rw [← hk]
end Go.Proofs.Ythijnojefeeaoaa
