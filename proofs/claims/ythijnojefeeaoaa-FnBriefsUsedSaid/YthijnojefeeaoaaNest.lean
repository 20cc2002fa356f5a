/- Rows of rows of the call's own: each row in a block of its own. General; nothing here names the program. -/
import Derived.Test.YthijnojefeeaoaaOwn
namespace Go.Proofs.Ythijnojefeeaoaa
open Go.RowKit
theorem Chg.drew' {D : Nat → Prop} {a b : World} (h : Chg D a b) : Chg D a b.drew := ⟨h.os, h.tape, h.output, h.size, h.block⟩
/-- Elements as plain values. -/
def valS : Shape Value where
  sz := 1
  E := fun _ _ x f => f 0 = x
  keep := fun _ _ _ _ _ _ h => h
  wide := fun _ _ _ _ _ _ h => h
  same := fun _ _ _ _ _ h e => by rw [← h 0 (by omega)]; exact e
theorem valS_flat : Shape.flat valS := fun _ _ _ _ _ _ h => h
/-- A row: its block, its capacity, what it reads as. -/
abbrev RowD : Type := Nat × Nat × List Int
def rowV (r : RowD) : Value := .slice (some ⟨r.1, 0, none⟩) r.2.2.length r.2.1
def RowAt (w : World) (e : TypeId) (r : RowD) : Prop :=
  ∃ cur : Array Value, w.heap[r.1]? = some (.cells cur e (0, 0)) ∧ r.2.2.length ≤ r.2.1 ∧ r.2.2.length ≤ cur.size ∧ r.2.2.length ≤ 9223372036854775807 ∧ ∀ j, j < r.2.2.length → cur[j]? = some (.int .i64 (gt r.2.2 j))
theorem RowAt.lt {w : World} {e : TypeId} {r : RowD} (h : RowAt w e r) : r.1 < w.heap.size := by
  obtain ⟨cur, h1, _⟩ := h
  exact (Array.getElem?_eq_some_iff.1 h1).1
theorem RowAt.cap {w : World} {e : TypeId} {r : RowD} (h : RowAt w e r) : r.2.2.length ≤ r.2.1 := by
  obtain ⟨_, _, h, _⟩ := h
  exact h
theorem RowAt.kept {w w' : World} {e : TypeId} {r : RowD} (h : RowAt w e r) (hb : w'.heap[r.1]? = w.heap[r.1]?) : RowAt w' e r := by
  obtain ⟨cur, h1, h2⟩ := h
  exact ⟨cur, hb.trans h1, h2⟩
theorem RowAt.rd {w : World} {e : TypeId} {r : RowD} (h : RowAt w e r) {D : Nat → Prop} (hD : D r.1) : RdD intS D w (some ⟨r.1, 0, none⟩) r.2.2.length r.2.2 := by
  obtain ⟨cur, h1, h2, h3, h4, h5⟩ := h
  refine ⟨rfl, h4, fun _ => ⟨r.1, 0, rfl, hD, fun k hk => ⟨fun _ => .int .i64 (gt r.2.2 k), fun j hj => ?_, rfl⟩⟩⟩
  have hj' : j < 1 := hj
  obtain rfl : j = 0 := by omega
  have hs : 0 + k * intS.sz + 0 = k := by show 0 + k * 1 + 0 = k; omega
  rw [hs, cell_of_row w _ _ cur e (0, 0) h1]
  exact h5 k hk
theorem OwnR.rowAt {base : Nat} {w : World} {e : TypeId} {g n c : Nat} {l : List Int} (h : OwnR intS base w e (.slice (some ⟨g, 0, none⟩) n c) l) (hm : l.length ≤ 9223372036854775807) : n = l.length ∧ RowAt w e (g, c, l) ∧ base ≤ g := by
  obtain ⟨xs, ⟨hl, h2⟩, hx⟩ := h
  rcases h2 with ⟨h3, h0⟩ | ⟨g', cap, cur, h3, hg, hh, hc, hcm, hcs, htake⟩
  · injection h3 with a1 a2 a3
    cases a1
  · injection h3 with a1 a2 a3
    injection a1 with a1
    injection a1 with a1
    subst a1 a2 a3
    have hcs' : cur.size = c * 1 := hcs
    refine ⟨rfl, ⟨cur, hh, hc, by show l.length ≤ cur.size; omega, hm, fun j hj => ?_⟩, hg⟩
    obtain ⟨f, hf, he⟩ := hx j hj
    have f0 := hf 0 (by show 0 < 1; omega)
    have s0 : j * intS.sz + 0 = j := by show j * 1 + 0 = j; omega
    have e0 : f 0 = .int .i64 (gt l j) := he
    rw [s0, e0, ← htake, List.getElem?_take] at f0
    split at f0
    · simpa using f0
    · cases f0
/-- The row of rows v, its rows in blocks from lo on and below hi, no two in one. -/
structure NestR (lo hi : Nat) (w : World) (et ei : TypeId) (v : Value) (rs : List RowD) : Prop where
  own : OwnR valS lo w et v (rs.map rowV)
  row : ∀ r ∈ rs, lo ≤ r.1 ∧ r.1 < hi ∧ v.ownBlock ≠ some r.1 ∧ RowAt w ei r
  one : (rs.map (·.1)).Nodup
section
variable {lo hi : Nat} {w w' : World} {et ei : TypeId} {v : Value} {rs : List RowD}
theorem NestR.keep (h : NestR lo hi w et ei v rs) {D : Nat → Prop} (hc : Chg D w w') (hv : ∀ k, v.ownBlock = some k → ¬ D k) (hr : ∀ r ∈ rs, ¬ D r.1) : NestR lo hi w' et ei v rs :=
  ⟨h.own.flat valS_flat hc hv, fun r hm => by
    obtain ⟨h1, h2, h3, h4⟩ := h.row r hm
    exact ⟨h1, h2, h3, h4.kept (hc.block _ h4.lt (hr r hm))⟩, h.one⟩
theorem NestR.bl (h : NestR lo hi w et ei v rs) (hb : Below w.heap.size w w') : NestR lo hi w' et ei v rs :=
  h.keep (chg_below hb) (fun k hk => by have := (h.own.own_lt hk).2; omega) (fun r hr => by have := (h.row r hr).2.2.2.lt; omega)
theorem NestR.wide (h : NestR lo hi w et ei v rs) {hi' : Nat} (hh : hi ≤ hi') : NestR lo hi' w et ei v rs :=
  ⟨h.own, fun r hm => by obtain ⟨h1, h2, h3⟩ := h.row r hm; exact ⟨h1, by omega, h3⟩, h.one⟩
theorem NestR.rd {A : Option Addr} {n c : Nat} (h : NestR lo hi w et ei (.slice A n c) rs) (hm : rs.length ≤ 9223372036854775807) : n = rs.length ∧ Rd (sliceS intS) lo w.heap.size w A n (rs.map (·.2.2)) := by
  obtain ⟨hn, hrd⟩ := h.own.rd (by rw [List.length_map]; exact hm)
  rw [List.length_map] at hn
  refine ⟨hn, Rd_iff.2 ⟨by rw [List.length_map]; exact hn, hrd.2.1, fun h0 => ?_⟩⟩
  obtain ⟨b, off, hA, h1, h2, ha⟩ := hrd.2.2 h0
  refine ⟨b, off, hA, ⟨h1, h2⟩, fun k hk => ?_⟩
  obtain ⟨f, hf, he⟩ := ha k hk
  have hkl : k < rs.length := by omega
  have hmem := gt_mem hkl
  obtain ⟨r1, r2, r3, r4⟩ := h.row _ hmem
  have he' : f 0 = rowV (gt rs k) := by
    have : f 0 = gt (rs.map rowV) k := he
    rw [this, gt_map hkl]
  refine ⟨f, hf, ?_⟩
  rw [gt_map hkl]
  exact ⟨_, _, he', r4.cap, r4.rd ⟨r1, r4.lt⟩⟩
theorem NestR.nil (hb : lo ≤ w.heap.size) (cs : Array Value) (hcs : cs.size = 0) : NestR lo hi (w.alloc (.cells cs et)) et ei (.slice (some ⟨w.heap.size, 0, none⟩) 0 0) [] :=
  ⟨OwnR.nil hb cs (by simpa using hcs), (fun r hr => by cases hr), List.nodup_nil⟩
theorem NestR.nil0 : NestR lo hi w et ei (.slice none 0 0) [] := ⟨OwnR.nil0, (fun r hr => by cases hr), List.nodup_nil⟩
/-- One more row, which lies in a block of its own, once its slice has been appended. -/
theorem NestR.snoc {v' : Value} {r : RowD} (h : NestR lo hi w et ei v rs) (hr : RowAt w ei r) (h1 : lo ≤ r.1) (h2 : r.1 < hi) (h3 : v.ownBlock ≠ some r.1) (h4 : ∀ q ∈ rs, q.1 ≠ r.1)
    (ho : OwnR valS lo w' et v' (rs.map rowV ++ [rowV r])) (hc : Chg (fun k => v.ownBlock = some k) w w') (hv : v'.ownBlock = v.ownBlock ∨ v'.ownBlock = some w.heap.size) : NestR lo hi w' et ei v' (rs ++ [r]) := by
  refine ⟨by rw [List.map_append]; exact ho, fun q hq => ?_, ?_⟩
  · have hq' : lo ≤ q.1 ∧ q.1 < hi ∧ v.ownBlock ≠ some q.1 ∧ RowAt w ei q := by
      rcases List.mem_append.1 hq with hq | hq
      · exact h.row q hq
      · rw [List.mem_singleton] at hq
        subst hq
        exact ⟨h1, h2, h3, hr⟩
    obtain ⟨a1, a2, a3, a4⟩ := hq'
    refine ⟨a1, a2, ?_, a4.kept (hc.block _ a4.lt a3)⟩
    rcases hv with hv | hv
    · rw [hv]; exact a3
    · rw [hv]
      intro e
      injection e with e
      have := a4.lt
      omega
  · rw [List.map_append]
    refine List.nodup_append.2 ⟨h.one, by simp, fun a ha b hb => ?_⟩
    obtain ⟨q, hq, rfl⟩ := List.mem_map.1 ha
    simp only [List.map_cons, List.map_nil, List.mem_singleton] at hb
    rw [hb]
    exact h4 q hq
end
section
variable {P : Program}
/-- A slice that reads as ys, appended to a row of numbers of the call's own. -/
theorem wpList_append_ints {ops : Array Oper} {rest : List Oper} {o : Oper} {a : Act} {w : World} {Q : Exit → Act → World → Prop} (hgd : o.guard = none) (s x : Operand) (t : TypeId)
    (ho : o.op = .call { callee := .builtin .append, args := #[s, x], argTypes := #[t, t] })
    {base : Nat} {e : TypeId} {i : TypeInfo} {z : Value} (ht : P.underlying t = some (.slice e)) (hi : P.info? e = some i ∧ i.zero = some z ∧ i.size = 1 ∧ i.bytes = 8) (hzs : z.cells.size = 1)
    {v : Value} {l : List Int} (hs : a.eval s = v) (hown : OwnR intS base w e v l)
    {b off m c : Nat} {ys : List Int} (hx : a.eval x = .slice (some ⟨b, off, none⟩) m c) (hm : ys.length = m) (hy : ∀ k, k < m → w.cell? ⟨b, off + k, none⟩ = some (.int .i64 (gt ys k)))
    (hbytes : (l.length + m) * 8 ≤ 140737488355328) (hbase : base ≤ w.heap.size)
    (h : ∀ A c' w', OwnR intS base w' e (.slice A (l.length + m) c') (l ++ ys) → Chg (fun k => v.ownBlock = some k) w w' → ((Value.slice A (l.length + m) c').ownBlock = v.ownBlock ∨ (Value.slice A (l.length + m) c').ownBlock = some w.heap.size) → wpList P ops Q rest (a.put o.dst (.slice A (l.length + m) c')) w') :
    wpList P ops Q (o :: rest) a w := by
  refine wpList_plain hgd fun K hK => ?_
  obtain ⟨xs, ho', hxs⟩ := hown
  obtain ⟨hi, hz, hsize, hby⟩ := hi
  have hnews : ∀ j u, (ys.map (Value.int .i64))[j]? = some u → w.cell? ((⟨b, off, none⟩ : Addr).add j) = some u := fun j u hj => by
    have hadd : (⟨b, off, none⟩ : Addr).add j = ⟨b, off + j, none⟩ := by unfold Addr.add; split <;> simp_all
    rw [List.getElem?_map, Option.map_eq_some_iff] at hj
    obtain ⟨y, hy1, rfl⟩ := hj
    have hjl := (List.getElem?_eq_some_iff.1 hy1).1
    rw [hadd, hy j (by omega)]
    simp [gt, hy1]
  obtain ⟨v', w', hrun, ho2, hgr, _, hv'⟩ := run_append_own_at (P := P) w base t o.type e i z 1 8 ht hi hz hsize hby hzs (by decide) v l.length xs ho' ⟨b, off, none⟩ m c (ys.map (Value.int .i64)) (by rw [List.length_map]; omega) hnews (fun u hu => by obtain ⟨y, _, rfl⟩ := List.mem_map.1 hu; rfl) (by simp only [maxLen]; omega) hbytes hbase
  have hlen : (l ++ ys).length = l.length + m := by rw [List.length_append, hm]
  have hO : OwnR intS base w' e v' (l ++ ys) := by
    refine ⟨xs ++ ys.map (Value.int .i64), by rw [hlen]; exact ho2, fun k hk => ?_⟩
    have hxl : xs.length = l.length * 1 := ho'.1
    by_cases hkl : k < l.length
    · obtain ⟨f, hf, he⟩ := hxs k hkl
      refine ⟨f, fun j hj => ?_, ?_⟩
      · have hj' : j < 1 := hj
        rw [List.getElem?_append_left (by show k * 1 + j < _; omega)]
        exact hf j hj
      · rw [gt_append hkl]; exact he
    · refine ⟨fun _ => .int .i64 (gt (l ++ ys) k), fun j hj => ?_, rfl⟩
      have hj' : j < 1 := hj
      obtain rfl : j = 0 := by omega
      have s0 : k * intS.sz + 0 = k := by show k * 1 + 0 = k; omega
      have hk' : k < (l ++ ys).length := hk
      rw [hlen] at hk'
      rw [s0, List.getElem?_append_right (by omega), hxl, Nat.mul_one, List.getElem?_map, List.getElem?_eq_getElem (by omega)]
      have : gt (l ++ ys) k = ys[k - l.length]'(by omega) := by
        unfold gt
        rw [List.getD_eq_getElem?_getD, List.getElem?_append_right (by omega), List.getElem?_eq_getElem (by omega)]
        rfl
      rw [this]
      rfl
  obtain ⟨A, c', rfl, _⟩ := hO.form
  rw [hlen] at hO hrun hv'
  unfold Oper.wp execOp
  simp only [ho, resolve, invoke, builtin, Sem.run_bind, Sem.run_pure, Result.andThen_ok, List.map_toArray, List.map_cons, List.map_nil, hs, hx, hrun]
  exact hK _ _ (h A c' w' hO ⟨hgr.os, hgr.tape, hgr.output, hgr.size, fun k hk hd => hgr.block k hk (fun e => hd e.symm)⟩ hv')
end
end Go.Proofs.Ythijnojefeeaoaa
