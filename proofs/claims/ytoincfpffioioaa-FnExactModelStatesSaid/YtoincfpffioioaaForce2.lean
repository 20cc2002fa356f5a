/- PageForce and PageJoin: what the reference's and the program's functions return. -/
import Derived.Test.YtoincfpffioioaaForce
import Derived.Test.YtoincfpffioioaaWeigh
namespace Go.Proofs.Ytoincfpffioioaa
open Go.RowKit
/-- Rows of the call's own, and whether there are any. -/
def RetR2 (w : World) (xs : List (List Int)) (ok : Bool) (e : Ending) (w' : World) : Prop :=
  ∃ B d rs, e = .returned (.tuple #[.slice B xs.length d, .bool ok]) ∧ NestR w.heap.size w'.heap.size w' 22 3 (.slice B xs.length d) rs ∧ rs.map (·.2.2) = xs ∧ Below w.heap.size w w'
def RetRB (w : World) (V : Option (List (List Int))) : Ending → World → Prop := RetR2 w (V.getD []) V.isSome
theorem RetRB.of {w w' : World} {V : Option (List (List Int))} {xs : List (List Int)} {ok : Bool} {B : Option Addr} {n d : Nat} {rs : List RowD} (h1 : V.getD [] = xs) (h2 : V.isSome = ok) (hn : n = xs.length) (hN : NestR w.heap.size w'.heap.size w' 22 3 (.slice B n d) rs) (hr : rs.map (·.2.2) = xs) (hb : Below w.heap.size w w') : RetRB w V (.returned (.tuple #[.slice B n d, .bool ok])) w' := by
  subst h1 h2 hn
  exact ⟨B, d, rs, rfl, hN, hr, hb⟩
def forceV (n : Int) (page : List (List Int)) (a x : Int) : Option (List (List Int)) := if pageOk n page && (inB a 0 ((page.length : Int) - 1) && hasI (gt page a.toNat) x) then some (forceL a x 0 page) else none
def joinV (n : Int) (a b : List (List Int)) : Option (List (List Int)) := if pageOk n a && (pageOk n b && decide (a.length + b.length ≤ 8)) then some (a ++ b) else none
section
variable {P : Program}
/-- A slice of values, appended to a row of values of the call's own. -/
theorem wpList_append_vals {ops : Array Oper} {rest : List Oper} {o : Oper} {a : Act} {w : World} {Q : Exit → Act → World → Prop} (hgd : o.guard = none) (s x : Operand) (t : TypeId)
    (ho : o.op = .call { callee := .builtin .append, args := #[s, x], argTypes := #[t, t] })
    {base : Nat} {e : TypeId} {i : TypeInfo} {z : Value} {bytes : Nat} (ht : P.underlying t = some (.slice e)) (hi : P.info? e = some i ∧ i.zero = some z ∧ i.size = 1 ∧ i.bytes = bytes) (hzs : z.cells.size = 1)
    {v : Value} {l : List Value} (hs : a.eval s = v) (hown : OwnR valS base w e v l)
    {b off m c : Nat} {ys : List Value} (hx : a.eval x = .slice (some ⟨b, off, none⟩) m c) (hm : ys.length = m) (hy : ∀ k, k < m → w.cell? ⟨b, off + k, none⟩ = some (gt ys k)) (h1 : ∀ u ∈ ys, u.oneCell' = true)
    (h63 : l.length + m ≤ 9223372036854775807) (hbytes : (l.length + m) * bytes ≤ 140737488355328) (hbase : base ≤ w.heap.size)
    (h : ∀ A c' w', OwnR valS base w' e (.slice A (l.length + m) c') (l ++ ys) → Chg (fun k => v.ownBlock = some k) w w' → ((Value.slice A (l.length + m) c').ownBlock = v.ownBlock ∨ (Value.slice A (l.length + m) c').ownBlock = some w.heap.size) → wpList P ops Q rest (a.put o.dst (.slice A (l.length + m) c')) w') :
    wpList P ops Q (o :: rest) a w := by
  refine wpList_plain hgd fun K hK => ?_
  obtain ⟨xs, ho', hxs⟩ := hown
  obtain ⟨hi, hz, hsize, hby⟩ := hi
  have hnews : ∀ j u, ys[j]? = some u → w.cell? ((⟨b, off, none⟩ : Addr).add j) = some u := fun j u hj => by
    have hadd : (⟨b, off, none⟩ : Addr).add j = ⟨b, off + j, none⟩ := by unfold Addr.add; split <;> simp_all
    have hjl := (List.getElem?_eq_some_iff.1 hj).1
    rw [hadd, hy j (by omega)]
    simp [gt, hj]
  obtain ⟨v', w', hrun, ho2, hgr, _, hv'⟩ := run_append_own_at (P := P) w base t o.type e i z 1 bytes ht hi hz hsize hby hzs (by decide) v l.length xs ho' ⟨b, off, none⟩ m c ys (by rw [hm]; omega) hnews h1 (by simp only [maxLen]; omega) hbytes hbase
  have hlen : (l ++ ys).length = l.length + m := by rw [List.length_append, hm]
  have hO : OwnR valS base w' e v' (l ++ ys) := by
    refine ⟨xs ++ ys, by rw [hlen]; exact ho2, fun k hk => ?_⟩
    have hxl : xs.length = l.length * 1 := ho'.1
    by_cases hkl : k < l.length
    · obtain ⟨f, hf, he⟩ := hxs k hkl
      refine ⟨f, fun j hj => ?_, ?_⟩
      · have hj' : j < 1 := hj
        rw [List.getElem?_append_left (by show k * 1 + j < _; omega)]
        exact hf j hj
      · rw [gt_append hkl]; exact he
    · refine ⟨fun _ => gt (l ++ ys) k, fun j hj => ?_, rfl⟩
      have hj' : j < 1 := hj
      obtain rfl : j = 0 := by omega
      have s0 : k * valS.sz + 0 = k := by show k * 1 + 0 = k; omega
      have hk' : k < (l ++ ys).length := hk
      rw [hlen] at hk'
      rw [s0, List.getElem?_append_right (by omega), hxl, Nat.mul_one, List.getElem?_eq_getElem (by omega)]
      have : gt (l ++ ys) k = ys[k - l.length]'(by omega) := by
        unfold gt
        rw [List.getD_eq_getElem?_getD, List.getElem?_append_right (by omega), List.getElem?_eq_getElem (by omega)]
        rfl
      rw [this]
  obtain ⟨A, c', rfl, _⟩ := hO.form
  rw [hlen] at hO hrun hv'
  unfold Oper.wp execOp
  simp only [ho, resolve, invoke, builtin, Sem.run_bind, Sem.run_pure, Result.andThen_ok, List.map_toArray, List.map_cons, List.map_nil, hs, hx, hrun]
  exact hK _ _ (h A c' w' hO ⟨hgr.os, hgr.tape, hgr.output, hgr.size, fun k hk hd => hgr.block k hk (fun e => hd e.symm)⟩ hv')
end
/-- Rows behind rows. -/
theorem NestR.append {lo hi hi2 : Nat} {w w' : World} {et ei : TypeId} {v v' : Value} {rs ss : List RowD} (h : NestR lo hi w et ei v rs) (hs : ∀ r ∈ ss, hi ≤ r.1 ∧ r.1 < hi2 ∧ RowAt w ei r) (h1 : (ss.map (·.1)).Nodup) (hv0 : ∀ r ∈ ss, v.ownBlock ≠ some r.1) (hlo : lo ≤ hi) (hh : hi ≤ hi2)
    (ho : OwnR valS lo w' et v' (rs.map rowV ++ ss.map rowV)) (hc : Chg (fun k => v.ownBlock = some k) w w') (hv : v'.ownBlock = v.ownBlock ∨ v'.ownBlock = some w.heap.size) : NestR lo hi2 w' et ei v' (rs ++ ss) := by
  refine ⟨by rw [List.map_append]; exact ho, fun q hq => ?_, ?_⟩
  · have hq' : lo ≤ q.1 ∧ q.1 < hi2 ∧ v.ownBlock ≠ some q.1 ∧ RowAt w ei q := by
      rcases List.mem_append.1 hq with hq | hq
      · obtain ⟨a1, a2, a3, a4⟩ := h.row q hq
        exact ⟨a1, by omega, a3, a4⟩
      · obtain ⟨a1, a2, a3⟩ := hs q hq
        exact ⟨by omega, a2, hv0 q hq, a3⟩
    obtain ⟨a1, a2, a3, a4⟩ := hq'
    refine ⟨a1, a2, ?_, a4.kept (hc.block _ a4.lt a3)⟩
    rcases hv with hv | hv
    · rw [hv]; exact a3
    · rw [hv]
      intro e
      injection e with e
      have := a4.lt
      omega
  · rw [List.map_append]
    refine List.nodup_append.2 ⟨h.one, h1, fun a ha b hb => ?_⟩
    obtain ⟨q, hq, rfl⟩ := List.mem_map.1 ha
    obtain ⟨r, hr, rfl⟩ := List.mem_map.1 hb
    have := (h.row q hq).2.1
    have := (hs r hr).1
    omega
end Go.Proofs.Ytoincfpffioioaa
