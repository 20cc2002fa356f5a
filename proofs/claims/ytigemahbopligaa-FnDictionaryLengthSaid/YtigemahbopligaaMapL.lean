/- Maps whose entries are known one by one: look-ups with 'ok', stores at a new key. General; nothing here names the program. -/
import Derived.Test.YtigemahbopligaaMapTwo
import Derived.Test.YtigemahbopligaaLib
namespace Go.Proofs.Ytigemahbopligaa
open Go.RowKit Go.Maps
open Go.ChangeMaps (setBlock heap_setBlock_same heap_setBlock_other)
/-- Block b is a map with these entries, in this order. -/
def MapL (w : World) (b : Nat) (kv : List (Value × Value)) : Prop :=
  ∃ (es : Array MapEntry) (clock : Nat), w.heap[b]? = some (.map es clock) ∧ es.toList.map (fun e => (e.key, e.val)) = kv
section
variable {w w' : World} {b : Nat} {kv : List (Value × Value)}
theorem MapL.made (w : World) : MapL (w.alloc (.map #[] 0)) w.heap.size [] := ⟨#[], 0, (MapKept.heap_alloc w _).1, rfl⟩
theorem MapL.lt (h : MapL w b kv) : b < w.heap.size := by
  obtain ⟨es, clock, h1, _⟩ := h
  exact (Array.getElem?_eq_some_iff.1 h1).1
theorem MapL.chg (h : MapL w b kv) {D : Nat → Prop} (hc : Chg D w w') (hd : ¬ D b) : MapL w' b kv := by
  have hl := h.lt
  obtain ⟨es, clock, h1, h2⟩ := h
  exact ⟨es, clock, (hc.block b hl hd).trans h1, h2⟩
theorem MapL.bl (h : MapL w b kv) (hb : Below w.heap.size w w') : MapL w' b kv := by
  have hl := h.lt
  obtain ⟨es, clock, h1, h2⟩ := h
  exact ⟨es, clock, (hb.block b hl).trans h1, h2⟩
variable {P : Program} {k t e : TypeId}
theorem MapL.look (h : MapL w b kv) (K : Keyed P k) (ht : P.underlying t = some (.map k e)) {z : Value} (hz : (zeroValue e).run P w = .ok z w) (hk : ∀ p ∈ kv, ∃ l, keyOf P k p.1 = some l) {x : Value} {lx : Lit} (hx : keyOf P k x = some lx) :
    (∃ p ∈ kv, p.1 = x ∧ (Instr.lookup t (.map (some b)) x true).run P w = .ok (.tuple #[p.2, .bool true]) w) ∨ ((∀ p ∈ kv, p.1 ≠ x) ∧ (Instr.lookup t (.map (some b)) x true).run P w = .ok (.tuple #[z, .bool false]) w) := by
  obtain ⟨es, clock, hb, rfl⟩ := h
  have hes : ∀ y ∈ es.toList, ∃ l, keyOf P k y.key = some l := fun y hy => hk (y.key, y.val) (List.mem_map.2 ⟨y, hy, rfl⟩)
  rcases K.find w hx es.toList hes with ⟨h1, h2⟩ | ⟨j, e0, h1, h2, h3⟩
  · right
    refine ⟨fun p hp => ?_, ?_⟩
    · obtain ⟨y, hy, rfl⟩ := List.mem_map.1 hp
      exact h2 y hy
    · simp [Instr.lookup, run_underlying ht, MapKept.run_getObj_map hb, K.check w _ hx, h1, hz, Result.andThen]
  · left
    refine ⟨(e0.key, e0.val), List.mem_map.2 ⟨e0, List.mem_of_getElem? h2, rfl⟩, h3, ?_⟩
    simp [Instr.lookup, run_underlying ht, MapKept.run_getObj_map hb, K.check w _ hx, h1, Result.andThen]
theorem MapL.store (h : MapL w b kv) (K : Keyed P k) (ht : P.underlying t = some (.map k e)) (hk : ∀ p ∈ kv, ∃ l, keyOf P k p.1 = some l) {x : Value} {lx : Lit} (hx : keyOf P k x = some lx) (hnew : ∀ p ∈ kv, p.1 ≠ x) (val : Value) :
    ∃ w', (Instr.mapUpdate t (.map (some b)) x val).run P w = .ok () w' ∧ MapL w' b (kv ++ [(x, val)]) ∧ Chg (fun j => j = b) w w' := by
  obtain ⟨es, clock, hb, rfl⟩ := h
  have hes : ∀ y ∈ es.toList, ∃ l, keyOf P k y.key = some l := fun y hy => hk (y.key, y.val) (List.mem_map.2 ⟨y, hy, rfl⟩)
  rcases K.find w hx es.toList hes with ⟨h1, h2⟩ | ⟨j, e0, h1, h2, h3⟩
  · refine ⟨setBlock w b (.map (es.push ⟨x, val, clock⟩) (clock + 1)), ?_, ⟨_, _, heap_setBlock_same hb _, by simp⟩, ⟨rfl, rfl, rfl, by simp [setBlock], fun i _ hi => heap_setBlock_other hb _ hi⟩⟩
    simp [Instr.mapUpdate, run_underlying ht, MapKept.run_getObj_map hb, K.check w false hx, h1, MapKept.run_setObj_map _ hb, Result.andThen, setBlock]
  · exact absurd h3 (hnew (e0.key, e0.val) (List.mem_map.2 ⟨e0, List.mem_of_getElem? h2, rfl⟩))
end
end Go.Proofs.Ytigemahbopligaa
