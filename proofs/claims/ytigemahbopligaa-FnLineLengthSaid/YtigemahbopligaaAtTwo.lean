/- Blocks of two cells. General; nothing here names the program. -/
import Derived.Test.YtigemahbopligaaOwn
import Derived.StillTailTactics
namespace Go.Proofs.Ytigemahbopligaa
open Go.RowKit
theorem at_set0 {w : World} {b e : Nat} {x y v : Value} (h : w.heap[b]? = some (.cells #[x, y] e (0, 0))) : (w.setCell ⟨b, 0, none⟩ v).heap[b]? = some (.cells #[v, y] e (0, 0)) := by
  rw [heap_setCell_same w b 0 _ e v h]; rfl
theorem at_set1 {w : World} {b e : Nat} {x y v : Value} (h : w.heap[b]? = some (.cells #[x, y] e (0, 0))) : (w.setCell ⟨b, 1, none⟩ v).heap[b]? = some (.cells #[x, v] e (0, 0)) := by
  rw [heap_setCell_same w b 1 _ e v h]; rfl
theorem at_get {w : World} {b e : Nat} {x y : Value} (h : w.heap[b]? = some (.cells #[x, y] e (0, 0))) : w.cell? ⟨b, 0, none⟩ = some x ∧ w.cell? ⟨b, 1, none⟩ = some y ∧ w.frozen? ⟨b, 0, none⟩ = false ∧ w.frozen? ⟨b, 1, none⟩ = false :=
  ⟨by rw [cell_of_row w _ _ _ _ (0, 0) h]; rfl, by rw [cell_of_row w _ _ _ _ (0, 0) h]; rfl, frozen_of_row _ _ _ _ _ h, frozen_of_row _ _ _ _ _ h⟩
theorem Chg.drew {D : Nat → Prop} {a b : World} (h : Chg D a b) : Chg D a b.drew := ⟨h.os, h.tape, h.output, h.size, h.block⟩
theorem Chg.cell {D : Nat → Prop} {a b : World} (h : Chg D a b) {k o : Nat} {v : Value} (hd : ¬ D k) (hc : a.cell? ⟨k, o, none⟩ = some v) : b.cell? ⟨k, o, none⟩ = some v := (World.cell?_of_block (h.block k (block_lt_of_cell hc) hd)).trans hc
theorem heap_alloc_drew {w : World} {g : Nat} {o : Obj} (h : g = w.heap.size) : (w.alloc o).drew.heap[g]? = some o := by subst h; exact heap_alloc_new w o
end Go.Proofs.Ytigemahbopligaa
