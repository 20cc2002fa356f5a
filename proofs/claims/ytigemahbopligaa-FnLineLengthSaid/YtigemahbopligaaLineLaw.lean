/- Lengths of lines add up, in plain Lean. No program in sight. -/
import Derived.Test.YtigemahbopligaaLine
namespace Go.Proofs.Ytigemahbopligaa
theorem lengths_app : ∀ a b : List WrT, lengthsOf (a ++ b) = lengthsOf a + lengthsOf b
  | [], b => by simp [lengthsOf]
  | x :: r, b => by
    rw [List.cons_append, lengthsOf, lengthsOf, lengths_app r b]
    omega
theorem lineOk_take {l : List WrT} (h : lineOk l = true) (k : Nat) : lineOk (l.take k) = true := by
  unfold lineOk at h ⊢
  rw [Bool.and_eq_true, decide_eq_true_eq, List.all_eq_true] at h ⊢
  exact ⟨Nat.le_trans (List.length_take_le' _ _) h.1, fun x hx => h.2 x (List.mem_of_mem_take hx)⟩
theorem lineOk_drop {l : List WrT} (h : lineOk l = true) (k : Nat) : lineOk (l.drop k) = true := by
  unfold lineOk at h ⊢
  rw [Bool.and_eq_true, decide_eq_true_eq, List.all_eq_true] at h ⊢
  exact ⟨by rw [List.length_drop]; omega, fun x hx => h.2 x (List.mem_of_mem_drop hx)⟩
theorem lineV_ok {l : List WrT} (h : 0 ≤ lineV l) : lineOk l = true := by
  cases hb : lineOk l with
  | true => rfl
  | false => unfold lineV at h; rw [hb] at h; simp at h
theorem lineV_of {l : List WrT} (h : lineOk l = true) : lineV l = lengthsOf l := by unfold lineV; rw [h]
theorem line_law {l : List WrT} (h : 0 ≤ lineV l) (k : Nat) : lineV (l.take k) + lineV (l.drop k) = lineV l := by
  have hok := lineV_ok h
  rw [lineV_of (lineOk_take hok k), lineV_of (lineOk_drop hok k), lineV_of hok, ← lengths_app, List.take_append_drop]
theorem line_one {l : List WrT} (h : 0 ≤ lineV l) (hl : 0 < l.length) : lineV (l.take 1) = lenOf (gt l 0).1 := by
  rw [lineV_of (lineOk_take (lineV_ok h) 1)]
  cases l with
  | nil => simp at hl
  | cons x r => simp [lengthsOf, gt]
end Go.Proofs.Ytigemahbopligaa
