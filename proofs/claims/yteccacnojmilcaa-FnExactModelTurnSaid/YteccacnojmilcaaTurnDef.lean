/- Models in which two words have exchanged numbers: what they are. -/
import Derived.Test.YteccacnojmilcaaReadPure
namespace Go.Proofs.Yteccacnojmilcaa
/-- The other number of a word. -/
def sw (a b k : Nat) : Nat := if k = a then b else if k = b then a else k
def swZ (a b : Nat) (x : Int) : Int := if x = a then b else if x = b then a else x
theorem sw_lt {a b k n : Nat} (ha : a < n) (hb : b < n) (hk : k < n) : sw a b k < n := by unfold sw; split <;> (try split) <;> omega
theorem sw_sw (a b k : Nat) : sw a b (sw a b k) = k := by unfold sw; split <;> (try split) <;> (try split) <;> (try split) <;> omega
theorem swZ_swZ (a b : Nat) (x : Int) : swZ a b (swZ a b x) = x := by unfold swZ; split <;> (try split) <;> (try split) <;> (try split) <;> omega
theorem swZ_nat (a b k : Nat) : swZ a b (k : Int) = (sw a b k : Nat) := by
  unfold swZ sw
  by_cases h1 : k = a
  · rw [if_pos (by omega), if_pos h1]
  · rw [if_neg (by omega), if_neg h1]
    by_cases h2 : k = b
    · rw [if_pos (by omega), if_pos h2]
    · rw [if_neg (by omega), if_neg h2]
theorem swZ_neg {a b : Nat} {x : Int} (h : x < 0) : swZ a b x = x := by unfold swZ; rw [if_neg (by omega), if_neg (by omega)]
section
variable {α : Type} [Inhabited α]
def turnI (a b : Nat) (l : List α) : List α := (List.range l.length).map fun k => gt l (sw a b k)
theorem turnI_len (a b : Nat) (l : List α) : (turnI a b l).length = l.length := by simp [turnI]
theorem turnI_gt {a b k : Nat} {l : List α} (h : k < l.length) : gt (turnI a b l) k = gt l (sw a b k) := by
  unfold turnI
  simp [gt, h]
theorem ext_gt {l m : List α} (hl : l.length = m.length) (h : ∀ k, k < l.length → gt l k = gt m k) : l = m := by
  refine List.ext_getElem hl fun k h1 h2 => ?_
  rw [← gt_eq h1, ← gt_eq h2]
  exact h k h1
theorem turnI_turnI {a b : Nat} {l : List α} (ha : a < l.length) (hb : b < l.length) : turnI a b (turnI a b l) = l := by
  refine ext_gt (by rw [turnI_len, turnI_len]) fun k hk => ?_
  rw [turnI_len, turnI_len] at hk
  rw [turnI_gt (by rw [turnI_len]; exact hk), turnI_gt (sw_lt ha hb hk), sw_sw]
theorem turnI_mem {a b : Nat} {l : List α} (ha : a < l.length) (hb : b < l.length) {x : α} (h : x ∈ turnI a b l) : x ∈ l := by
  unfold turnI at h
  obtain ⟨k, hk, rfl⟩ := List.mem_map.1 h
  exact gt_mem (sw_lt ha hb (List.mem_range.1 hk))
end
def turnM (a b : Nat) (r : List (List Int)) : List (List Int) := turnI a b (r.map (turnI a b))
theorem turnM_len (a b : Nat) (r : List (List Int)) : (turnM a b r).length = r.length := by unfold turnM; rw [turnI_len, List.length_map]
theorem turnM_gt {a b k : Nat} {r : List (List Int)} (ha : a < r.length) (hb : b < r.length) (h : k < r.length) : gt (turnM a b r) k = turnI a b (gt r (sw a b k)) := by
  unfold turnM
  rw [turnI_gt (by rw [List.length_map]; exact h), gt_map (sw_lt ha hb h)]
def turnV (l : List Int) (r : List (List Int)) (x y : Int) : Option (List Int × List (List Int)) :=
  if modelOk l r && (inB x 0 (l.length - 1) && inB y 0 (l.length - 1)) then some (turnI x.toNat y.toNat l, turnM x.toNat y.toNat r) else none
theorem turn_ok {l : List Int} {r : List (List Int)} {a b : Nat} (h : modelOk l r = true) (ha : a < l.length) (hb : b < l.length) : modelOk (turnI a b l) (turnM a b r) = true := by
  obtain ⟨h1, h2, h3, h4, h5⟩ := modelOk_yes h
  have hw : ∀ {q : List Int}, q.length = l.length → (∀ x ∈ q, 0 ≤ x ∧ x ≤ 9) → weightsOk (turnI a b q) (l.length : Int) = true := fun {q} hq hx => by
    unfold weightsOk
    rw [Bool.and_eq_true, decide_eq_true_eq, List.all_eq_true, turnI_len]
    refine ⟨by omega, fun x hx' => ?_⟩
    have := hx x (turnI_mem (by omega) (by omega) hx')
    unfold digitB
    rw [inB_yes]
    exact this
  unfold modelOk
  rw [turnI_len, turnM_len, inB_yes.2 ⟨by omega, by omega⟩, hw rfl h3, Bool.true_and, Bool.true_and, Bool.and_eq_true, decide_eq_true_eq, List.all_eq_true]
  refine ⟨h4, fun q hq => ?_⟩
  unfold turnM at hq
  have := turnI_mem (by rw [List.length_map]; omega) (by rw [List.length_map]; omega) hq
  obtain ⟨q', hq', rfl⟩ := List.mem_map.1 this
  exact hw (h5 q' hq').1 (h5 q' hq').2
end Go.Proofs.Yteccacnojmilcaa
