/- Points that were there already, in plain Lean. No program in sight. -/
import Derived.Test.YtigemahbopligaaDoorPtsPure
namespace Go.Proofs.YtigemahbopligaaDoor
/-- p is one of l. -/
def hasP (l : List (Int × Int)) (p : Int × Int) : Bool := l.any fun q => eqD q p
theorem hasP_iff {l : List (Int × Int)} {p : Int × Int} : hasP l p = true ↔ p ∈ l := by
  simp only [hasP, List.any_eq_true, eqD_iff]
  exact ⟨fun ⟨q, h, e⟩ => e ▸ h, fun h => ⟨p, h, rfl⟩⟩
def bitI (b : Bool) : Int := if b then 1 else 0
/-- How many of l were there already, seen being those ahead. -/
def touL (seen : List (Int × Int)) : List (Int × Int) → Int
  | [] => 0
  | p :: r => bitI (hasP seen p) + touL (seen ++ [p]) r
def touOf (o : List (Int × Int)) : Int := if outOk o then touL [] (ptsO o) else -1
theorem bitI_bd (b : Bool) : 0 ≤ bitI b ∧ bitI b ≤ 1 := by cases b <;> simp [bitI]
theorem touL_bd (l : List (Int × Int)) (seen : List (Int × Int)) : 0 ≤ touL seen l ∧ touL seen l ≤ l.length := by
  induction l generalizing seen with
  | nil => simp [touL]
  | cons p r ih =>
    have := ih (seen ++ [p])
    have := bitI_bd (hasP seen p)
    simp only [touL, List.length_cons]
    omega
/-- The inner search of the reference, from the k-th on. -/
theorem hasP_take {l : List (Int × Int)} {i k : Nat} (hk : k < i) (hi : i ≤ l.length) (p : Int × Int) : hasP ((l.take i).drop k) p = (eqD (gt l k) p || hasP ((l.take i).drop (k + 1)) p) := by
  have : (l.take i).drop k = gt l k :: (l.take i).drop (k + 1) := by
    rw [drop_gt (by simp; omega)]
    congr 1
    simp [gt, hk]
  rw [this]; rfl
theorem eqD_pair (a b : Int × Int) : eqD a b = (eqD a.1 b.1 && eqD a.2 b.2) := rfl
/-- How often p is one of l. -/
def cntP (l : List (Int × Int)) (p : Int × Int) : Int := ((l.filter fun q => eqD q p).length : Nat)
theorem cntP_nil (p : Int × Int) : cntP [] p = 0 := rfl
theorem cntP_snoc (l : List (Int × Int)) (q p : Int × Int) : cntP (l ++ [q]) p = cntP l p + bitI (eqD q p) := by
  simp only [cntP, List.filter_append, List.length_append, Int.natCast_add]
  congr 1
  cases h : eqD q p <;> simp [h, bitI]
theorem cntP_bd (l : List (Int × Int)) (p : Int × Int) : 0 ≤ cntP l p ∧ cntP l p ≤ l.length := by
  simp only [cntP]
  have := List.length_filter_le (fun q => eqD q p) l
  omega
theorem cntP_pos (l : List (Int × Int)) (p : Int × Int) : decide (0 < cntP l p) = hasP l p := by
  rw [Bool.eq_iff_iff, decide_eq_true_iff, hasP_iff]
  simp only [cntP]
  constructor
  · intro h
    have h' : 0 < (l.filter fun q => eqD q p).length := by omega
    obtain ⟨q, hq⟩ := List.exists_mem_of_length_pos h'
    rw [List.mem_filter] at hq
    rw [← eqD_iff.1 hq.2]; exact hq.1
  · intro h
    have : p ∈ l.filter fun q => eqD q p := List.mem_filter.2 ⟨h, eqD_self p⟩
    have := List.length_pos_of_mem this
    omega
end Go.Proofs.YtigemahbopligaaDoor
