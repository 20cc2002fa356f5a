/- The list of all readings of a page, in plain Lean. -/
import Derived.Test.YtfjoininagdlcaaWeigh2
namespace Go.Proofs.Ytfjoininagdlcaa
/-- All readings of the places left, behind the words of a list, in order. -/
def readsOf (l : List Int) (r : List (List Int)) : List (List Int) → List Int → List (List Int)
  | [], pre => [pre]
  | p :: ps, pre => p.flatMap fun x => if 0 < wgt l r (lastI pre) x then readsOf l r ps (pre ++ [x]) else []
/-- Those with a word at the next place. -/
def stepR (l : List Int) (r ps : List (List Int)) (pre : List Int) (x : Int) : List (List Int) := if 0 < wgt l r (lastI pre) x then readsOf l r ps (pre ++ [x]) else []
theorem readsOf_cons (l : List Int) (r : List (List Int)) (p : List Int) (ps : List (List Int)) (pre : List Int) : readsOf l r (p :: ps) pre = p.flatMap (stepR l r ps pre) := rfl
theorem flat_take {f : Int → List (List Int)} {p : List Int} {k : Nat} (h : k < p.length) : (p.take (k + 1)).flatMap f = (p.take k).flatMap f ++ f (gt p k) := by
  rw [take_gt h, List.flatMap_append]; simp
theorem flat_prefix {f : Int → List (List Int)} {p : List Int} {k : Nat} (h : k < p.length) : (p.take k).flatMap f ++ f (gt p k) <+: p.flatMap f := by
  rw [← flat_take h]
  conv => rhs; rw [← List.take_append_drop (k + 1) p, List.flatMap_append]
  exact List.prefix_append _ _
theorem lastI_snoc (pre : List Int) (x : Int) : lastI (pre ++ [x]) = x := by
  unfold lastI
  rw [if_neg (by simp)]
  have : (pre ++ [x]).length - 1 = pre.length := by simp
  rw [this, gt_last]
/-- How many readings there are, as the reference counts. -/
def manyOf (l : List Int) (r : List (List Int)) : List (List Int) → Int → Nat
  | [], _ => 1
  | p :: ps, b => (p.map fun x => if 0 < wgt l r b x then manyOf l r ps x else 0).sum
theorem reads_many (l : List Int) (r ps : List (List Int)) : ∀ pre : List Int, (readsOf l r ps pre).length = manyOf l r ps (lastI pre) := by
  induction ps with
  | nil => intro pre; rfl
  | cons p ps ih =>
    intro pre
    rw [readsOf_cons, manyOf, List.length_flatMap]
    congr 1
    refine List.map_congr_left fun x _ => ?_
    unfold stepR
    split
    · rw [ih, lastI_snoc]
    · rfl
theorem reads_len {l : List Int} {r ps : List (List Int)} : ∀ {pre x : List Int}, x ∈ readsOf l r ps pre → x.length = pre.length + ps.length := by
  induction ps with
  | nil => intro pre x h; rw [readsOf, List.mem_singleton] at h; rw [h]; rfl
  | cons p ps ih =>
    intro pre x h
    rw [readsOf_cons, List.mem_flatMap] at h
    obtain ⟨y, hy, h⟩ := h
    unfold stepR at h
    split at h
    · have := ih h
      simp at this ⊢
      omega
    · cases h
end Go.Proofs.Ytfjoininagdlcaa
