/- The points of an outline, in plain Lean. No program in sight. -/
import Derived.Test.YtigemahbopligaaOutPure
namespace Go.Proofs.Ytigemahbopligaa
def dxs : List Int := [1, 1, 0, -1, -1, -1, 0, 1]
def dys : List Int := [0, 1, 1, 1, 0, -1, -1, -1]
def stepX (d : Int) : Int := gt dxs d.toNat
def stepY (d : Int) : Int := gt dys d.toNat
theorem step_bd {d : Int} (h : 0 ≤ d) (h2 : d ≤ 7) : -1 ≤ stepX d ∧ stepX d ≤ 1 ∧ -1 ≤ stepY d ∧ stepY d ≤ 1 := by
  obtain ⟨n, rfl⟩ := Int.eq_ofNat_of_zero_le h
  have h8 : n < 8 := by omega
  have := (by decide : ∀ n : Fin 8, -1 ≤ stepX (n.val : Int) ∧ stepX (n.val : Int) ≤ 1 ∧ -1 ≤ stepY (n.val : Int) ∧ stepY (n.val : Int) ≤ 1) ⟨n, h8⟩
  exact this
/-- The points behind (x, y), one for each direction. -/
def way (x y : Int) : List Int → List (Int × Int)
  | [] => []
  | d :: r => (x + stepX d, y + stepY d) :: way (x + stepX d) (y + stepY d) r
theorem way_length (x y : Int) (l : List Int) : (way x y l).length = l.length := by
  induction l generalizing x y with
  | nil => rfl
  | cons d r ih => simp [way, ih]
/-- The directions of pens, one for each unit of size. -/
def dirsP : List Int → List Int
  | [] => []
  | p :: r => List.replicate (p % 3 + 1).toNat (p / 3) ++ dirsP r
def dirsO : List (Int × Int) → List Int
  | [] => []
  | s :: r => List.replicate s.2.toNat s.1 ++ dirsO r
theorem dirs_pens {o : List (Int × Int)} (h : ∀ p ∈ o, strokeOk p = true) : dirsP (o.map penN) = dirsO o := by
  induction o with
  | nil => rfl
  | cons a r ih =>
    have ha := h a (List.mem_cons_self ..)
    rw [List.map_cons, dirsP, dirsO, ih fun p hp => h p (List.mem_cons_of_mem _ hp), penN_dir ha, penN_size ha]
def ptsD (l : List Int) : List (Int × Int) := (0, 0) :: way 0 0 l
/-- All points of an outline. -/
def ptsO (o : List (Int × Int)) : List (Int × Int) := ptsD (dirsO o)
theorem ptsO_pens {o : List (Int × Int)} (h : ∀ p ∈ o, strokeOk p = true) : ptsD (dirsP (o.map penN)) = ptsO o := by rw [dirs_pens h, ptsO]
theorem dirsO_length {o : List (Int × Int)} (h : ∀ p ∈ o, strokeOk p = true) : (dirsO o).length ≤ 3 * o.length := by
  induction o with
  | nil => simp [dirsO]
  | cons a r ih =>
    have ha := strokeOk_yes.1 (h a (List.mem_cons_self ..))
    have := ih fun p hp => h p (List.mem_cons_of_mem _ hp)
    simp only [dirsO, List.length_append, List.length_replicate, List.length_cons]
    omega
theorem ptsO_length {o : List (Int × Int)} (h : ∀ p ∈ o, strokeOk p = true) : 1 ≤ (ptsO o).length ∧ (ptsO o).length ≤ 3 * o.length + 1 := by
  have := dirsO_length h
  simp only [ptsO, ptsD, List.length_cons, way_length]
  omega
theorem dirsO_bd {o : List (Int × Int)} (h : ∀ p ∈ o, strokeOk p = true) : ∀ d ∈ dirsO o, 0 ≤ d ∧ d ≤ 7 := by
  induction o with
  | nil => intro d hd; cases hd
  | cons a r ih =>
    intro d hd
    have ha := strokeOk_yes.1 (h a (List.mem_cons_self ..))
    simp only [dirsO, List.mem_append, List.mem_replicate] at hd
    rcases hd with ⟨_, rfl⟩ | hd
    · exact ⟨ha.1, ha.2.1⟩
    · exact ih (fun p hp => h p (List.mem_cons_of_mem _ hp)) d hd
theorem way_bd (l : List Int) (h : ∀ d ∈ l, 0 ≤ d ∧ d ≤ 7) (x y : Int) (m : Int) (hx : -m ≤ x ∧ x ≤ m) (hy : -m ≤ y ∧ y ≤ m) : ∀ p ∈ way x y l, (-(m + l.length) ≤ p.1 ∧ p.1 ≤ m + l.length) ∧ (-(m + l.length) ≤ p.2 ∧ p.2 ≤ m + l.length) := by
  induction l generalizing x y m with
  | nil => intro p hp; cases hp
  | cons d r ih =>
    intro p hp
    have hd := h d (List.mem_cons_self ..)
    have hs := step_bd hd.1 hd.2
    simp only [way, List.mem_cons] at hp
    simp only [List.length_cons, Int.natCast_add, Int.natCast_one]
    rcases hp with rfl | hp
    · simp only []
      omega
    · have := ih (fun q hq => h q (List.mem_cons_of_mem _ hq)) (x + stepX d) (y + stepY d) (m + 1) (by omega) (by omega) p hp
      omega
theorem ptsO_bd {o : List (Int × Int)} (h : ∀ p ∈ o, strokeOk p = true) : ∀ p ∈ ptsO o, (-(3 * (o.length : Int)) ≤ p.1 ∧ p.1 ≤ 3 * o.length) ∧ (-(3 * (o.length : Int)) ≤ p.2 ∧ p.2 ≤ 3 * o.length) := by
  intro p hp
  have hl := dirsO_length h
  simp only [ptsO, ptsD, List.mem_cons] at hp
  rcases hp with rfl | hp
  · simp only []
    omega
  · have := way_bd (dirsO o) (dirsO_bd h) 0 0 0 (by omega) (by omega) p hp
    omega
/-- The last of a list of points. -/
def lastP (l : List (Int × Int)) : Int × Int := gt l (l.length - 1)
end Go.Proofs.Ytigemahbopligaa
