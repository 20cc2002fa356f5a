/- Outlines in plain Lean: when a list of strokes is an outline, by the reference and by the program. No program in sight. -/
import Derived.Test.YtigemahbopligaaLib
namespace Go.Proofs.Ytigemahbopligaa

/-- lo ≤ n ≤ hi. -/
def inB (n lo hi : Int) : Bool := decide (lo ≤ n) && decide (n ≤ hi)
theorem inB_yes {n lo hi : Int} : inB n lo hi = true ↔ lo ≤ n ∧ n ≤ hi := by simp [inB]
theorem inB_no {n lo hi : Int} : inB n lo hi = false ↔ ¬ (lo ≤ n ∧ n ≤ hi) := by rw [← inB_yes]; simp

def strokeOk (p : Int × Int) : Bool := inB p.1 0 7 && inB p.2 1 3
theorem strokeOk_yes {p : Int × Int} : strokeOk p = true ↔ 0 ≤ p.1 ∧ p.1 ≤ 7 ∧ 1 ≤ p.2 ∧ p.2 ≤ 3 := by simp [strokeOk, inB]; omega
/-- q can follow p. -/
def adj (p q : Int × Int) : Bool := !((q.1 - p.1).tmod 4 == 0)
def linked : List (Int × Int) → Bool
  | [] => true
  | p :: [] => strokeOk p
  | p :: q :: r => strokeOk p && (adj p q && linked (q :: r))
/-- The reference's loop, from a place on; the stroke ahead, if any. -/
def outFrom : Option (Int × Int) → List (Int × Int) → Bool
  | _, [] => true
  | none, p :: r => strokeOk p && outFrom (some p) r
  | some a, p :: r => strokeOk p && (adj a p && outFrom (some p) r)
def outOk (o : List (Int × Int)) : Bool := linked o && decide (o.length ≤ 8)
theorem linked_cons (p : Int × Int) (r : List (Int × Int)) : linked (p :: r) = (strokeOk p && outFrom (some p) r) := by
  induction r generalizing p with
  | nil => simp [linked, outFrom]
  | cons q r ih =>
    rw [linked, ih q, outFrom]
    cases strokeOk p <;> cases strokeOk q <;> cases adj p q <;> simp
theorem linked_from (o : List (Int × Int)) : linked o = outFrom none o := by
  cases o with
  | nil => rfl
  | cons p r => rw [linked_cons, outFrom]
theorem linked_ok {o : List (Int × Int)} (h : linked o = true) : ∀ p ∈ o, strokeOk p = true := by
  induction o with
  | nil => intro p hp; cases hp
  | cons a r ih =>
    intro p hp
    cases r with
    | nil =>
      rcases List.mem_cons.1 hp with rfl | hp
      · simpa [linked] using h
      · cases hp
    | cons q r =>
      simp only [linked, Bool.and_eq_true] at h
      rcases List.mem_cons.1 hp with rfl | hp
      · exact h.1
      · exact ih h.2.2 p hp
theorem linked_drop {o : List (Int × Int)} (h : linked o = true) (k : Nat) : linked (o.drop k) = true := by
  induction k generalizing o with
  | zero => simpa using h
  | succ k ih =>
    cases o with
    | nil => simpa using h
    | cons a r =>
      rw [List.drop_succ_cons]
      apply ih
      cases r with
      | nil => rfl
      | cons q r => simp only [linked, Bool.and_eq_true] at h; exact h.2.2

/-- A stroke as the program's one number. -/
def penN (p : Int × Int) : Int := p.1 * 3 + p.2 - 1
theorem penN_bd {p : Int × Int} (h : strokeOk p = true) : 0 ≤ penN p ∧ penN p ≤ 23 := by
  have := strokeOk_yes.1 h
  unfold penN
  omega
theorem penN_dir {p : Int × Int} (h : strokeOk p = true) : penN p / 3 = p.1 := by
  have := strokeOk_yes.1 h
  unfold penN
  omega
theorem penN_size {p : Int × Int} (h : strokeOk p = true) : penN p % 3 + 1 = p.2 := by
  have := strokeOk_yes.1 h
  unfold penN
  omega
def cornerN (p q : Int) : Int := min ((q / 3 - p / 3 + 8) % 8) (8 - (q / 3 - p / 3 + 8) % 8)
theorem cornerN_bd (p q : Int) : 0 ≤ cornerN p q ∧ cornerN p q ≤ 8 := by unfold cornerN; omega
def leadB (p q : Int) : Bool := cornerN p q != 0 && cornerN p q != 4
theorem leadB_adj {a b : Int × Int} (ha : strokeOk a = true) (hb : strokeOk b = true) : leadB (penN a) (penN b) = adj a b := by
  have h1 := strokeOk_yes.1 ha
  have h2 := strokeOk_yes.1 hb
  unfold leadB cornerN adj
  rw [penN_dir ha, penN_dir hb, Bool.eq_iff_iff]
  simp only [Bool.and_eq_true, bne_iff_ne, Bool.not_eq_true', beq_eq_false_iff_ne]
  have e : (b.1 - a.1).tmod 4 = 0 ↔ (b.1 - a.1) % 4 = 0 := by rw [← Int.dvd_iff_tmod_eq_zero, Int.dvd_iff_emod_eq_zero]
  simp only [ne_eq]
  rw [e]
  omega
def sumSz : List (Int × Int) → Int
  | [] => 0
  | p :: r => p.2 + sumSz r
def sumPen : List Int → Int
  | [] => 0
  | x :: r => (x % 3 + 1) + sumPen r
theorem sumPen_eq {o : List (Int × Int)} (h : ∀ p ∈ o, strokeOk p = true) : sumPen (o.map penN) = sumSz o := by
  induction o with
  | nil => rfl
  | cons a r ih => rw [List.map_cons, sumPen, sumSz, ih (fun p hp => h p (List.mem_cons_of_mem _ hp)), penN_size (h a (List.mem_cons_self ..))]
theorem sumSz_bd {o : List (Int × Int)} (h : ∀ p ∈ o, strokeOk p = true) : 0 ≤ sumSz o ∧ sumSz o ≤ 3 * o.length := by
  induction o with
  | nil => simp [sumSz]
  | cons a r ih =>
    have h1 := ih (fun p hp => h p (List.mem_cons_of_mem _ hp))
    have h2 := strokeOk_yes.1 (h a (List.mem_cons_self ..))
    simp only [sumSz, List.length_cons]
    omega
def lenOf (o : List (Int × Int)) : Int := if outOk o then sumSz o else -1
theorem outOk_yes {o : List (Int × Int)} (h : outOk o = true) : linked o = true ∧ o.length ≤ 8 := by simpa [outOk] using h
end Go.Proofs.Ytigemahbopligaa
