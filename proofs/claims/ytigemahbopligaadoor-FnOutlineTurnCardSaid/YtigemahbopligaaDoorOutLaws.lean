/- Outlines that are cut, turned, mirrored, drawn backwards: lengths, ends, boxes, touches, corners, in plain Lean. No program in sight. -/
import Derived.Test.YtigemahbopligaaDoorTouchPure
import Derived.Test.YtigemahbopligaaDoorChange
namespace Go.Proofs.YtigemahbopligaaDoor
/-! Cuts. -/
theorem linked_take {o : List (Int × Int)} (h : linked o = true) (k : Nat) : linked (o.take k) = true := by
  induction o generalizing k with
  | nil => simp [linked]
  | cons a r ih =>
    cases k with
    | zero => simp [linked]
    | succ k =>
      rw [List.take_succ_cons]
      cases r with
      | nil => simpa using h
      | cons b r =>
        have h' := h
        simp only [linked, Bool.and_eq_true] at h'
        have := ih h'.2.2 k
        cases k with
        | zero => simpa [linked] using h'.1
        | succ k =>
          rw [List.take_succ_cons] at this ⊢
          simp only [linked, Bool.and_eq_true]
          exact ⟨h'.1, h'.2.1, this⟩
theorem outOk_mk {o : List (Int × Int)} (h : linked o = true) (h8 : o.length ≤ 8) : outOk o = true := by simp [outOk, h, h8]
theorem outOk_take {o : List (Int × Int)} (h : outOk o = true) (k : Nat) : outOk (o.take k) = true :=
  outOk_mk (linked_take (outOk_yes h).1 k) (by have := (outOk_yes h).2; rw [List.length_take]; omega)
theorem outOk_drop {o : List (Int × Int)} (h : outOk o = true) (k : Nat) : outOk (o.drop k) = true :=
  outOk_mk (linked_drop (outOk_yes h).1 k) (by have := (outOk_yes h).2; rw [List.length_drop]; omega)
theorem sumSz_append (a b : List (Int × Int)) : sumSz (a ++ b) = sumSz a + sumSz b := by
  induction a with
  | nil => simp [sumSz]
  | cons x r ih => rw [List.cons_append, sumSz, sumSz, ih]; omega
theorem len_cut {o : List (Int × Int)} (h : outOk o = true) (k : Nat) : lenOf (o.take k) + lenOf (o.drop k) = lenOf o := by
  simp only [lenOf, h, outOk_take h k, outOk_drop h k, if_true]
  rw [← sumSz_append, List.take_append_drop]
/-! Other directions. -/
def chgD (t m : Int) (d : Int) : Int := (t * d + m) % 8
theorem chg_eq (t m : Int) (p : Int × Int) : chg t m p = (chgD t m p.1, p.2) := rfl
theorem adj_iff (a b : Int × Int) : adj a b = !decide ((b.1 - a.1) % 4 = 0) := by
  unfold adj
  congr 1
  rw [Bool.eq_iff_iff, beq_iff_eq, decide_eq_true_iff, ← Int.dvd_iff_tmod_eq_zero, Int.dvd_iff_emod_eq_zero]
theorem strokeOk_chg {t m : Int} {p : Int × Int} (h : strokeOk p = true) : strokeOk (chg t m p) = true := by
  have := strokeOk_yes.1 h
  rw [strokeOk_yes, chg_eq]
  simp only [chgD]
  omega
/-- t is 1 or 7. -/
def unit8 (t : Int) : Prop := t = 1 ∨ t = 7
theorem adj_chg {t m : Int} (ht : unit8 t) (a b : Int × Int) : adj (chg t m a) (chg t m b) = adj a b := by
  rw [adj_iff, adj_iff]
  congr 1
  rw [decide_eq_decide]
  simp only [chg_eq, chgD]
  rcases ht with rfl | rfl <;> omega
theorem linked_chg {t m : Int} (ht : unit8 t) {o : List (Int × Int)} (h : linked o = true) : linked (o.map (chg t m)) = true := by
  induction o with
  | nil => rfl
  | cons a r ih =>
    cases r with
    | nil => simpa [linked] using strokeOk_chg (by simpa [linked] using h)
    | cons b r =>
      simp only [linked, Bool.and_eq_true] at h
      have := ih h.2.2
      simp only [List.map_cons, linked, Bool.and_eq_true]
      rw [adj_chg ht]
      exact ⟨strokeOk_chg h.1, h.2.1, by simpa using this⟩
theorem outOk_chg {t m : Int} (ht : unit8 t) {o : List (Int × Int)} (h : outOk o = true) : outOk (o.map (chg t m)) = true :=
  outOk_mk (linked_chg ht (outOk_yes h).1) (by rw [List.length_map]; exact (outOk_yes h).2)
theorem adj_comm (a b : Int × Int) : adj a b = adj b a := by
  rw [adj_iff, adj_iff]
  congr 1
  rw [decide_eq_decide]
  omega
theorem linked_snoc (o : List (Int × Int)) (a : Int × Int) : linked (o ++ [a]) = (linked o && (strokeOk a && (match o.getLast? with | none => true | some b => adj b a))) := by
  induction o with
  | nil => simp [linked]
  | cons b r ih =>
    cases r with
    | nil =>
      simp [linked]
      cases strokeOk a <;> cases strokeOk b <;> cases adj b a <;> rfl
    | cons c r =>
      have : linked (b :: (c :: r ++ [a])) = (strokeOk b && (adj b c && linked (c :: r ++ [a]))) := rfl
      rw [List.cons_append, this, ih]
      simp only [linked, List.getLast?_cons_cons]
      cases strokeOk b <;> cases adj b c <;> simp
theorem linked_reverse (o : List (Int × Int)) : linked o.reverse = linked o := by
  induction o with
  | nil => rfl
  | cons a r ih =>
    rw [List.reverse_cons, linked_snoc, ih, List.getLast?_reverse]
    cases r with
    | nil => simp [linked]
    | cons b r =>
      simp only [List.head?_cons, linked]
      rw [adj_comm b a]
      cases strokeOk a <;> cases adj a b <;> cases linked (b :: r) <;> rfl
theorem outOk_reverse {o : List (Int × Int)} : outOk o.reverse = outOk o := by simp [outOk, linked_reverse]
theorem sumSz_chg (t m : Int) (o : List (Int × Int)) : sumSz (o.map (chg t m)) = sumSz o := by
  induction o with
  | nil => rfl
  | cons a r ih => rw [List.map_cons, sumSz, sumSz, ih]; rfl
theorem sumSz_reverse (o : List (Int × Int)) : sumSz o.reverse = sumSz o := by
  induction o with
  | nil => rfl
  | cons a r ih => rw [List.reverse_cons, sumSz_append, ih]; simp only [sumSz]; omega
theorem len_chg {t m : Int} (ht : unit8 t) {o : List (Int × Int)} (h : outOk o = true) : lenOf (o.map (chg t m)) = lenOf o := by
  simp only [lenOf, h, outOk_chg ht h, if_true, sumSz_chg]
theorem len_reverse (o : List (Int × Int)) : lenOf o.reverse = lenOf o := by
  simp only [lenOf, outOk_reverse, sumSz_reverse]
theorem chg_chg (t m t' m' : Int) (p : Int × Int) : chg t' m' (chg t m p) = (((t' * ((t * p.1 + m) % 8) + m') % 8), p.2) := rfl
theorem map_back {o : List (Int × Int)} (h : ∀ p ∈ o, strokeOk p = true) {t m t' m' : Int} (hh : ∀ d, 0 ≤ d → d ≤ 7 → (t' * ((t * d + m) % 8) + m') % 8 = d) : (o.map (chg t m)).map (chg t' m') = o := by
  rw [List.map_map]
  conv => rhs; rw [← List.map_id o]
  refine List.map_congr_left fun p hp => ?_
  have := strokeOk_yes.1 (h p hp)
  show chg t' m' (chg t m p) = p
  rw [chg_chg, hh p.1 this.1 this.2.1]
/-! Corners. -/
def crn (a b : Int) : Int := min ((b - a + 8) % 8) (8 - (b - a + 8) % 8)
def cornS : List (Int × Int) → Int
  | [] => 0
  | _ :: [] => 0
  | a :: b :: r => crn a.1 b.1 + cornS (b :: r)
def cornOf (o : List (Int × Int)) : Int := if outOk o then cornS o else -1
theorem crn_bd (a b : Int) : 0 ≤ crn a b ∧ crn a b ≤ 8 := by unfold crn; omega
theorem cornS_bd (o : List (Int × Int)) : 0 ≤ cornS o ∧ cornS o ≤ 8 * o.length := by
  induction o with
  | nil => simp [cornS]
  | cons a r ih =>
    cases r with
    | nil => simp [cornS]
    | cons b r =>
      have := crn_bd a.1 b.1
      simp only [cornS, List.length_cons] at ih ⊢
      omega
theorem crn_pen {a b : Int × Int} (ha : strokeOk a = true) (hb : strokeOk b = true) : cornerN (penN a) (penN b) = crn a.1 b.1 := by
  unfold cornerN crn
  rw [penN_dir ha, penN_dir hb]
theorem crn_comm (a b : Int) : crn a b = crn b a := by
  unfold crn
  omega
theorem crn_chg {t m : Int} (ht : unit8 t) (a b : Int) : crn (chgD t m a) (chgD t m b) = crn a b := by
  rcases ht with rfl | rfl
  · have h : (chgD 1 m b - chgD 1 m a + 8) % 8 = (b - a + 8) % 8 := by unfold chgD; omega
    unfold crn
    rw [h]
  · have h : (chgD 7 m b - chgD 7 m a + 8) % 8 = (a - b + 8) % 8 := by unfold chgD; omega
    rw [crn_comm a b]
    unfold crn
    rw [h]
theorem cornS_chg {t m : Int} (ht : unit8 t) (o : List (Int × Int)) : cornS (o.map (chg t m)) = cornS o := by
  induction o with
  | nil => rfl
  | cons a r ih =>
    cases r with
    | nil => rfl
    | cons b r =>
      simp only [List.map_cons, cornS] at ih ⊢
      rw [ih]
      congr 1
      exact crn_chg ht a.1 b.1
theorem cornS_snoc (o : List (Int × Int)) (a : Int × Int) : cornS (o ++ [a]) = cornS o + (match o.getLast? with | none => 0 | some b => crn b.1 a.1) := by
  induction o with
  | nil => simp [cornS]
  | cons b r ih =>
    cases r with
    | nil => simp [cornS]
    | cons c r =>
      have : cornS (b :: (c :: r ++ [a])) = crn b.1 c.1 + cornS (c :: r ++ [a]) := rfl
      rw [List.cons_append, this, ih]
      simp only [cornS, List.getLast?_cons_cons]
      omega
theorem cornS_reverse (o : List (Int × Int)) : cornS o.reverse = cornS o := by
  induction o with
  | nil => rfl
  | cons a r ih =>
    rw [List.reverse_cons, cornS_snoc, ih, List.getLast?_reverse]
    cases r with
    | nil => simp [cornS]
    | cons b r =>
      simp only [List.head?_cons, cornS]
      rw [crn_comm b.1 a.1]
      omega
theorem corn_chg {t m : Int} (ht : unit8 t) {o : List (Int × Int)} (h : outOk o = true) : cornOf (o.map (chg t m)) = cornOf o := by
  simp only [cornOf, h, outOk_chg ht h, if_true, cornS_chg ht]
theorem corn_reverse (o : List (Int × Int)) : cornOf o.reverse = cornOf o := by
  simp only [cornOf, outOk_reverse, cornS_reverse]
end Go.Proofs.YtigemahbopligaaDoor
