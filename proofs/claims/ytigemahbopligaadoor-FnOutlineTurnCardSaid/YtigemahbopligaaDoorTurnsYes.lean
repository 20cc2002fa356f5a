/- Turned, mirrored and backward outlines, where the outline is valid. -/
import Derived.Test.YtigemahbopligaaDoorTurns
import Derived.Test.YtigemahbopligaaDoorOutLaws
namespace Go.Proofs.YtigemahbopligaaDoor
open Go.RowKit
/-- A list of strokes in new memory, and true. -/
def GivesO (o : List (Int × Int)) (w : World) (e : Ending) (w' : World) : Prop :=
  ∃ B d, e = .returned (.tuple #[.slice B o.length d, .bool true]) ∧ o.length ≤ d ∧ Rd strokeS w.heap.size w'.heap.size w' B o.length o ∧ Below w.heap.size w w'
theorem gives_mk {o : List (Int × Int)} {w w' : World} {B : Option Addr} {d : Nat} (hO : OwnR strokeS w.heap.size w' 46 (.slice B o.length d) o) (hb : Below w.heap.size w w') (ho : o.length ≤ 100) : GivesO o w (.returned (.tuple #[.slice B o.length d, .bool true])) w' := by
  obtain ⟨A, c, he, hc⟩ := hO.form
  injection he with _ _ he
  subst he
  exact ⟨B, d, rfl, hc, (hO.rd (by omega)).2, hb⟩
/-- An empty list, and false. -/
def GivesN (w : World) (e : Ending) (w' : World) : Prop := ∃ B d, e = .returned (.tuple #[.slice B 0 d, .bool false]) ∧ Below w.heap.size w w'
theorem turn_yes (A : Option Addr) (n c lo : Nat) (o : List (Int × Int)) (k : Int) (w : World) (hx : Rd strokeS lo w.heap.size w A n o) (hok : outOk o = true) (hk : 0 ≤ k ∧ k ≤ 7) :
    Calls Tryd.prog 21 #[.slice A n c, .int .i64 k] w (GivesO (o.map (chg 1 k)) w) := by
  refine (implOutlineTurn_any A n c lo o k w hx).mono ?_
  rintro e w' ⟨B, d, rfl, hO, hb⟩
  have hi : inB k 0 7 = true := inB_yes.2 hk
  have e1 : turnF k o = o.map (chg 1 k) := by simp [turnF, hok, hi]
  rw [e1] at hO ⊢
  rw [hok, hi]
  exact gives_mk hO hb (by rw [List.length_map]; have := (outOk_yes hok).2; omega)
theorem turn_no (A : Option Addr) (n c lo : Nat) (o : List (Int × Int)) (k : Int) (w : World) (hx : Rd strokeS lo w.heap.size w A n o) (hok : (outOk o && inB k 0 7) = false) :
    Calls Tryd.prog 21 #[.slice A n c, .int .i64 k] w (GivesN w) := by
  refine (implOutlineTurn_any A n c lo o k w hx).mono ?_
  rintro e w' ⟨B, d, rfl, hO, hb⟩
  have e1 : turnF k o = [] := by simp only [turnF, hok]; rfl
  rw [e1] at hO ⊢
  rw [hok]
  exact ⟨B, d, rfl, hb⟩
theorem mirror_yes (A : Option Addr) (n c lo : Nat) (o : List (Int × Int)) (w : World) (hx : Rd strokeS lo w.heap.size w A n o) (hok : outOk o = true) :
    Calls Tryd.prog 28 #[.slice A n c] w (GivesO (o.map (chg 7 0)) w) := by
  refine (implOutlineMirror_any A n c lo o w hx).mono ?_
  rintro e w' ⟨B, d, rfl, hO, hb⟩
  have e1 : mirF o = o.map (chg 7 0) := by simp [mirF, hok]
  rw [e1] at hO ⊢
  rw [hok]
  exact gives_mk hO hb (by rw [List.length_map]; have := (outOk_yes hok).2; omega)
theorem mirror_no (A : Option Addr) (n c lo : Nat) (o : List (Int × Int)) (w : World) (hx : Rd strokeS lo w.heap.size w A n o) (hok : outOk o = false) :
    Calls Tryd.prog 28 #[.slice A n c] w (GivesN w) := by
  refine (implOutlineMirror_any A n c lo o w hx).mono ?_
  rintro e w' ⟨B, d, rfl, hO, hb⟩
  have e1 : mirF o = [] := by simp only [mirF, hok]; rfl
  rw [e1] at hO ⊢
  rw [hok]
  exact ⟨B, d, rfl, hb⟩
theorem back_yes (A : Option Addr) (n c lo : Nat) (o : List (Int × Int)) (w : World) (hx : Rd strokeS lo w.heap.size w A n o) (hok : outOk o = true) :
    Calls Tryd.prog 32 #[.slice A n c] w (GivesO ((o.map (chg 1 4)).reverse) w) := by
  refine (implOutlineBack_any A n c lo o w hx).mono ?_
  rintro e w' ⟨B, d, rfl, hO, hb⟩
  have e1 : backF o = (o.map (chg 1 4)).reverse := by simp [backF, hok]
  rw [e1] at hO ⊢
  rw [hok]
  exact gives_mk hO hb (by rw [List.length_reverse, List.length_map]; have := (outOk_yes hok).2; omega)
theorem back_no (A : Option Addr) (n c lo : Nat) (o : List (Int × Int)) (w : World) (hx : Rd strokeS lo w.heap.size w A n o) (hok : outOk o = false) :
    Calls Tryd.prog 32 #[.slice A n c] w (GivesN w) := by
  refine (implOutlineBack_any A n c lo o w hx).mono ?_
  rintro e w' ⟨B, d, rfl, hO, hb⟩
  have e1 : backF o = [] := by simp only [backF, hok]; rfl
  rw [e1] at hO ⊢
  rw [hok]
  exact ⟨B, d, rfl, hb⟩
theorem spec_turn_yes (A : Option Addr) (n c lo : Nat) (o : List (Int × Int)) (k : Int) (w : World) (hx : Rd strokeS lo w.heap.size w A n o) (hok : outOk o = true) (hk : 0 ≤ k ∧ k ≤ 7) :
    Calls Tryd.prog 22 #[.slice A n c, .int .i64 k] w (GivesO (o.map (chg 1 k)) w) := by
  refine (specOutlineTurn_any A n c lo o k w hx).mono ?_
  rintro e w' ⟨B, d, rfl, hO, hb⟩
  have hi : inB k 0 7 = true := inB_yes.2 hk
  have e1 : turnF k o = o.map (chg 1 k) := by simp [turnF, hok, hi]
  rw [e1] at hO ⊢
  rw [hok, hi]
  exact gives_mk hO hb (by rw [List.length_map]; have := (outOk_yes hok).2; omega)
theorem spec_turn_no (A : Option Addr) (n c lo : Nat) (o : List (Int × Int)) (k : Int) (w : World) (hx : Rd strokeS lo w.heap.size w A n o) (hok : (outOk o && inB k 0 7) = false) :
    Calls Tryd.prog 22 #[.slice A n c, .int .i64 k] w (GivesN w) := by
  refine (specOutlineTurn_any A n c lo o k w hx).mono ?_
  rintro e w' ⟨B, d, rfl, hO, hb⟩
  have e1 : turnF k o = [] := by simp only [turnF, hok]; rfl
  rw [e1] at hO ⊢
  rw [hok]
  exact ⟨B, d, rfl, hb⟩
theorem spec_mirror_yes (A : Option Addr) (n c lo : Nat) (o : List (Int × Int)) (w : World) (hx : Rd strokeS lo w.heap.size w A n o) (hok : outOk o = true) :
    Calls Tryd.prog 30 #[.slice A n c] w (GivesO (o.map (chg 7 0)) w) := by
  refine (specOutlineMirror_any A n c lo o w hx).mono ?_
  rintro e w' ⟨B, d, rfl, hO, hb⟩
  have e1 : mirF o = o.map (chg 7 0) := by simp [mirF, hok]
  rw [e1] at hO ⊢
  rw [hok]
  exact gives_mk hO hb (by rw [List.length_map]; have := (outOk_yes hok).2; omega)
theorem spec_mirror_no (A : Option Addr) (n c lo : Nat) (o : List (Int × Int)) (w : World) (hx : Rd strokeS lo w.heap.size w A n o) (hok : outOk o = false) :
    Calls Tryd.prog 30 #[.slice A n c] w (GivesN w) := by
  refine (specOutlineMirror_any A n c lo o w hx).mono ?_
  rintro e w' ⟨B, d, rfl, hO, hb⟩
  have e1 : mirF o = [] := by simp only [mirF, hok]; rfl
  rw [e1] at hO ⊢
  rw [hok]
  exact ⟨B, d, rfl, hb⟩
theorem spec_back_yes (A : Option Addr) (n c lo : Nat) (o : List (Int × Int)) (w : World) (hx : Rd strokeS lo w.heap.size w A n o) (hok : outOk o = true) :
    Calls Tryd.prog 33 #[.slice A n c] w (GivesO ((o.map (chg 1 4)).reverse) w) := by
  refine (specOutlineBack_any A n c lo o w hx).mono ?_
  rintro e w' ⟨B, d, rfl, hO, hb⟩
  have e1 : backF o = (o.map (chg 1 4)).reverse := by simp [backF, hok]
  rw [e1] at hO ⊢
  rw [hok]
  exact gives_mk hO hb (by rw [List.length_reverse, List.length_map]; have := (outOk_yes hok).2; omega)
theorem spec_back_no (A : Option Addr) (n c lo : Nat) (o : List (Int × Int)) (w : World) (hx : Rd strokeS lo w.heap.size w A n o) (hok : outOk o = false) :
    Calls Tryd.prog 33 #[.slice A n c] w (GivesN w) := by
  refine (specOutlineBack_any A n c lo o w hx).mono ?_
  rintro e w' ⟨B, d, rfl, hO, hb⟩
  have e1 : backF o = [] := by simp only [backF, hok]; rfl
  rw [e1] at hO ⊢
  rw [hok]
  exact ⟨B, d, rfl, hb⟩
end Go.Proofs.YtigemahbopligaaDoor
