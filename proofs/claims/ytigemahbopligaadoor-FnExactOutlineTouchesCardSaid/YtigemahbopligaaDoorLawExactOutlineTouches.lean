/- The law FnExactOutlineTouches returns true for all arguments that can be read. -/
import Derived.Test.YtigemahbopligaaDoorTouch
import Derived.Test.YtigemahbopligaaDoorTouch2
import Derived.Test.YtigemahbopligaaDoorStrokes
namespace Go.Proofs.YtigemahbopligaaDoor
open Go.RowKit
set_option maxHeartbeats 1000000 in
theorem lawExactOutlineTouches (A : Option Addr) (n c : Nat) (o : List (Int × Int)) (w : World) (hT : Tabs w) (hx : Rd strokeS 0 w.heap.size w A n o) :
    Calls Tryd.prog 4 #[.slice A n c] w fun e w' => e = .returned (.bool true) ∧ Below w.heap.size w w' := by
  by_cases hs : szI n 1048576 < 0
  · go_enter Tryd.func4, Tryd.ntmps4
    go_wp2_with fail
    refine (szStrokeS_any _ _ _ _ _ hx.2.1 (by omega) (by omega)).mono ?_
    rintro e w' ⟨rfl, rfl⟩
    go_wp2_with fail
    go_ret
    exact ⟨rfl, Below.refl _ _⟩
  · have hn : n ≤ 1048576 := by unfold szI at hs; split at hs <;> omega
    have HT := hid hT
    have HX := hid hx
    have hn0 := hx.2.1
    clear hT hx
    have tb : ∀ b : Bool, (b != b) = false := by intro b; cases b <;> rfl
    go_enter Tryd.func4, Tryd.ntmps4
    go_wp2_with fail
    refine (szStrokeS_any _ _ _ _ _ hn0 (by omega) (by omega)).mono ?_
    rintro e w' ⟨rfl, rfl⟩
    go_wp2_with fail
    refine (toStrokeS_any _ _ _ _ _ _ HX.out hn).mono ?_
    rintro e w1 ⟨g1, rfl, r1, b1⟩
    go_wp2_with fail
    refine (specOutlineTouches_any _ _ _ _ _ _ r1).mono ?_
    rintro e w2 ⟨rfl, b2⟩
    have B2 := hid (btr b1 b2)
    clear r1 b1 b2
    go_wp2_with fail
    refine (toStrokeS_any _ _ _ _ _ _ (HX.out.bl B2.out) hn).mono ?_
    rintro e w3 ⟨g3, rfl, r3, b3⟩
    have R3 := hid r3
    have B3 := hid (btr B2.out b3)
    clear r3 b3
    go_wp2_with fail
    refine (implOutlineTouches_any _ _ _ _ _ _ R3.out (HT.out.bl B3.out)).mono ?_
    rintro e w4 ⟨rfl, b4⟩
    have R4 := hid (R3.out.bl b4)
    have B4 := hid (btr B3.out b4)
    clear b4
    go_wp2_with fail
    refine (toStrokeS_any _ _ _ _ _ _ (HX.out.bl B4.out) hn).mono ?_
    rintro e w5 ⟨g5, rfl, r5, b5⟩
    have R5 := hid r5
    have R45 := hid (R4.out.bl b5)
    have B5 := hid (btr B4.out b5)
    clear r5 b5
    go_wp2_with fail
    refine (eqStrokeS_any _ _ _ _ _ _ _ _ _ _ _ R45.out R5.out).mono ?_
    rintro e w6 ⟨rfl, b6⟩
    have B6 := hid (btr B5.out b6)
    clear b6
    rw [eqD_self]
    go_wp2_with fail
    go_ret
    exact ⟨rfl, B6.out⟩
end Go.Proofs.YtigemahbopligaaDoor
