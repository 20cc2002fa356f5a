/- The law FnExactOutlineLength returns true for all arguments that can be read. -/
import Derived.Test.YtldhnljlhbbobaaChain
namespace Go.Proofs.Ytldhnljlhbbobaa
open Go.RowKit
set_option maxHeartbeats 1000000 in
theorem lawExactOutlineLength (A : Option Addr) (n c : Nat) (o : List (Int × Int)) (w : World) (hx : Rd strokeS 0 w.heap.size w A n o) :
    Calls Try.prog 5 #[.slice A n c] w fun e w' => e = .returned (.bool true) ∧ Below w.heap.size w w' := by
  by_cases hs : szI n 1048576 < 0
  · go_enter Try.func5, Try.ntmps5
    go_wp2_with fail
    refine (szStrokeS_any _ _ _ _ _ hx.2.1 (by omega) (by omega)).mono ?_
    rintro e w' ⟨rfl, rfl⟩
    go_wp2_with fail
    go_ret
    exact ⟨rfl, Below.refl _ _⟩
  · have hn : n ≤ 1048576 := by unfold szI at hs; split at hs <;> omega
    go_enter Try.func5, Try.ntmps5
    go_wp2_with fail
    refine (szStrokeS_any _ _ _ _ _ hx.2.1 (by omega) (by omega)).mono ?_
    rintro e w' ⟨rfl, rfl⟩
    go_wp2_with fail
    refine (toStrokeS_any _ _ _ _ _ _ hx hn).mono ?_
    rintro e w1 ⟨g1, rfl, r1, b1⟩
    go_wp2_with fail
    refine (specOutlineLength_any _ _ _ _ _ _ r1).mono ?_
    rintro e w2 ⟨rfl, b2⟩
    have c2 := b1.trans (b2.mono b1.size)
    have hx1 := (hx.below c2 (Nat.le_refl _)).wide (Nat.le_refl _) c2.size
    go_wp2_with fail
    refine (toStrokeS_any _ _ _ _ _ _ hx1 hn).mono ?_
    rintro e w3 ⟨g3, rfl, r3, b3⟩
    have c3 := c2.trans (b3.mono c2.size)
    go_wp2_with fail
    refine (implOutlineLength_any _ _ _ _ _ _ r3).mono ?_
    rintro e w4 ⟨rfl, b4⟩
    have c4 := c3.trans (b4.mono c3.size)
    have r4 := (r3.below b4 (Nat.le_refl _)).wide (Nat.le_refl _) b4.size
    have hx4 := (hx.below c4 (Nat.le_refl _)).wide (Nat.le_refl _) c4.size
    go_wp2_with fail
    refine (toStrokeS_any _ _ _ _ _ _ hx4 hn).mono ?_
    rintro e w5 ⟨g5, rfl, r5, b5⟩
    have c5 := c4.trans (b5.mono c4.size)
    go_wp2_with fail
    refine (eqStrokeS_any _ _ _ _ _ _ _ _ _ _ _ ((r4.below b5 (Nat.le_refl _)).wide (Nat.le_refl _) b5.size) r5).mono ?_
    rintro e w6 ⟨rfl, b6⟩
    rw [eqD_self]
    go_wp2_with fail
    go_ret
    exact ⟨rfl, c5.trans (b6.mono c5.size)⟩
end Go.Proofs.Ytldhnljlhbbobaa
