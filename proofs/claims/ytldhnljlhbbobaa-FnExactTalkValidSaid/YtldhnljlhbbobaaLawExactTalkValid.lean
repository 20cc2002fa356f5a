/- The law FnExactTalkValid returns true for all arguments that can be read. -/
import Derived.Test.YtldhnljlhbbobaaDigits
namespace Go.Proofs.Ytldhnljlhbbobaa
open Go.RowKit
set_option maxHeartbeats 1000000 in
theorem lawExactTalkValid (A : Option Addr) (n c : Nat) (xs : List Int) (w : World) (hx : Rd intS 0 w.heap.size w A n xs) :
    Calls Try.prog 3 #[.slice A n c] w fun e w' => e = .returned (.bool true) ∧ Below w.heap.size w w' := by
  have hn0 := hx.2.1
  by_cases hs : (1048576 : Int) < n
  · go_enter Try.func3, Try.ntmps3
    go_wp2_with fail
    go_ret
    exact ⟨rfl, Below.refl _ _⟩
  · have hn : n ≤ 1048576 := by omega
    go_enter Try.func3, Try.ntmps3
    go_wp2_with fail
    refine (toIntS_any _ _ _ _ _ _ hx hn).mono ?_
    rintro e w1 ⟨g1, rfl, r1, b1⟩
    go_wp2_with fail
    refine (specTalkValid_any _ _ _ _ _ _ r1).mono ?_
    rintro e w' ⟨rfl, rfl⟩
    have hx1 := (hx.below b1 (Nat.le_refl _)).wide (Nat.le_refl _) b1.size
    go_wp2_with fail
    refine (toIntS_any _ _ _ _ _ _ hx1 hn).mono ?_
    rintro e w2 ⟨g2, rfl, r2, b2⟩
    have hx2 := (hx1.below b2 (Nat.le_refl _)).wide (Nat.le_refl _) b2.size
    go_wp2_with fail
    refine (implTalkValid_any _ _ _ _ _ _ r2).mono ?_
    rintro e w' ⟨rfl, rfl⟩
    go_wp2_with fail
    refine (toIntS_any _ _ _ _ _ _ hx2 hn).mono ?_
    rintro e w3 ⟨g3, rfl, r3, b3⟩
    go_wp2_with fail
    refine (eqIntS_any _ _ _ _ _ _ _ _ _ _ _ ((r2.below b3 (Nat.le_refl _)).wide (Nat.le_refl _) b3.size) r3).mono ?_
    rintro e w4 ⟨rfl, b4⟩
    rw [eqD_self]
    go_wp2_with fail
    go_ret
    exact ⟨rfl, ((b1.trans (b2.mono b1.size)).trans (b3.mono (Nat.le_trans b1.size b2.size))).trans (b4.mono (Nat.le_trans b1.size (Nat.le_trans b2.size b3.size)))⟩
end Go.Proofs.Ytldhnljlhbbobaa
