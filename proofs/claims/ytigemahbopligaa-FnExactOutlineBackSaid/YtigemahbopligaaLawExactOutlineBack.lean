/- The law FnExactOutlineBack returns true for all arguments that can be read. -/
import Derived.Test.YtigemahbopligaaTurns
import Derived.Test.YtigemahbopligaaMarks
namespace Go.Proofs.Ytigemahbopligaa
open Go.RowKit
theorem lenBack (o : List (Int × Int)) : (backF o).length ≤ 8 := by
  unfold backF
  split
  · rename_i h
    try simp only [Bool.and_eq_true] at h
    simp only [List.length_map, List.length_reverse]
    exact (outOk_yes (by first | exact h | exact h.1)).2
  · simp
set_option maxHeartbeats 2000000 in
theorem lawExactOutlineBack (A : Option Addr) (n c : Nat) (o : List (Int × Int)) (w : World) (hx : Rd strokeS 0 w.heap.size w A n o) :
    Calls Try.prog 4 #[.slice A n c] w fun e w' => e = .returned (.bool true) ∧ Below w.heap.size w w' := by
  by_cases hs : szI n 1048576 < 0
  · go_enter Try.func4, Try.ntmps4
    go_wp2_with fail
    refine (szStrokeS_any _ _ _ _ _ hx.2.1 (by omega) (by omega)).mono ?_
    rintro e w' ⟨rfl, rfl⟩
    go_wp2_with fail
    go_ret
    exact ⟨rfl, Below.refl _ _⟩
  · have hn : n ≤ 1048576 := by unfold szI at hs; split at hs <;> omega
    have hl8 := lenBack o
    have HX := hid hx
    have hn0 := hx.2.1
    clear hx
    go_enter Try.func4, Try.ntmps4
    go_wp2_with fail
    refine (szStrokeS_any _ _ _ _ _ hn0 (by omega) (by omega)).mono ?_
    rintro e w' ⟨rfl, rfl⟩
    go_wp2_with fail
    refine (toStrokeS_any _ _ _ _ _ _ HX.out hn).mono ?_
    rintro e w1 ⟨g1, rfl, r1, b1⟩
    go_wp2_with fail
    refine (specOutlineBack_any _ _ _ _ _ _ r1).mono ?_
    rintro e w2 ⟨A2, c2, rfl, o2, b2⟩
    obtain ⟨_, R2⟩ := o2.rd (by omega)
    have B2 := hid (btr b1 b2)
    have W0 := hid R2
    clear r1 o2 R2 b1 b2
    go_wp2_with fail
    refine (toStrokeS_own _ _ _ _ _ _ (HX.out.bl B2.out) hn).mono ?_
    rintro e w3 ⟨g3, rfl, x3, b3⟩
    have X3 := hid x3
    have L3 := hid (x3.own_lt rfl)
    have B3 := hid b3
    clear x3 b3
    go_wp2_with fail
    refine (implOutlineBack_any _ _ _ _ _ _ (X3.out.rd (by have := HX.out.1; omega)).2).mono ?_
    rintro e w4 ⟨A4, c4, rfl, o4, b4⟩
    have G4 := hid o4
    have B4 := hid b4
    clear o4 b4
    go_wp2_with fail
    refine (eqStrokeS_any _ _ _ _ _ _ _ _ _ _ _ (G4.out.rd (by omega)).2 (W0.out.bl (btr B3.out B4.out))).mono ?_
    rintro e w5 ⟨rfl, b5⟩
    have B5 := hid b5
    clear b5
    rw [eqD_self]
    have tb : ∀ b : Bool, (b != b) = false := by intro b; cases b <;> rfl
    go_wp2_with fail
    refine (toStrokeS_any _ _ _ _ _ _ (HX.out.bl (btr (btr B2.out B3.out) (btr B4.out B5.out))) hn).mono ?_
    rintro e w6 ⟨g6, rfl, r6, b6⟩
    have R6 := hid r6
    have B6 := hid b6
    clear r6 b6
    go_wp2_with fail
    refine (eqStrokeS_any _ _ _ _ _ _ _ _ _ _ _ ((X3.out.rd (by have := HX.out.1; omega)).2.bl (btr (btr B4.out B5.out) B6.out)) R6.out).mono ?_
    rintro e w7 ⟨rfl, b7⟩
    have B47 := hid (btr (btr B5.out B6.out) b7)
    have B7 := hid (btr (btr B2.out B3.out) (btr B4.out B47.out))
    clear b7
    rw [eqD_self]
    go_wp2_with fail
    refine (markStrokeS_any _ _ _ _ _ _ _ _ (X3.out.bl (btr B4.out B47.out)) hn (by omega) (by omega)).mono ?_
    rintro e w8 ⟨rfl, _, h8⟩
    have C8 := hid (h8.wide (D' := fun b => b = g3) fun k hk => by injection hk with hk; exact hk.symm)
    have G8 := hid ((G4.out.bl B47.out).chg C8.out (fun k hk => by rw [hk]; exact L3.out.2))
    have W8 := hid ((W0.out.below (btr B3.out (btr B4.out B47.out)) (Nat.le_refl _)).chg C8.out (btr B3.out (btr B4.out B47.out)).size (fun k hk => .inl (by rw [hk]; exact L3.out.1)))
    have B8 := hid (B7.out.trans (C8.out.below B7.out.size (fun k hk => by rw [hk]; exact Nat.le_trans B2.out.size L3.out.1)))
    clear h8
    go_wp2_with fail
    refine (eqStrokeS_any _ _ _ _ _ _ _ _ _ _ _ (G8.out.rd (by omega)).2 (W8.out.wide (Nat.le_refl _) (Nat.le_trans (btr B3.out (btr B4.out B47.out)).size C8.out.size))).mono ?_
    rintro e w9 ⟨rfl, b9⟩
    have B9 := hid (btr B8.out b9)
    have G9 := hid (G8.out.bl b9)
    have W9 := hid (W8.out.below b9 (Nat.le_trans (btr B3.out (btr B4.out B47.out)).size C8.out.size))
    have z9 : w2.heap.size ≤ w9.heap.size := Nat.le_trans (Nat.le_trans (btr B3.out (btr B4.out B47.out)).size C8.out.size) b9.size
    clear b9
    rw [eqD_self]
    go_wp2_with fail
    refine (markStrokeS_any _ _ _ _ _ _ _ _ G9.out (by omega) (by omega) (by omega)).mono ?_
    rintro e w10 ⟨rfl, m10, c10⟩
    have hD : ∀ q, (Value.slice A4 (backF o).length c4).ownBlock = some q → w3.heap.size ≤ q := fun k hk => (G9.out.own_lt hk).1
    have W10 := hid (W9.out.chg c10 z9 (fun k hk => .inl (Nat.le_trans B3.out.size (hD k hk))))
    have B10 := hid (B9.out.trans (c10.below B9.out.size (fun k hk => Nat.le_trans (Nat.le_trans B2.out.size B3.out.size) (hD k hk))))
    have M10 := hid (m10.wide (Nat.le_refl _) c10.size)
    have z10 : w2.heap.size ≤ w10.heap.size := Nat.le_trans z9 c10.size
    clear m10 c10 hD
    go_wp2_with fail
    refine (heldStrokeS_any _ _ _ _ _ _ M10.out (by omega) (by omega) (by omega)).mono ?_
    rintro e w' ⟨rfl, rfl⟩
    have t2 : ((1 : Int) + 2 * ((backF o).length : Int) != 1 + 2 * ((backF o).length : Int)) = false := by simp
    go_wp2_with fail
    refine (toStrokeS_any _ _ _ _ _ _ (HX.out.bl B10.out) hn).mono ?_
    rintro e w11 ⟨g11, rfl, r11, b11⟩
    have R11 := hid r11
    have B11 := hid b11
    clear r11 b11
    go_wp2_with fail
    refine (implOutlineBack_any _ _ _ _ _ _ R11.out).mono ?_
    rintro e w12 ⟨A12, c12, rfl, o12, b12⟩
    have O12 := hid o12
    have B12 := hid (btr B11.out b12)
    clear o12 b12
    go_wp2_with fail
    refine (eqStrokeS_any _ _ _ _ _ _ _ _ _ _ _ (O12.out.rd (by omega)).2 ((W10.out.below B12.out z10).wide (Nat.le_refl _) (Nat.le_trans z10 B12.out.size))).mono ?_
    rintro e w13 ⟨rfl, b13⟩
    have B13 := hid (btr B12.out b13)
    clear b13
    rw [eqD_self]
    go_wp2_with fail
    refine (heldStrokeS_any _ _ _ _ _ _ (M10.out.bl B13.out) (by omega) (by omega) (by omega)).mono ?_
    rintro e w' ⟨rfl, rfl⟩
    go_wp2_with fail
    go_ret
    exact ⟨rfl, btr B10.out B13.out⟩
end Go.Proofs.Ytigemahbopligaa
