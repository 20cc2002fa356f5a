/- The law FnOutlineTurn returns true for all arguments that can be read. -/
import Derived.Test.YtigemahbopligaaDoorDrawsOut
import Derived.Test.YtigemahbopligaaDoorTurnsYes
import Derived.Test.YtigemahbopligaaDoorOutLaws
import Derived.Test.YtigemahbopligaaDoorPtsLaws
import Derived.Test.YtigemahbopligaaDoorBox
import Derived.Test.YtigemahbopligaaDoorCorners
import Derived.Test.YtigemahbopligaaDoorTouch
import Derived.Test.YtigemahbopligaaDoorTouch2
import Derived.BigGuard
namespace Go.Proofs.YtigemahbopligaaDoor
open Go.RowKit
set_option maxRecDepth 100000 in
set_option maxHeartbeats 8000000 in
theorem lawOutlineTurn (A : Option Addr) (n c : Nat) (l : List UInt8) (w : World) (hT : Tabs w) (hnc : n ≤ c) (hx : Rd byteS 0 w.heap.size w A n l) :
    Calls Tryd.prog 6 #[.slice A n c] w fun e w' => e = .returned (.bool true) ∧ Below w.heap.size w w' := by
  have hn63 := hx.2.1
  have HX := hid hx
  have HT := hid hT
  clear hT
  clear hx
  by_cases hn : n ≤ 1048576
  case neg =>
    have h1 : (1048576 : Int) < (n : Int) := by omega
    go_enter Tryd.func6, Tryd.ntmps6
    go_wp2_with fail
    go_ret
    exact ⟨rfl, Below.refl _ _⟩
  case pos =>
  have h1 : ¬ (1048576 : Int) < (n : Int) := by omega
  go_enter Tryd.func6, Tryd.ntmps6
  dsimp only [List.append]
  go_wp2_with fail
  refine (DrawOutlineTurn_any A n c l w hnc HX.out).mono ?_
  rintro e w1 ⟨B, d, o, kk, rfl, hkk, hod, hrd, hb1⟩
  have RO1 := hid hrd
  have B1 := hid hb1
  have T1 := hid (HT.out.bl hb1)
  clear hrd hb1
  go_wp2_with fail
  by_cases hok : (outOk o && inB kk 0 7) = true
  case neg =>
    have hok' : (outOk o && inB kk 0 7) = false := by simpa using hok
    clear hok
    refine (turn_no _ _ _ _ _ _ _ RO1.out hok').mono ?_
    rintro e w2 ⟨Bx, dx, rfl, hb2⟩
    have R2 := hid (RO1.out.bl hb2)
    have B2 := hid (btr B1.out hb2)
    clear hb2
    go_wp2_with fail
    refine (spec_turn_no _ _ _ _ _ _ _ R2.out hok').mono ?_
    rintro e w3 ⟨By, dy, rfl, hb3⟩
    have B3 := hid (btr B2.out hb3)
    clear hb3
    go_wp2_with fail
    refine (sameStrokes_any _ _ _ _ _ _ 0 0 _ _ _ (Rd.nil strokeS 0 _ _ _) (Rd.nil strokeS 0 _ _ _)).mono ?_
    rintro e w4 ⟨rfl, hb4⟩
    have B4 := hid (btr B3.out hb4)
    rw [eqD_self]
    clear hb4
    go_wp2_with fail
    refine (sameStrokes_any _ _ _ _ _ _ 0 0 _ _ _ (Rd.nil strokeS 0 _ _ _) (Rd.nil strokeS 0 _ _ _)).mono ?_
    rintro e w5 ⟨rfl, hb5⟩
    have B5 := hid (btr B4.out hb5)
    rw [eqD_self]
    clear hb5
    go_wp2_with fail
    go_ret
    exact ⟨rfl, B5.out⟩
  case pos =>
  rw [Bool.and_eq_true, inB_yes] at hok
  obtain ⟨hok, hk0, hk7⟩ := hok
  have hj0 : 0 ≤ -kk % 8 := by omega
  have hj7 : -kk % 8 ≤ 7 := by omega
  have ec := corn_chg (m := kk) (.inl rfl : unit8 1) hok
  have mt := outOk_chg (m := kk) (.inl rfl : unit8 1) hok
  have eo : (o.map (chg 1 kk)).map (chg 1 (-kk % 8)) = o := map_back (linked_ok (outOk_yes hok).1) (fun d h1 h2 => by omega)
  have e2 := end_lin (t := 1) (m := 2) (.inl rfl) step_t2 hok
  have e4 := end_lin (t := 1) (m := 4) (.inl rfl) step_t4 hok
  have e6 := end_lin (t := 1) (m := 6) (.inl rfl) step_t6 hok
  have el := end_len hok
  have el2 := end_len mt
  have lb := len_bd hok
  have lb2 := len_bd mt
  have HOK := hid hok
  obtain ⟨C, hC⟩ : ∃ z, cornOf o = z := ⟨_, rfl⟩
  obtain ⟨x, hx⟩ : ∃ z, endX o = z := ⟨_, rfl⟩
  obtain ⟨y, hy⟩ : ∃ z, endY o = z := ⟨_, rfl⟩
  obtain ⟨x', hx'⟩ : ∃ z, endX (o.map (chg 1 kk)) = z := ⟨_, rfl⟩
  obtain ⟨y', hy'⟩ : ∃ z, endY (o.map (chg 1 kk)) = z := ⟨_, rfl⟩
  rw [hC] at ec
  rw [hx, hy] at e2 e4 e6 el
  rw [hx', hy'] at el2
  have f2 : kk = 2 → x' = -y ∧ y' = x := fun h => by subst h; rw [hx', hy'] at e2; omega
  have f4 : kk = 4 → x' = -x ∧ y' = -y := fun h => by subst h; rw [hx', hy'] at e4; omega
  have f6 : kk = 6 → x' = y ∧ y' = -x := fun h => by subst h; rw [hx', hy'] at e6; omega
  have xb : -100 ≤ x ∧ x ≤ 100 := by omega
  have yb : -100 ≤ y ∧ y ≤ 100 := by omega
  obtain ⟨xb1, xb2⟩ := xb
  obtain ⟨yb1, yb2⟩ := yb
  have hkk : kk = 2 ∨ kk = 4 ∨ kk = 6 ∨ (kk ≠ 2 ∧ kk ≠ 4 ∧ kk ≠ 6) := by omega
  have HE := hid (And.intro mt (And.intro ec (And.intro hx' hy')))
  have HV := hid (And.intro hC (And.intro hx hy))
  have HEO := hid eo
  have HF := hid (And.intro f2 (And.intro f4 f6))
  have HKK := hid hkk
  clear ec mt eo e2 e4 e6 el el2 lb lb2 hC hx hy hx' hy' f2 f4 f6 hkk hok
  refine (turn_yes _ _ _ _ _ _ _ RO1.out HOK.out ⟨by omega, by omega⟩).mono ?_
  rintro e w2 ⟨RTB, RTd, rfl, RThd, hrd, hb2⟩
  rw [List.length_map] at RThd hrd
  have RT2 := hid hrd
  have RO2 := hid (RO1.out.bl hb2)
  have B2 := hid (btr B1.out hb2)
  have T2 := hid (T1.out.bl hb2)
  clear hb2
  clear hrd
  go_wp2_with fail
  refine (spec_turn_yes _ _ _ _ _ _ _ RO2.out HOK.out ⟨by omega, by omega⟩).mono ?_
  rintro e w3 ⟨RSB, RSd, rfl, RShd, hrd, hb3⟩
  rw [List.length_map] at RShd hrd
  have RS3 := hid hrd
  have RO3 := hid (RO2.out.bl hb3)
  have RT3 := hid (RT2.out.bl hb3)
  have B3 := hid (btr B2.out hb3)
  have T3 := hid (T2.out.bl hb3)
  clear hb3
  clear hrd
  go_wp2_with fail
  refine (sameStrokes_any _ _ _ _ _ _ _ _ _ _ _ RT3.out RS3.out).mono ?_
  rintro e w4 ⟨rfl, hb4⟩
  have RO4 := hid (RO3.out.bl hb4)
  have RT4 := hid (RT3.out.bl hb4)
  have RS4 := hid (RS3.out.bl hb4)
  have B4 := hid (btr B3.out hb4)
  have T4 := hid (T3.out.bl hb4)
  clear hb4
  rw [eqD_self]
  go_wp2_with fail
  refine (turn_yes _ _ _ _ _ _ _ RT4.out HE.out.1 ⟨hj0, hj7⟩).mono ?_
  rintro e w5 ⟨RXB, RXd, rfl, RXhd, hrd, hb5⟩
  rw [HEO.out] at RXhd hrd
  have RX5 := hid hrd
  have RO5 := hid (RO4.out.bl hb5)
  have RT5 := hid (RT4.out.bl hb5)
  have RS5 := hid (RS4.out.bl hb5)
  have B5 := hid (btr B4.out hb5)
  have T5 := hid (T4.out.bl hb5)
  clear hb5
  clear hrd
  go_wp2_with fail
  refine (implOutlineEnd_any _ _ _ _ _ _ RO5.out T5.out).mono ?_
  rintro e w6 ⟨rfl, hb6⟩
  have RO6 := hid (RO5.out.bl hb6)
  have RT6 := hid (RT5.out.bl hb6)
  have RS6 := hid (RS5.out.bl hb6)
  have RX6 := hid (RX5.out.bl hb6)
  have B6 := hid (btr B5.out hb6)
  have T6 := hid (T5.out.bl hb6)
  clear hb6
  rw [HV.out.2.1, HV.out.2.2, HOK.out]
  go_wp2_with fail
  refine (implOutlineEnd_any _ _ _ _ _ _ RT6.out T6.out).mono ?_
  rintro e w7 ⟨rfl, hb7⟩
  have RO7 := hid (RO6.out.bl hb7)
  have RT7 := hid (RT6.out.bl hb7)
  have RS7 := hid (RS6.out.bl hb7)
  have RX7 := hid (RX6.out.bl hb7)
  have B7 := hid (btr B6.out hb7)
  have T7 := hid (T6.out.bl hb7)
  clear hb7
  rw [HE.out.2.2.1, HE.out.2.2.2, HE.out.1]
  go_wp2_with fail
  refine (sameStrokes_any _ _ _ _ _ _ _ _ _ _ _ RX7.out RO7.out).mono ?_
  rintro e w8 ⟨rfl, hb8⟩
  have RO8 := hid (RO7.out.bl hb8)
  have RT8 := hid (RT7.out.bl hb8)
  have RS8 := hid (RS7.out.bl hb8)
  have RX8 := hid (RX7.out.bl hb8)
  have B8 := hid (btr B7.out hb8)
  have T8 := hid (T7.out.bl hb8)
  clear hb8
  rw [eqD_self]
  go_wp2_with fail
  refine (implOutlineCorners_any _ _ _ _ _ _ RT8.out).mono ?_
  rintro e w9 ⟨rfl, hb9⟩
  have RO9 := hid (RO8.out.bl hb9)
  have RT9 := hid (RT8.out.bl hb9)
  have RS9 := hid (RS8.out.bl hb9)
  have RX9 := hid (RX8.out.bl hb9)
  have B9 := hid (btr B8.out hb9)
  have T9 := hid (T8.out.bl hb9)
  clear hb9
  rw [HE.out.2.1]
  go_wp2_with fail
  refine (implOutlineCorners_any _ _ _ _ _ _ RO9.out).mono ?_
  rintro e w10 ⟨rfl, hb10⟩
  have RO10 := hid (RO9.out.bl hb10)
  have RT10 := hid (RT9.out.bl hb10)
  have RS10 := hid (RS9.out.bl hb10)
  have RX10 := hid (RX9.out.bl hb10)
  have B10 := hid (btr B9.out hb10)
  have T10 := hid (T9.out.bl hb10)
  clear hb10
  rw [HV.out.1]
  rcases HKK.out with h | h | h | ⟨h, h', h''⟩
  · obtain ⟨r1, r2⟩ := HF.out.1 h
    have t2 : (kk == 2) = true := by rw [h]; rfl
    have u2 : (kk != 2) = false := by rw [h]; rfl
    have t4 : (kk == 4) = false := by rw [h]; rfl
    have u4 : (kk != 4) = true := by rw [h]; rfl
    have t6 : (kk == 6) = false := by rw [h]; rfl
    have u6 : (kk != 6) = true := by rw [h]; rfl
    have q1 : (x' == -y) = true := by rw [r1]; simp
    have q2 : (y' == x) = true := by rw [r2]; simp
    clear h r1 r2 hk0 hk7 hj0 hj7 hkk
    go_wp2_with fail
    all_goals
      go_ret
      exact ⟨rfl, B10.out⟩
  · obtain ⟨r1, r2⟩ := HF.out.2.1 h
    have t2 : (kk == 2) = false := by rw [h]; rfl
    have u2 : (kk != 2) = true := by rw [h]; rfl
    have t4 : (kk == 4) = true := by rw [h]; rfl
    have u4 : (kk != 4) = false := by rw [h]; rfl
    have t6 : (kk == 6) = false := by rw [h]; rfl
    have u6 : (kk != 6) = true := by rw [h]; rfl
    have q1 : (x' == -x) = true := by rw [r1]; simp
    have q2 : (y' == -y) = true := by rw [r2]; simp
    clear h r1 r2 hk0 hk7 hj0 hj7 hkk
    go_wp2_with fail
    all_goals
      go_ret
      exact ⟨rfl, B10.out⟩
  · obtain ⟨r1, r2⟩ := HF.out.2.2 h
    have t2 : (kk == 2) = false := by rw [h]; rfl
    have u2 : (kk != 2) = true := by rw [h]; rfl
    have t4 : (kk == 4) = false := by rw [h]; rfl
    have u4 : (kk != 4) = true := by rw [h]; rfl
    have t6 : (kk == 6) = true := by rw [h]; rfl
    have u6 : (kk != 6) = false := by rw [h]; rfl
    have q1 : (x' == y) = true := by rw [r1]; simp
    have q2 : (y' == -x) = true := by rw [r2]; simp
    clear h r1 r2 hk0 hk7 hj0 hj7 hkk
    go_wp2_with fail
    all_goals
      go_ret
      exact ⟨rfl, B10.out⟩
  have t2 : (kk == 2) = false := by simpa using h
  have t4 : (kk == 4) = false := by simpa using h'
  have t6 : (kk == 6) = false := by simpa using h''
  have u2 : (kk != 2) = true := by simpa using h
  have u4 : (kk != 4) = true := by simpa using h'
  have u6 : (kk != 6) = true := by simpa using h''
  clear h h' h'' hk0 hk7 hj0 hj7 hkk
  go_wp2_with fail
  all_goals
    go_ret
    exact ⟨rfl, B10.out⟩
end Go.Proofs.YtigemahbopligaaDoor
