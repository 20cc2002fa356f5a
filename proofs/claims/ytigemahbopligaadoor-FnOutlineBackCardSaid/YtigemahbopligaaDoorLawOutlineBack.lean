/- The law FnOutlineBack returns true for all arguments that can be read. -/
import Derived.Test.YtigemahbopligaaDoorDrawsOut
import Derived.Test.YtigemahbopligaaDoorTurnsYes
import Derived.Test.YtigemahbopligaaDoorOutLaws
import Derived.Test.YtigemahbopligaaDoorPtsLaws
import Derived.Test.YtigemahbopligaaDoorBox
import Derived.Test.YtigemahbopligaaDoorCorners
import Derived.Test.YtigemahbopligaaDoorTouch
import Derived.Test.YtigemahbopligaaDoorTouch2
namespace Go.Proofs.YtigemahbopligaaDoor
open Go.RowKit
set_option maxRecDepth 100000 in
set_option maxHeartbeats 2000000 in
theorem lawOutlineBack (A : Option Addr) (n c : Nat) (l : List UInt8) (w : World) (hT : Tabs w) (hnc : n ≤ c) (hx : Rd byteS 0 w.heap.size w A n l) :
    Calls Tryd.prog 9 #[.slice A n c] w fun e w' => e = .returned (.bool true) ∧ Below w.heap.size w w' := by
  have hn63 := hx.2.1
  have HX := hid hx
  have HT := hid hT
  clear hT
  clear hx
  by_cases hn : n ≤ 1048576
  case neg =>
    have h1 : (1048576 : Int) < (n : Int) := by omega
    go_enter Tryd.func9, Tryd.ntmps9
    go_wp2_with fail
    go_ret
    exact ⟨rfl, Below.refl _ _⟩
  case pos =>
  have h1 : ¬ (1048576 : Int) < (n : Int) := by omega
  go_enter Tryd.func9, Tryd.ntmps9
  go_wp2_with fail
  refine (DrawOutlineBack_any A n c l w hnc HX.out).mono ?_
  rintro e w1 ⟨B, d, o, rfl, hod, ho, hrd, hb1⟩
  have RO1 := hid hrd
  have B1 := hid hb1
  have T1 := hid (HT.out.bl hb1)
  clear hrd hb1
  go_wp2_with fail
  by_cases hok : outOk o = true
  case neg =>
    have hok' : outOk o = false := by simpa using hok
    clear hok
    refine (back_no _ _ _ _ _ _ RO1.out hok').mono ?_
    rintro e w2 ⟨Bx, dx, rfl, hb2⟩
    have R2 := hid (RO1.out.bl hb2)
    have B2 := hid (btr B1.out hb2)
    clear hb2
    go_wp2_with fail
    refine (spec_back_no _ _ _ _ _ _ R2.out hok').mono ?_
    rintro e w3 ⟨By, dy, rfl, hb3⟩
    have B3 := hid (btr B2.out hb3)
    clear hb3
    go_wp2_with fail
    refine (sameStrokes_any _ _ _ _ _ _ 0 0 _ _ _ (Rd.nil strokeS 0 _ _ _) (Rd.nil strokeS 0 _ _ _)).mono ?_
    rintro e w4 ⟨rfl, hb4⟩
    have B4 := hid (btr B3.out hb4)
    rw [eqD_self]
    clear hb4
    go_wp2_with fail
    refine (sameStrokes_any _ _ _ _ _ _ 0 0 _ _ _ (Rd.nil strokeS 0 _ _ _) (Rd.nil strokeS 0 _ _ _)).mono ?_
    rintro e w5 ⟨rfl, hb5⟩
    have B5 := hid (btr B4.out hb5)
    rw [eqD_self]
    clear hb5
    go_wp2_with fail
    go_ret
    exact ⟨rfl, B5.out⟩
  case pos =>
  have ee := end_back hok
  have ec : cornOf (o.map (chg 1 4)).reverse = cornOf o := (corn_reverse _).trans (corn_chg (.inl rfl) hok)
  have et := tou_back hok
  have el := end_len hok
  have lb := len_bd hok
  have mk : outOk (o.map (chg 1 4)).reverse = true := by rw [outOk_reverse]; exact outOk_chg (.inl rfl) hok
  have eo : ((o.map (chg 1 4)).reverse.map (chg 1 4)).reverse = o := by
    rw [List.map_reverse, List.reverse_reverse, map_back (linked_ok (outOk_yes hok).1) (fun d h1 h2 => by omega)]
  have HOK := hid hok
  obtain ⟨x, hx⟩ : ∃ z, endX o = z := ⟨_, rfl⟩
  obtain ⟨y, hy⟩ : ∃ z, endY o = z := ⟨_, rfl⟩
  obtain ⟨C, hC⟩ : ∃ z, cornOf o = z := ⟨_, rfl⟩
  obtain ⟨T, hT⟩ : ∃ z, touOf o = z := ⟨_, rfl⟩
  rw [hx, hy] at ee el
  rw [hC] at ec
  rw [hT] at et
  have hx1 : -100 ≤ x ∧ x ≤ 100 := by omega
  have hy1 : -100 ≤ y ∧ y ≤ 100 := by omega
  obtain ⟨hx1, hx2⟩ := hx1
  obtain ⟨hy1, hy2⟩ := hy1
  have HE := hid (And.intro mk (And.intro ee (And.intro ec et)))
  have HV := hid (And.intro (And.intro hx hy) (And.intro hC hT))
  have HEO := hid eo
  clear ee ec et el lb mk eo hx hy hC hT hok
  refine (back_yes _ _ _ _ _ _ RO1.out HOK.out).mono ?_
  rintro e w2 ⟨RKB, RKd, rfl, RKhd, hrd, hb2⟩
  rw [List.length_reverse, List.length_map] at RKhd hrd
  have RK2 := hid hrd
  have RO2 := hid (RO1.out.bl hb2)
  have B2 := hid (btr B1.out hb2)
  have T2 := hid (T1.out.bl hb2)
  clear hb2
  clear hrd
  go_wp2_with fail
  refine (spec_back_yes _ _ _ _ _ _ RO2.out HOK.out).mono ?_
  rintro e w3 ⟨RSB, RSd, rfl, RShd, hrd, hb3⟩
  rw [List.length_reverse, List.length_map] at RShd hrd
  have RS3 := hid hrd
  have RO3 := hid (RO2.out.bl hb3)
  have RK3 := hid (RK2.out.bl hb3)
  have B3 := hid (btr B2.out hb3)
  have T3 := hid (T2.out.bl hb3)
  clear hb3
  clear hrd
  go_wp2_with fail
  refine (sameStrokes_any _ _ _ _ _ _ _ _ _ _ _ RK3.out RS3.out).mono ?_
  rintro e w4 ⟨rfl, hb4⟩
  have RO4 := hid (RO3.out.bl hb4)
  have RK4 := hid (RK3.out.bl hb4)
  have RS4 := hid (RS3.out.bl hb4)
  have B4 := hid (btr B3.out hb4)
  have T4 := hid (T3.out.bl hb4)
  clear hb4
  rw [eqD_self]
  go_wp2_with fail
  refine (back_yes _ _ _ _ _ _ RK4.out HE.out.1).mono ?_
  rintro e w5 ⟨RXB, RXd, rfl, RXhd, hrd, hb5⟩
  rw [HEO.out] at RXhd hrd
  have RX5 := hid hrd
  have RO5 := hid (RO4.out.bl hb5)
  have RK5 := hid (RK4.out.bl hb5)
  have RS5 := hid (RS4.out.bl hb5)
  have B5 := hid (btr B4.out hb5)
  have T5 := hid (T4.out.bl hb5)
  clear hb5
  clear hrd
  go_wp2_with fail
  refine (implOutlineEnd_any _ _ _ _ _ _ RO5.out T5.out).mono ?_
  rintro e w6 ⟨rfl, hb6⟩
  have RO6 := hid (RO5.out.bl hb6)
  have RK6 := hid (RK5.out.bl hb6)
  have RS6 := hid (RS5.out.bl hb6)
  have RX6 := hid (RX5.out.bl hb6)
  have B6 := hid (btr B5.out hb6)
  have T6 := hid (T5.out.bl hb6)
  clear hb6
  rw [HV.out.1.1, HV.out.1.2, HOK.out]
  go_wp2_with fail
  refine (implOutlineEnd_any _ _ _ _ _ _ RK6.out T6.out).mono ?_
  rintro e w7 ⟨rfl, hb7⟩
  have RO7 := hid (RO6.out.bl hb7)
  have RK7 := hid (RK6.out.bl hb7)
  have RS7 := hid (RS6.out.bl hb7)
  have RX7 := hid (RX6.out.bl hb7)
  have B7 := hid (btr B6.out hb7)
  have T7 := hid (T6.out.bl hb7)
  clear hb7
  rw [HE.out.2.1.1, HE.out.2.1.2, HE.out.1]
  go_wp2_with fail
  refine (sameStrokes_any _ _ _ _ _ _ _ _ _ _ _ RX7.out RO7.out).mono ?_
  rintro e w8 ⟨rfl, hb8⟩
  have RO8 := hid (RO7.out.bl hb8)
  have RK8 := hid (RK7.out.bl hb8)
  have RS8 := hid (RS7.out.bl hb8)
  have RX8 := hid (RX7.out.bl hb8)
  have B8 := hid (btr B7.out hb8)
  have T8 := hid (T7.out.bl hb8)
  clear hb8
  rw [eqD_self]
  go_wp2_with fail
  refine (implOutlineCorners_any _ _ _ _ _ _ RK8.out).mono ?_
  rintro e w9 ⟨rfl, hb9⟩
  have RO9 := hid (RO8.out.bl hb9)
  have RK9 := hid (RK8.out.bl hb9)
  have RS9 := hid (RS8.out.bl hb9)
  have RX9 := hid (RX8.out.bl hb9)
  have B9 := hid (btr B8.out hb9)
  have T9 := hid (T8.out.bl hb9)
  clear hb9
  rw [HE.out.2.2.1]
  go_wp2_with fail
  refine (implOutlineCorners_any _ _ _ _ _ _ RO9.out).mono ?_
  rintro e w10 ⟨rfl, hb10⟩
  have RO10 := hid (RO9.out.bl hb10)
  have RK10 := hid (RK9.out.bl hb10)
  have RS10 := hid (RS9.out.bl hb10)
  have RX10 := hid (RX9.out.bl hb10)
  have B10 := hid (btr B9.out hb10)
  have T10 := hid (T9.out.bl hb10)
  clear hb10
  rw [HV.out.2.1]
  go_wp2_with fail
  refine (implOutlineTouches_any _ _ _ _ _ _ RK10.out T10.out).mono ?_
  rintro e w11 ⟨rfl, hb11⟩
  have RO11 := hid (RO10.out.bl hb11)
  have RK11 := hid (RK10.out.bl hb11)
  have RS11 := hid (RS10.out.bl hb11)
  have RX11 := hid (RX10.out.bl hb11)
  have B11 := hid (btr B10.out hb11)
  have T11 := hid (T10.out.bl hb11)
  clear hb11
  rw [HE.out.2.2.2]
  go_wp2_with fail
  refine (implOutlineTouches_any _ _ _ _ _ _ RO11.out T11.out).mono ?_
  rintro e w12 ⟨rfl, hb12⟩
  have RO12 := hid (RO11.out.bl hb12)
  have RK12 := hid (RK11.out.bl hb12)
  have RS12 := hid (RS11.out.bl hb12)
  have RX12 := hid (RX11.out.bl hb12)
  have B12 := hid (btr B11.out hb12)
  have T12 := hid (T11.out.bl hb12)
  clear hb12
  rw [HV.out.2.2]
  go_wp2_with fail
  all_goals
    go_ret
    exact ⟨rfl, B12.out⟩
end Go.Proofs.YtigemahbopligaaDoor
