/- The law FnOutlineBox returns true for all arguments that can be read. -/
import Derived.Test.YtigemahbopligaaDoorDrawsOut
import Derived.Test.YtigemahbopligaaDoorTurnsYes
import Derived.Test.YtigemahbopligaaDoorOutLaws
import Derived.Test.YtigemahbopligaaDoorPtsLaws
import Derived.Test.YtigemahbopligaaDoorBox
import Derived.Test.YtigemahbopligaaDoorCorners
import Derived.Test.YtigemahbopligaaDoorTouch
import Derived.Test.YtigemahbopligaaDoorTouch2
namespace Go.Proofs.YtigemahbopligaaDoor
open Go.RowKit
set_option maxRecDepth 100000 in
set_option maxHeartbeats 2000000 in
theorem lawOutlineBox (A : Option Addr) (n c : Nat) (l : List UInt8) (w : World) (hT : Tabs w) (hnc : n ≤ c) (hx : Rd byteS 0 w.heap.size w A n l) :
    Calls Tryd.prog 10 #[.slice A n c] w fun e w' => e = .returned (.bool true) ∧ Below w.heap.size w w' := by
  have hn63 := hx.2.1
  have HX := hid hx
  have HT := hid hT
  clear hT
  clear hx
  by_cases hn : n ≤ 1048576
  case neg =>
    have h1 : (1048576 : Int) < (n : Int) := by omega
    go_enter Tryd.func10, Tryd.ntmps10
    go_wp2_with fail
    go_ret
    exact ⟨rfl, Below.refl _ _⟩
  case pos =>
  have h1 : ¬ (1048576 : Int) < (n : Int) := by omega
  go_enter Tryd.func10, Tryd.ntmps10
  go_wp2_with fail
  refine (DrawOutlineBox_any A n c l w hnc HX.out).mono ?_
  rintro e w1 ⟨B, d, o, rfl, hod, ho, hrd, hb1⟩
  have RO1 := hid hrd
  have B1 := hid hb1
  have T1 := hid (HT.out.bl hb1)
  clear hrd hb1
  go_wp2_with fail
  refine (implOutlineBox_any _ _ _ _ _ _ RO1.out T1.out).mono ?_
  rintro e w2 ⟨rfl, hb2⟩
  have RO2 := hid (RO1.out.bl hb2)
  have B2 := hid (btr B1.out hb2)
  have T2 := hid (T1.out.bl hb2)
  clear hb2
  go_wp2_with fail
  refine (specOutlineBox_any _ _ _ _ _ _ RO2.out).mono ?_
  rintro e w3 ⟨rfl, hb3⟩
  have RO3 := hid (RO2.out.bl hb3)
  have B3 := hid (btr B2.out hb3)
  have T3 := hid (T2.out.bl hb3)
  clear hb3
  by_cases hok : outOk o = true
  case neg =>
    have hok' : outOk o = false := by simpa using hok
    clear hok
    rw [hok']
    go_wp2_with fail
    go_ret
    exact ⟨rfl, B3.out⟩
  case pos =>
  have et := box_t2 hok
  have em := box_mir hok
  have ek := box_back hok
  have mt := outOk_chg (m := 2) (.inl rfl : unit8 1) hok
  have mm := outOk_chg (m := 0) (.inr rfl : unit8 7) hok
  have mk : outOk (o.map (chg 1 4)).reverse = true := by rw [outOk_reverse]; exact outOk_chg (.inl rfl) hok
  have HOK := hid hok
  rw [hok]
  obtain ⟨x, hx⟩ : ∃ z, boxX o = z := ⟨_, rfl⟩
  obtain ⟨y, hy⟩ : ∃ z, boxY o = z := ⟨_, rfl⟩
  rw [hx, hy] at et em ek
  rw [hx, hy]
  have HE := hid (And.intro (And.intro mt et) (And.intro (And.intro mm em) (And.intro mk ek)))
  clear et em ek mt mm mk hx hy hok
  go_wp2_with fail
  refine (turn_yes _ _ _ _ _ _ _ RO3.out HOK.out ⟨by omega, by omega⟩).mono ?_
  rintro e w4 ⟨RAB, RAd, rfl, RAhd, hrd, hb4⟩
  rw [List.length_map] at RAhd hrd
  have RA4 := hid hrd
  have RO4 := hid (RO3.out.bl hb4)
  have B4 := hid (btr B3.out hb4)
  have T4 := hid (T3.out.bl hb4)
  clear hb4
  clear hrd
  go_wp2_with fail
  refine (back_yes _ _ _ _ _ _ RO4.out HOK.out).mono ?_
  rintro e w5 ⟨RKB, RKd, rfl, RKhd, hrd, hb5⟩
  rw [List.length_reverse, List.length_map] at RKhd hrd
  have RK5 := hid hrd
  have RO5 := hid (RO4.out.bl hb5)
  have RA5 := hid (RA4.out.bl hb5)
  have B5 := hid (btr B4.out hb5)
  have T5 := hid (T4.out.bl hb5)
  clear hb5
  clear hrd
  go_wp2_with fail
  refine (mirror_yes _ _ _ _ _ _ RO5.out HOK.out).mono ?_
  rintro e w6 ⟨RMB, RMd, rfl, RMhd, hrd, hb6⟩
  rw [List.length_map] at RMhd hrd
  have RM6 := hid hrd
  have RO6 := hid (RO5.out.bl hb6)
  have RA6 := hid (RA5.out.bl hb6)
  have RK6 := hid (RK5.out.bl hb6)
  have B6 := hid (btr B5.out hb6)
  have T6 := hid (T5.out.bl hb6)
  clear hb6
  clear hrd
  go_wp2_with fail
  refine (implOutlineBox_any _ _ _ _ _ _ RA6.out T6.out).mono ?_
  rintro e w7 ⟨rfl, hb7⟩
  have RO7 := hid (RO6.out.bl hb7)
  have RA7 := hid (RA6.out.bl hb7)
  have RK7 := hid (RK6.out.bl hb7)
  have RM7 := hid (RM6.out.bl hb7)
  have B7 := hid (btr B6.out hb7)
  have T7 := hid (T6.out.bl hb7)
  clear hb7
  rw [HE.out.1.1, HE.out.1.2.1, HE.out.1.2.2]
  go_wp2_with fail
  refine (implOutlineBox_any _ _ _ _ _ _ RK7.out T7.out).mono ?_
  rintro e w8 ⟨rfl, hb8⟩
  have RO8 := hid (RO7.out.bl hb8)
  have RA8 := hid (RA7.out.bl hb8)
  have RK8 := hid (RK7.out.bl hb8)
  have RM8 := hid (RM7.out.bl hb8)
  have B8 := hid (btr B7.out hb8)
  have T8 := hid (T7.out.bl hb8)
  clear hb8
  rw [HE.out.2.2.1, HE.out.2.2.2.1, HE.out.2.2.2.2]
  go_wp2_with fail
  refine (implOutlineBox_any _ _ _ _ _ _ RM8.out T8.out).mono ?_
  rintro e w9 ⟨rfl, hb9⟩
  have RO9 := hid (RO8.out.bl hb9)
  have RA9 := hid (RA8.out.bl hb9)
  have RK9 := hid (RK8.out.bl hb9)
  have RM9 := hid (RM8.out.bl hb9)
  have B9 := hid (btr B8.out hb9)
  have T9 := hid (T8.out.bl hb9)
  clear hb9
  rw [HE.out.2.1.1, HE.out.2.1.2.1, HE.out.2.1.2.2]
  go_wp2_with fail
  all_goals
    go_ret
    exact ⟨rfl, B9.out⟩
end Go.Proofs.YtigemahbopligaaDoor
