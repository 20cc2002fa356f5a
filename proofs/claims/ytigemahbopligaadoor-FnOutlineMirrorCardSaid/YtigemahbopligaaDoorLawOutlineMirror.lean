/- The law FnOutlineMirror returns true for all arguments that can be read. -/
import Derived.Test.YtigemahbopligaaDoorDrawsOut
import Derived.Test.YtigemahbopligaaDoorTurnsYes
import Derived.Test.YtigemahbopligaaDoorOutLaws
import Derived.Test.YtigemahbopligaaDoorPtsLaws
import Derived.Test.YtigemahbopligaaDoorBox
import Derived.Test.YtigemahbopligaaDoorCorners
import Derived.Test.YtigemahbopligaaDoorTouch
import Derived.Test.YtigemahbopligaaDoorTouch2
namespace Go.Proofs.YtigemahbopligaaDoor
open Go.RowKit
set_option maxRecDepth 100000 in
set_option maxHeartbeats 2000000 in
theorem lawOutlineMirror (A : Option Addr) (n c : Nat) (l : List UInt8) (A' : Option Addr) (n' c' : Nat) (l' : List UInt8) (w : World) (hT : Tabs w) (hnc : n ≤ c) (hx : Rd byteS 0 w.heap.size w A n l) (hnc' : n' ≤ c') (hy : Rd byteS 0 w.heap.size w A' n' l') :
    Calls Tryd.prog 8 #[.slice A n c, .slice A' n' c'] w fun e w' => e = .returned (.bool true) ∧ Below w.heap.size w w' := by
  have hn63 := hx.2.1
  have HX := hid hx
  have HT := hid hT
  clear hT
  have hn63' := hy.2.1
  clear hx hy hnc'
  by_cases hn : n ≤ 1048576
  case neg =>
    have h1 : (1048576 : Int) < (n : Int) := by omega
    go_enter Tryd.func8, Tryd.ntmps8
    go_wp2_with fail
    go_ret
    exact ⟨rfl, Below.refl _ _⟩
  case pos =>
  have h1 : ¬ (1048576 : Int) < (n : Int) := by omega
  by_cases hn' : n' ≤ 1048576
  case neg =>
    have h2 : (1048576 : Int) < (n' : Int) := by omega
    go_enter Tryd.func8, Tryd.ntmps8
    go_wp2_with fail
    go_ret
    exact ⟨rfl, Below.refl _ _⟩
  case pos =>
  have h2 : ¬ (1048576 : Int) < (n' : Int) := by omega
  go_enter Tryd.func8, Tryd.ntmps8
  go_wp2_with fail
  refine (DrawOutlineMirror_any A n c l w hnc HX.out).mono ?_
  rintro e w1 ⟨B, d, o, rfl, hod, ho, hrd, hb1⟩
  have RO1 := hid hrd
  have B1 := hid hb1
  have T1 := hid (HT.out.bl hb1)
  clear hrd hb1
  go_wp2_with fail
  by_cases hok : outOk o = true
  case neg =>
    have hok' : outOk o = false := by simpa using hok
    clear hok
    refine (mirror_no _ _ _ _ _ _ RO1.out hok').mono ?_
    rintro e w2 ⟨Bx, dx, rfl, hb2⟩
    have R2 := hid (RO1.out.bl hb2)
    have B2 := hid (btr B1.out hb2)
    clear hb2
    go_wp2_with fail
    refine (spec_mirror_no _ _ _ _ _ _ R2.out hok').mono ?_
    rintro e w3 ⟨By, dy, rfl, hb3⟩
    have B3 := hid (btr B2.out hb3)
    clear hb3
    go_wp2_with fail
    refine (sameStrokes_any _ _ _ _ _ _ 0 0 _ _ _ (Rd.nil strokeS 0 _ _ _) (Rd.nil strokeS 0 _ _ _)).mono ?_
    rintro e w4 ⟨rfl, hb4⟩
    have B4 := hid (btr B3.out hb4)
    rw [eqD_self]
    clear hb4
    go_wp2_with fail
    refine (sameStrokes_any _ _ _ _ _ _ 0 0 _ _ _ (Rd.nil strokeS 0 _ _ _) (Rd.nil strokeS 0 _ _ _)).mono ?_
    rintro e w5 ⟨rfl, hb5⟩
    have B5 := hid (btr B4.out hb5)
    rw [eqD_self]
    clear hb5
    go_wp2_with fail
    go_ret
    exact ⟨rfl, B5.out⟩
  case pos =>
  obtain ⟨K, hK⟩ : ∃ K, n' % 8 = K := ⟨_, rfl⟩
  have hk1 : (n' : Int) % 8 = (K : Int) := by omega
  have hk2 : Int.tmod (n' : Int) 8 = (K : Int) := by rw [Int.tmod_eq_emod_of_nonneg (by omega)]; exact hk1
  have hk7 : K ≤ 7 := by omega
  obtain ⟨J, hJ⟩ : ∃ J, (8 - K) % 8 = J := ⟨_, rfl⟩
  have hj1 : (8 - (K : Int)) % 8 = (J : Int) := by omega
  have hj2 : Int.tmod (8 - (K : Int)) 8 = (J : Int) := by rw [Int.tmod_eq_emod_of_nonneg (by omega)]; exact hj1
  have hj7 : J ≤ 7 := by omega
  have ec := corn_chg (m := 0) (.inr rfl : unit8 7) hok
  have et := tou_mir hok
  have mm := outOk_chg (m := 0) (.inr rfl : unit8 7) hok
  have mt := outOk_chg (m := (K : Int)) (.inl rfl : unit8 1) hok
  have eo : (o.map (chg 7 0)).map (chg 7 0) = o := map_back (linked_ok (outOk_yes hok).1) (fun d h1 h2 => by omega)
  have ek : (o.map (chg 1 (K : Int))).map (chg 7 0) = (o.map (chg 7 0)).map (chg 1 (J : Int)) := by
    rw [List.map_map, List.map_map]
    refine List.map_congr_left fun p _ => ?_
    show chg 7 0 (chg 1 K p) = chg 1 J (chg 7 0 p)
    rw [chg_chg, chg_chg]
    have : (7 * ((1 * p.1 + (K : Int)) % 8) + 0) % 8 = (1 * ((7 * p.1 + 0) % 8) + (J : Int)) % 8 := by omega
    rw [this]
  have HOK := hid hok
  obtain ⟨C, hC⟩ : ∃ z, cornOf o = z := ⟨_, rfl⟩
  obtain ⟨T, hT⟩ : ∃ z, touOf o = z := ⟨_, rfl⟩
  rw [hC] at ec
  rw [hT] at et
  have HE := hid (And.intro mm (And.intro mt (And.intro ec et)))
  have HV := hid (And.intro hC hT)
  have HEO := hid eo
  have HEK := hid ek
  clear ec et mm mt eo ek hC hT hok hK hJ
  refine (mirror_yes _ _ _ _ _ _ RO1.out HOK.out).mono ?_
  rintro e w2 ⟨RMB, RMd, rfl, RMhd, hrd, hb2⟩
  rw [List.length_map] at RMhd hrd
  have RM2 := hid hrd
  have RO2 := hid (RO1.out.bl hb2)
  have B2 := hid (btr B1.out hb2)
  have T2 := hid (T1.out.bl hb2)
  clear hb2
  clear hrd
  go_wp2_with fail
  refine (spec_mirror_yes _ _ _ _ _ _ RO2.out HOK.out).mono ?_
  rintro e w3 ⟨RSB, RSd, rfl, RShd, hrd, hb3⟩
  rw [List.length_map] at RShd hrd
  have RS3 := hid hrd
  have RO3 := hid (RO2.out.bl hb3)
  have RM3 := hid (RM2.out.bl hb3)
  have B3 := hid (btr B2.out hb3)
  have T3 := hid (T2.out.bl hb3)
  clear hb3
  clear hrd
  go_wp2_with fail
  refine (sameStrokes_any _ _ _ _ _ _ _ _ _ _ _ RM3.out RS3.out).mono ?_
  rintro e w4 ⟨rfl, hb4⟩
  have RO4 := hid (RO3.out.bl hb4)
  have RM4 := hid (RM3.out.bl hb4)
  have RS4 := hid (RS3.out.bl hb4)
  have B4 := hid (btr B3.out hb4)
  have T4 := hid (T3.out.bl hb4)
  clear hb4
  rw [eqD_self]
  go_wp2_with fail
  refine (mirror_yes _ _ _ _ _ _ RM4.out HE.out.1).mono ?_
  rintro e w5 ⟨RXB, RXd, rfl, RXhd, hrd, hb5⟩
  rw [HEO.out] at RXhd hrd
  have RX5 := hid hrd
  have RO5 := hid (RO4.out.bl hb5)
  have RM5 := hid (RM4.out.bl hb5)
  have RS5 := hid (RS4.out.bl hb5)
  have B5 := hid (btr B4.out hb5)
  have T5 := hid (T4.out.bl hb5)
  clear hb5
  clear hrd
  go_wp2_with fail
  refine (turn_yes _ _ _ _ _ _ _ RO5.out HOK.out ⟨by omega, by omega⟩).mono ?_
  rintro e w6 ⟨RAB, RAd, rfl, RAhd, hrd, hb6⟩
  rw [List.length_map] at RAhd hrd
  have RA6 := hid hrd
  have RO6 := hid (RO5.out.bl hb6)
  have RM6 := hid (RM5.out.bl hb6)
  have RS6 := hid (RS5.out.bl hb6)
  have RX6 := hid (RX5.out.bl hb6)
  have B6 := hid (btr B5.out hb6)
  have T6 := hid (T5.out.bl hb6)
  clear hb6
  clear hrd
  go_wp2_with fail
  refine (mirror_yes _ _ _ _ _ _ RA6.out HE.out.2.1).mono ?_
  rintro e w7 ⟨RBB, RBd, rfl, RBhd, hrd, hb7⟩
  rw [List.length_map, List.length_map] at RBhd hrd
  have RB7 := hid hrd
  have RO7 := hid (RO6.out.bl hb7)
  have RM7 := hid (RM6.out.bl hb7)
  have RS7 := hid (RS6.out.bl hb7)
  have RX7 := hid (RX6.out.bl hb7)
  have RA7 := hid (RA6.out.bl hb7)
  have B7 := hid (btr B6.out hb7)
  have T7 := hid (T6.out.bl hb7)
  clear hb7
  clear hrd
  go_wp2_with fail
  refine (turn_yes _ _ _ _ _ _ _ RM7.out HE.out.1 ⟨by omega, by omega⟩).mono ?_
  rintro e w8 ⟨RCB, RCd, rfl, RChd, hrd, hb8⟩
  rw [List.length_map, List.length_map] at RChd hrd
  rw [← HEK.out] at hrd
  have RC8 := hid hrd
  have RO8 := hid (RO7.out.bl hb8)
  have RM8 := hid (RM7.out.bl hb8)
  have RS8 := hid (RS7.out.bl hb8)
  have RX8 := hid (RX7.out.bl hb8)
  have RA8 := hid (RA7.out.bl hb8)
  have RB8 := hid (RB7.out.bl hb8)
  have B8 := hid (btr B7.out hb8)
  have T8 := hid (T7.out.bl hb8)
  clear hb8
  clear hrd
  go_wp2_with fail
  refine (sameStrokes_any _ _ _ _ _ _ _ _ _ _ _ RX8.out RO8.out).mono ?_
  rintro e w9 ⟨rfl, hb9⟩
  have RO9 := hid (RO8.out.bl hb9)
  have RM9 := hid (RM8.out.bl hb9)
  have RS9 := hid (RS8.out.bl hb9)
  have RX9 := hid (RX8.out.bl hb9)
  have RA9 := hid (RA8.out.bl hb9)
  have RB9 := hid (RB8.out.bl hb9)
  have RC9 := hid (RC8.out.bl hb9)
  have B9 := hid (btr B8.out hb9)
  have T9 := hid (T8.out.bl hb9)
  clear hb9
  rw [eqD_self]
  go_wp2_with fail
  refine (sameStrokes_any _ _ _ _ _ _ _ _ _ _ _ RB9.out RC9.out).mono ?_
  rintro e w10 ⟨rfl, hb10⟩
  have RO10 := hid (RO9.out.bl hb10)
  have RM10 := hid (RM9.out.bl hb10)
  have RS10 := hid (RS9.out.bl hb10)
  have RX10 := hid (RX9.out.bl hb10)
  have RA10 := hid (RA9.out.bl hb10)
  have RB10 := hid (RB9.out.bl hb10)
  have RC10 := hid (RC9.out.bl hb10)
  have B10 := hid (btr B9.out hb10)
  have T10 := hid (T9.out.bl hb10)
  clear hb10
  rw [eqD_self]
  go_wp2_with fail
  refine (implOutlineCorners_any _ _ _ _ _ _ RM10.out).mono ?_
  rintro e w11 ⟨rfl, hb11⟩
  have RO11 := hid (RO10.out.bl hb11)
  have RM11 := hid (RM10.out.bl hb11)
  have RS11 := hid (RS10.out.bl hb11)
  have RX11 := hid (RX10.out.bl hb11)
  have RA11 := hid (RA10.out.bl hb11)
  have RB11 := hid (RB10.out.bl hb11)
  have RC11 := hid (RC10.out.bl hb11)
  have B11 := hid (btr B10.out hb11)
  have T11 := hid (T10.out.bl hb11)
  clear hb11
  rw [HE.out.2.2.1]
  go_wp2_with fail
  refine (implOutlineCorners_any _ _ _ _ _ _ RO11.out).mono ?_
  rintro e w12 ⟨rfl, hb12⟩
  have RO12 := hid (RO11.out.bl hb12)
  have RM12 := hid (RM11.out.bl hb12)
  have RS12 := hid (RS11.out.bl hb12)
  have RX12 := hid (RX11.out.bl hb12)
  have RA12 := hid (RA11.out.bl hb12)
  have RB12 := hid (RB11.out.bl hb12)
  have RC12 := hid (RC11.out.bl hb12)
  have B12 := hid (btr B11.out hb12)
  have T12 := hid (T11.out.bl hb12)
  clear hb12
  rw [HV.out.1]
  go_wp2_with fail
  refine (implOutlineTouches_any _ _ _ _ _ _ RM12.out T12.out).mono ?_
  rintro e w13 ⟨rfl, hb13⟩
  have RO13 := hid (RO12.out.bl hb13)
  have RM13 := hid (RM12.out.bl hb13)
  have RS13 := hid (RS12.out.bl hb13)
  have RX13 := hid (RX12.out.bl hb13)
  have RA13 := hid (RA12.out.bl hb13)
  have RB13 := hid (RB12.out.bl hb13)
  have RC13 := hid (RC12.out.bl hb13)
  have B13 := hid (btr B12.out hb13)
  have T13 := hid (T12.out.bl hb13)
  clear hb13
  rw [HE.out.2.2.2]
  go_wp2_with fail
  refine (implOutlineTouches_any _ _ _ _ _ _ RO13.out T13.out).mono ?_
  rintro e w14 ⟨rfl, hb14⟩
  have RO14 := hid (RO13.out.bl hb14)
  have RM14 := hid (RM13.out.bl hb14)
  have RS14 := hid (RS13.out.bl hb14)
  have RX14 := hid (RX13.out.bl hb14)
  have RA14 := hid (RA13.out.bl hb14)
  have RB14 := hid (RB13.out.bl hb14)
  have RC14 := hid (RC13.out.bl hb14)
  have B14 := hid (btr B13.out hb14)
  have T14 := hid (T13.out.bl hb14)
  clear hb14
  rw [HV.out.2]
  go_wp2_with fail
  all_goals
    go_ret
    exact ⟨rfl, B14.out⟩
end Go.Proofs.YtigemahbopligaaDoor
