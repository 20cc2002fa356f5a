/- The law FnOutlineEnd returns true for all arguments that can be read. -/
import Derived.Test.YtigemahbopligaaDoorDrawsOut
import Derived.Test.YtigemahbopligaaDoorPtsLaws
import Derived.Test.YtigemahbopligaaDoorTurnsYes
import Derived.Test.YtigemahbopligaaDoorBox
namespace Go.Proofs.YtigemahbopligaaDoor
open Go.RowKit
theorem bne_self' {α : Type} [BEq α] [LawfulBEq α] (a : α) : (a != a) = false := by simp
set_option maxRecDepth 100000 in
set_option maxHeartbeats 2000000 in
theorem lawOutlineEnd (A : Option Addr) (n c : Nat) (l : List UInt8) (w : World) (hT : Tabs w) (hnc : n ≤ c) (hx : Rd byteS 0 w.heap.size w A n l) :
    Calls Tryd.prog 7 #[.slice A n c] w fun e w' => e = .returned (.bool true) ∧ Below w.heap.size w w' := by
  have hn63 := hx.2.1
  have HX := hid hx
  have HT := hid hT
  clear hx hT
  by_cases hn : n ≤ 1048576
  case neg =>
    have h1 : (1048576 : Int) < (n : Int) := by omega
    go_enter Tryd.func7, Tryd.ntmps7
    go_wp2_with fail
    go_ret
    exact ⟨rfl, Below.refl _ _⟩
  case pos =>
    have h1 : ¬ (1048576 : Int) < (n : Int) := by omega
    go_enter Tryd.func7, Tryd.ntmps7
    go_wp2_with fail
    refine (DrawOutlineEnd_any A n c l w hnc HX.out).mono ?_
    rintro e w1 ⟨B, d, o, rfl, hod, ho, hrd, hb1⟩
    have R1 := hid hrd
    have B1 := hid hb1
    have T1 := hid (HT.out.bl hb1)
    clear hrd hb1
    go_wp2_with fail
    refine (implOutlineEnd_any _ _ _ _ _ _ R1.out T1.out).mono ?_
    rintro e w2 ⟨rfl, hb2⟩
    have R2 := hid (R1.out.bl hb2)
    have B2 := hid (btr B1.out hb2)
    have T2 := hid (T1.out.bl hb2)
    clear hb2
    go_wp2_with fail
    refine (specOutlineEnd_any _ _ _ _ _ _ R2.out).mono ?_
    rintro e w3 ⟨rfl, hb3⟩
    have R3 := hid (R2.out.bl hb3)
    have B3 := hid (btr B2.out hb3)
    have T3 := hid (T2.out.bl hb3)
    clear hb3
    by_cases hok : outOk o = true
    case neg =>
      have hok' : outOk o = false := by simpa using hok
      rw [hok']
      clear hok
      go_wp2_with fail
      go_ret
      exact ⟨rfl, B3.out⟩
    case pos =>
      have el := end_len hok
      have eb := end_box hok
      have em := end_lin (t := 7) (m := 0) (.inr rfl) step_mir hok
      have mx : endX (o.map (chg 7 0)) = endX o := by rw [em.1]; omega
      have my : endY (o.map (chg 7 0)) = -endY o := by rw [em.2]; omega
      have mk := outOk_chg (m := 0) (.inr rfl : unit8 7) hok
      have lb := (len_bd hok).2
      have bb := box_bd hok
      have HOK := hid hok
      rw [hok]
      obtain ⟨x, hx⟩ : ∃ z, endX o = z := ⟨_, rfl⟩
      obtain ⟨y, hy⟩ : ∃ z, endY o = z := ⟨_, rfl⟩
      obtain ⟨N, hN⟩ : ∃ z, lenOf o = z := ⟨_, rfl⟩
      obtain ⟨W, hW⟩ : ∃ z, boxX o = z := ⟨_, rfl⟩
      obtain ⟨G, hG⟩ : ∃ z, boxY o = z := ⟨_, rfl⟩
      rw [hx, hy]
      rw [hx, hy, hN] at el
      rw [hx, hy, hW, hG] at eb
      rw [hx] at mx
      rw [hy] at my
      have HM := hid (And.intro mk (And.intro mx my))
      have HN := hid hN
      have HWG := hid (And.intro hW hG)
      obtain ⟨⟨el1, el2⟩, el3, el4⟩ := el
      obtain ⟨⟨eb1, eb2⟩, eb3, eb4⟩ := eb
      have en1 : -x ≤ N := by omega
      have en2 : -y ≤ N := by omega
      rw [hN] at lb
      rw [hW, hG] at bb
      obtain ⟨bb1, bb2⟩ := bb
      clear mx my mk hx hy hN hW hG em hok
      go_wp2_with fail
      refine (implOutlineBox_any _ _ _ _ _ _ R3.out T3.out).mono ?_
      rintro e w4 ⟨rfl, hb4⟩
      rw [HWG.out.1, HWG.out.2, HOK.out]
      have R4 := hid (R3.out.bl hb4)
      have B4 := hid (btr B3.out hb4)
      have T4 := hid (T3.out.bl hb4)
      clear hb4
      go_wp2_with fail
      refine (mirror_yes _ _ _ _ _ _ R4.out HOK.out).mono ?_
      rintro e w5 ⟨B', d', rfl, hd', hrd5, hb5⟩
      rw [List.length_map] at hd' hrd5
      have M5 := hid hrd5
      have R5 := hid (R4.out.bl hb5)
      have B5 := hid (btr B4.out hb5)
      have T5 := hid (T4.out.bl hb5)
      clear hb5 hrd5
      go_wp2_with fail
      refine (implOutlineEnd_any _ _ _ _ _ _ M5.out T5.out).mono ?_
      rintro e w6 ⟨rfl, hb6⟩
      rw [HM.out.1, HM.out.2.1, HM.out.2.2]
      have R6 := hid (R5.out.bl hb6)
      have B6 := hid (btr B5.out hb6)
      clear hb6
      go_wp2_with fail
      refine (implOutlineLength_any _ _ _ _ _ _ R6.out).mono ?_
      rintro e w7 ⟨rfl, hb7⟩
      rw [HN.out]
      have B7 := hid (btr B6.out hb7)
      clear hb7
      go_wp2_with fail
      all_goals
        go_ret
        exact ⟨rfl, B7.out⟩
end Go.Proofs.YtigemahbopligaaDoor
