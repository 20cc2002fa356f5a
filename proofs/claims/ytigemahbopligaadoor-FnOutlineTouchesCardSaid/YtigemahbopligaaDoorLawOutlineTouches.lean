/- The law FnOutlineTouches returns true for all arguments that can be read. -/
import Derived.Test.YtigemahbopligaaDoorDrawsOut
import Derived.Test.YtigemahbopligaaDoorTurnsYes
import Derived.Test.YtigemahbopligaaDoorOutLaws
import Derived.Test.YtigemahbopligaaDoorPtsLaws
import Derived.Test.YtigemahbopligaaDoorBox
import Derived.Test.YtigemahbopligaaDoorCorners
import Derived.Test.YtigemahbopligaaDoorTouch
import Derived.Test.YtigemahbopligaaDoorTouch2
namespace Go.Proofs.YtigemahbopligaaDoor
open Go.RowKit
set_option maxRecDepth 100000 in
set_option maxHeartbeats 2000000 in
theorem lawOutlineTouches (A : Option Addr) (n c : Nat) (l : List UInt8) (A' : Option Addr) (n' c' : Nat) (l' : List UInt8) (w : World) (hT : Tabs w) (hnc : n ≤ c) (hx : Rd byteS 0 w.heap.size w A n l) (hnc' : n' ≤ c') (hy : Rd byteS 0 w.heap.size w A' n' l') :
    Calls Tryd.prog 5 #[.slice A n c, .slice A' n' c'] w fun e w' => e = .returned (.bool true) ∧ Below w.heap.size w w' := by
  have hn63 := hx.2.1
  have HX := hid hx
  have HT := hid hT
  clear hT
  have hn63' := hy.2.1
  clear hx hy hnc'
  by_cases hn : n ≤ 1048576
  case neg =>
    have h1 : (1048576 : Int) < (n : Int) := by omega
    go_enter Tryd.func5, Tryd.ntmps5
    go_wp2_with fail
    go_ret
    exact ⟨rfl, Below.refl _ _⟩
  case pos =>
  have h1 : ¬ (1048576 : Int) < (n : Int) := by omega
  by_cases hn' : n' ≤ 1048576
  case neg =>
    have h2 : (1048576 : Int) < (n' : Int) := by omega
    go_enter Tryd.func5, Tryd.ntmps5
    go_wp2_with fail
    go_ret
    exact ⟨rfl, Below.refl _ _⟩
  case pos =>
  have h2 : ¬ (1048576 : Int) < (n' : Int) := by omega
  go_enter Tryd.func5, Tryd.ntmps5
  go_wp2_with fail
  refine (DrawOutlineTouches_any A n c l w hnc HX.out).mono ?_
  rintro e w1 ⟨B, d, o, rfl, hod, ho, hrd, hb1⟩
  have RO1 := hid hrd
  have B1 := hid hb1
  have T1 := hid (HT.out.bl hb1)
  clear hrd hb1
  go_wp2_with fail
  refine (implOutlineTouches_any _ _ _ _ _ _ RO1.out T1.out).mono ?_
  rintro e w2 ⟨rfl, hb2⟩
  have RO2 := hid (RO1.out.bl hb2)
  have B2 := hid (btr B1.out hb2)
  have T2 := hid (T1.out.bl hb2)
  clear hb2
  go_wp2_with fail
  refine (specOutlineTouches_any _ _ _ _ _ _ RO2.out).mono ?_
  rintro e w3 ⟨rfl, hb3⟩
  have RO3 := hid (RO2.out.bl hb3)
  have B3 := hid (btr B2.out hb3)
  have T3 := hid (T2.out.bl hb3)
  clear hb3
  by_cases hok : outOk o = true
  case neg =>
    have hok' : outOk o = false := by simpa using hok
    clear hok
    have e1 : touOf o = -1 := by simp [touOf, hok']
    rw [e1]
    go_wp2_with fail
    go_ret
    exact ⟨rfl, B3.out⟩
  case pos =>
  obtain ⟨K, hK⟩ : ∃ K, n' % (o.length + 1) = K := ⟨_, rfl⟩
  have hk1 : (n' : Int) % ((o.length : Int) + 1) = (K : Int) := by rw [← hK, Int.natCast_emod]; rfl
  have hk2 : Int.tmod (n' : Int) ((o.length : Int) + 1) = (K : Int) := by rw [Int.tmod_eq_emod_of_nonneg (by omega)]; exact hk1
  have hkl : K ≤ o.length := by have := Nat.mod_lt n' (show 0 < o.length + 1 by omega); omega
  have hki : (K : Int) ≤ (o.length : Int) := by omega
  have hkd : (K : Int) ≤ (d : Int) := by omega
  have tl := tou_len hok
  have tk := tou_take hok K
  have t0 : 0 ≤ touOf o := by simp only [touOf, hok, if_true]; exact (touL_bd _ _).1
  have tf := fun h2 => tou_few hok h2
  obtain ⟨T, hTT⟩ : ∃ z, touOf o = z := ⟨_, rfl⟩
  obtain ⟨T', hTT'⟩ : ∃ z, touOf (o.take K) = z := ⟨_, rfl⟩
  obtain ⟨N, hN⟩ : ∃ z, lenOf o = z := ⟨_, rfl⟩
  rw [hTT] at tl tk t0 tf
  rw [hTT'] at tk
  rw [hN] at tl
  rw [hTT]
  have HOK := hid hok
  have HN := hid hN
  have HT' := hid hTT'
  have HTF := hid tf
  clear hK tf hTT hTT' hN hok
  have hor : 2 < o.length ∨ (¬ 2 < o.length ∧ T = 0) := by
    by_cases h : 2 < o.length
    · exact .inl h
    · exact .inr ⟨h, HTF.out (by omega)⟩
  rcases hor with h2 | h2
  · have h2i : (2 : Int) < (o.length : Int) := by omega
    go_wp2_with fail
    refine (implOutlineLength_any _ _ _ _ _ _ RO3.out).mono ?_
    rintro e w4 ⟨rfl, hb4⟩
    have RO4 := hid (RO3.out.bl hb4)
    have B4 := hid (btr B3.out hb4)
    have T4 := hid (T3.out.bl hb4)
    clear hb4
    rw [HN.out]
    go_wp2_with fail
    have hT6 := hid (RO4.out.sub (i := 0) (j := K) (Nat.zero_le _) hkl (some ⟨B, 0, none⟩) (fun b off h _ => by injection h with h; injection h with h1 h2 _; rw [← h1, ← h2]; rfl))
    rw [Nat.sub_zero, List.drop_zero] at hT6
    refine (implOutlineTouches_any _ _ _ _ _ _ hT6.out T4.out).mono ?_
    rintro e w5 ⟨rfl, hb5⟩
    have RO5 := hid (RO4.out.bl hb5)
    have B5 := hid (btr B4.out hb5)
    have T5 := hid (T4.out.bl hb5)
    clear hb5
    rw [HT'.out]
    go_wp2_with fail
    all_goals
      go_ret
      exact ⟨rfl, B5.out⟩
  · obtain ⟨h3, h2⟩ := h2
    have h2i : ¬ (2 : Int) < (o.length : Int) := by omega
    subst h2
    go_wp2_with fail
    refine (implOutlineLength_any _ _ _ _ _ _ RO3.out).mono ?_
    rintro e w4 ⟨rfl, hb4⟩
    have RO4 := hid (RO3.out.bl hb4)
    have B4 := hid (btr B3.out hb4)
    have T4 := hid (T3.out.bl hb4)
    clear hb4
    rw [HN.out]
    go_wp2_with fail
    have hT6 := hid (RO4.out.sub (i := 0) (j := K) (Nat.zero_le _) hkl (some ⟨B, 0, none⟩) (fun b off h _ => by injection h with h; injection h with h1 h2 _; rw [← h1, ← h2]; rfl))
    rw [Nat.sub_zero, List.drop_zero] at hT6
    refine (implOutlineTouches_any _ _ _ _ _ _ hT6.out T4.out).mono ?_
    rintro e w5 ⟨rfl, hb5⟩
    have RO5 := hid (RO4.out.bl hb5)
    have B5 := hid (btr B4.out hb5)
    have T5 := hid (T4.out.bl hb5)
    clear hb5
    rw [HT'.out]
    go_wp2_with fail
    all_goals
      go_ret
      exact ⟨rfl, B5.out⟩
end Go.Proofs.YtigemahbopligaaDoor
