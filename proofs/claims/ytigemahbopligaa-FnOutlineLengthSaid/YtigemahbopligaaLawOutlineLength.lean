/- The law FnOutlineLength returns true for all arguments that can be read. -/
import Derived.Test.YtigemahbopligaaDrawsOut
import Derived.Test.YtigemahbopligaaTurnsYes
import Derived.Test.YtigemahbopligaaOutLaws
namespace Go.Proofs.Ytigemahbopligaa
open Go.RowKit
set_option maxRecDepth 100000 in
set_option maxHeartbeats 2000000 in
theorem lawOutlineLength (A : Option Addr) (n c : Nat) (l : List UInt8) (A' : Option Addr) (n' c' : Nat) (l' : List UInt8) (w : World) (hnc : n ≤ c) (hx : Rd byteS 0 w.heap.size w A n l) (hnc' : n' ≤ c') (hy : Rd byteS 0 w.heap.size w A' n' l') :
    Calls Try.prog 5 #[.slice A n c, .slice A' n' c'] w fun e w' => e = .returned (.bool true) ∧ Below w.heap.size w w' := by
  have hn63 := hx.2.1
  have HX := hid hx
  have hn63' := hy.2.1
  clear hx hy hnc'
  by_cases hn : n ≤ 1048576
  case neg =>
    have h1 : (1048576 : Int) < (n : Int) := by omega
    go_enter Try.func5, Try.ntmps5
    go_wp2_with fail
    go_ret
    exact ⟨rfl, Below.refl _ _⟩
  case pos =>
  have h1 : ¬ (1048576 : Int) < (n : Int) := by omega
  by_cases hn' : n' ≤ 1048576
  case neg =>
    have h2 : (1048576 : Int) < (n' : Int) := by omega
    go_enter Try.func5, Try.ntmps5
    go_wp2_with fail
    go_ret
    exact ⟨rfl, Below.refl _ _⟩
  case pos =>
  have h2 : ¬ (1048576 : Int) < (n' : Int) := by omega
  go_enter Try.func5, Try.ntmps5
  go_wp2_with fail
  refine (DrawOutlineLength_any A n c l w hnc HX.out).mono ?_
  rintro e w1 ⟨B, d, o, rfl, hod, ho, hrd, hb1⟩
  have RO1 := hid hrd
  have B1 := hid hb1
  clear hrd hb1
  go_wp2_with fail
  refine (implOutlineLength_any _ _ _ _ _ _ RO1.out).mono ?_
  rintro e w2 ⟨rfl, hb2⟩
  have RO2 := hid (RO1.out.bl hb2)
  have B2 := hid (btr B1.out hb2)
  clear hb2
  go_wp2_with fail
  refine (specOutlineLength_any _ _ _ _ _ _ RO2.out).mono ?_
  rintro e w3 ⟨rfl, hb3⟩
  have RO3 := hid (RO2.out.bl hb3)
  have B3 := hid (btr B2.out hb3)
  clear hb3
  by_cases hok : outOk o = true
  case neg =>
    have hok' : outOk o = false := by simpa using hok
    clear hok
    have e1 : lenOf o = -1 := by simp [lenOf, hok']
    rw [e1]
    go_wp2_with fail
    go_ret
    exact ⟨rfl, B3.out⟩
  case pos =>
  obtain ⟨K, hK⟩ : ∃ K, n' % (o.length + 1) = K := ⟨_, rfl⟩
  have hk1 : (n' : Int) % ((o.length : Int) + 1) = (K : Int) := by rw [← hK, Int.natCast_emod]; rfl
  have hk2 : Int.tmod (n' : Int) ((o.length : Int) + 1) = (K : Int) := by rw [Int.tmod_eq_emod_of_nonneg (by omega)]; exact hk1
  have hkl : K ≤ o.length := by have := Nat.mod_lt n' (show 0 < o.length + 1 by omega); omega
  have hki : (K : Int) ≤ (o.length : Int) := by omega
  have hkd : (K : Int) ≤ (d : Int) := by omega
  obtain ⟨K8, hK8⟩ : ∃ K, n' % 8 = K := ⟨_, rfl⟩
  have hk81 : (n' : Int) % 8 = (K8 : Int) := by omega
  have hk82 : Int.tmod (n' : Int) 8 = (K8 : Int) := by rw [Int.tmod_eq_emod_of_nonneg (by omega)]; exact hk81
  have hk87 : K8 ≤ 7 := by omega
  have lc := len_cut hok K
  have lt := len_chg (m := (K8 : Int)) (.inl rfl : unit8 1) hok
  have lm := len_chg (m := 0) (.inr rfl : unit8 7) hok
  have lk : lenOf (o.map (chg 1 4)).reverse = lenOf o := (len_reverse _).trans (len_chg (.inl rfl) hok)
  have l0 : 0 ≤ lenOf o ∧ lenOf o ≤ 100 := by
    have := sumSz_bd (linked_ok (outOk_yes hok).1)
    have := (outOk_yes hok).2
    simp only [lenOf, hok, if_true]; omega
  obtain ⟨l0, l1⟩ := l0
  have l2 : 0 ≤ lenOf (o.take K) ∧ 0 ≤ lenOf (o.drop K) := by
    have := sumSz_bd (linked_ok (outOk_yes (outOk_take hok K)).1)
    have := sumSz_bd (linked_ok (outOk_yes (outOk_drop hok K)).1)
    simp only [lenOf, outOk_take hok K, outOk_drop hok K, if_true]; omega
  obtain ⟨l2, l3⟩ := l2
  obtain ⟨N, hN⟩ : ∃ z, lenOf o = z := ⟨_, rfl⟩
  obtain ⟨N1, hN1⟩ : ∃ z, lenOf (o.take K) = z := ⟨_, rfl⟩
  obtain ⟨N2, hN2⟩ : ∃ z, lenOf (o.drop K) = z := ⟨_, rfl⟩
  rw [hN] at lc lt lm lk l0 l1
  rw [hN1] at l2 lc
  rw [hN2] at l3 lc
  rw [hN]
  have HOK := hid hok
  have HL := hid (And.intro lt (And.intro lm lk))
  have HN := hid (And.intro hN1 hN2)
  have HLC := hid lc
  have lc1 : N1 ≤ 100 := by omega
  have lc2 : N2 ≤ 100 := by omega
  clear hK hK8 lc lt lm lk hN hN1 hN2 hok
  go_wp2_with fail
  refine (turn_yes _ _ _ _ _ _ _ RO3.out HOK.out ⟨by omega, by omega⟩).mono ?_
  rintro e w4 ⟨RAB, RAd, rfl, RAhd, hrd, hb4⟩
  rw [List.length_map] at RAhd hrd
  have RA4 := hid hrd
  have RO4 := hid (RO3.out.bl hb4)
  have B4 := hid (btr B3.out hb4)
  clear hb4
  clear hrd
  go_wp2_with fail
  refine (mirror_yes _ _ _ _ _ _ RO4.out HOK.out).mono ?_
  rintro e w5 ⟨RMB, RMd, rfl, RMhd, hrd, hb5⟩
  rw [List.length_map] at RMhd hrd
  have RM5 := hid hrd
  have RO5 := hid (RO4.out.bl hb5)
  have RA5 := hid (RA4.out.bl hb5)
  have B5 := hid (btr B4.out hb5)
  clear hb5
  clear hrd
  go_wp2_with fail
  refine (back_yes _ _ _ _ _ _ RO5.out HOK.out).mono ?_
  rintro e w6 ⟨RKB, RKd, rfl, RKhd, hrd, hb6⟩
  rw [List.length_reverse, List.length_map] at RKhd hrd
  have RK6 := hid hrd
  have RO6 := hid (RO5.out.bl hb6)
  have RA6 := hid (RA5.out.bl hb6)
  have RM6 := hid (RM5.out.bl hb6)
  have B6 := hid (btr B5.out hb6)
  clear hb6
  clear hrd
  go_wp2_with fail
  have hb := Below.refl w6.heap.size w6
  have cA := fun p : Aft w6.heap.size w6 => aft_call ((implOutlineLength_any _ _ RAd _ _ _ (RA6.out.bl p.prop)).mono fun e w' h => (⟨by rw [h.1, HL.out.1], h.2⟩ : e = .returned (.int .i64 N) ∧ Below p.val.heap.size p.val w')) (Nat.le_refl _)
  have cM := fun p : Aft w6.heap.size w6 => aft_call ((implOutlineLength_any _ _ RMd _ _ _ (RM6.out.bl p.prop)).mono fun e w' h => (⟨by rw [h.1, HL.out.2.1], h.2⟩ : e = .returned (.int .i64 N) ∧ Below p.val.heap.size p.val w')) (Nat.le_refl _)
  have cK := fun p : Aft w6.heap.size w6 => aft_call ((implOutlineLength_any _ _ RKd _ _ _ (RK6.out.bl p.prop)).mono fun e w' h => (⟨by rw [h.1, HL.out.2.2], h.2⟩ : e = .returned (.int .i64 N) ∧ Below p.val.heap.size p.val w')) (Nat.le_refl _)
  have CA := hid cA
  have CM := hid cM
  have CK := hid cK
  have hT6 := hid (RO6.out.sub (i := 0) (j := K) (Nat.zero_le _) hkl (some ⟨B, 0, none⟩) (fun b off h _ => by injection h with h; injection h with h1 h2 _; rw [← h1, ← h2]; rfl))
  rw [Nat.sub_zero, List.drop_zero] at hT6
  have cT := fun p : Aft w6.heap.size w6 => aft_call ((implOutlineLength_any _ _ d _ _ _ (hT6.out.bl p.prop)).mono fun e w' h => (⟨by rw [h.1, HN.out.1], h.2⟩ : e = .returned (.int .i64 N1) ∧ Below p.val.heap.size p.val w')) (Nat.le_refl _)
  have CT := hid cT
  have hD6 := hid (RO6.out.sub (i := K) (j := o.length) hkl (Nat.le_refl _) (if d = K then some ⟨B, 0, none⟩ else some ⟨B, K * 2, none⟩) (fun b off h hlt => by rw [if_neg (by omega)]; injection h with h; injection h with h1 h2 _; rw [← h1, ← h2, Nat.zero_add]; rfl))
  rw [List.take_length] at hD6
  have cD := fun p : Aft w6.heap.size w6 => aft_call ((implOutlineLength_any _ _ (d - K) _ _ _ (hD6.out.bl p.prop)).mono fun e w' h => (⟨by rw [h.1, HN.out.2], h.2⟩ : e = .returned (.int .i64 N2) ∧ Below p.val.heap.size p.val w')) (Nat.le_refl _)
  have CD := hid cD
  clear cA cM cK cT hT6 cD hD6
  have lcs : N1 + N2 = N := HLC.out
  have lcb : (N1 + N2 == N) = true := by simpa using lcs
  have lcw : IntKind.i64.wrap (N1 + N2) = N1 + N2 := IntWalk.i64_in _ (by omega)
  clear lcs
  refine wp_region_aft hb (by kernel_rfl) (by kernel_rfl) ?_
  repeat (go_big_quiet_step (fail))
  go_big_quiet_step ((go_at_call 20; exact CA.out _))
  repeat (go_big_quiet_step (fail))
  go_big_quiet_step ((go_at_call 20; exact CM.out _))
  repeat (go_big_quiet_step (fail))
  go_big_quiet_step ((go_at_call 20; exact CK.out _))
  repeat (go_big_quiet_step (fail))
  go_big_quiet_step ((go_at_call 20; exact CT.out _))
  repeat (go_big_quiet_step (fail))
  go_big_quiet_step ((go_at_call 20; exact CD.out _))
  repeat (go_big_quiet_step (fail))
  refine wpQuiet_nil ?_
  rintro _ ⟨⟨w7, hb7⟩, rfl⟩
  have B7 := hid (btr B6.out hb7)
  clear hb7 hb
  go_wp2_with fail
  all_goals
    go_ret
    exact ⟨rfl, B7.out⟩
end Go.Proofs.Ytigemahbopligaa
