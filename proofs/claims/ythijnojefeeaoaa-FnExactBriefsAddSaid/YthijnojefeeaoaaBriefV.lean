/- Valid briefs: what the program's and the reference's BriefsValid return. -/
import Derived.Test.YthijnojefeeaoaaBriefW
import Derived.Deep.LoopGhost
namespace Go.Proofs.Ythijnojefeeaoaa
open Go.RowKit
attribute [local go_sem] Oper.semAt_some
set_option maxHeartbeats 400000 in
theorem l4Same_any (A A' : Option Addr) (n n' c c' lo lo' : Nat) (xs ys : List ByteArray) (w : World) (hx : Rd strS lo w.heap.size w A n xs) (hy : Rd strS lo' w.heap.size w A' n' ys) :
    Calls Try.prog 89 #[.slice A n c, .slice A' n' c'] w fun e w' => e = .returned (.bool (eqD xs ys)) ∧ Below w.heap.size w w' := by
  obtain ⟨e1, e2, e3⟩ := hx
  have E1 := hid e1; clear e1
  have E3 := hid e3; clear e3
  obtain ⟨f1, f2, f3⟩ := hy
  have F1 := hid f1; clear f1
  have F3 := hid f3; clear f3
  by_cases hne : n = n'
  · have h1 : ((n : Int) != (n' : Int)) = false := by simp [hne]
    have HE := hid hne; clear hne
    go_enter Try.func89, Try.ntmps89
    go_wp2_with fail
    go_loopg [5] n (fun gk i wr => ∃ k : Nat, k + gk = n ∧ i = .int .i64 k ∧ eqD xs ys = eqD (xs.drop k) (ys.drop k) ∧ Below w.heap.size w wr)
    case atStart => exact ⟨0, Nat.zero_add _, rfl, by simp, Below.refl _ _⟩
    case round =>
      obtain ⟨k, hkg, rfl, htk, hb⟩ := hrel
      have HKG := hid hkg
      have HT := hid htk
      have hk : k ≤ n := by omega
      clear htk hkg
      by_cases hlt : k < n
      · have hlt' : k < n' := by have := HE.out; omega
        obtain ⟨b, off, rfl, _, hbb, hcx⟩ := E3.out (by omega)
        obtain ⟨b', off', rfl, _, hbb', hcy⟩ := F3.out (by omega)
        have hki : (k : Int) < (n : Int) := by omega
        have hki' : (k : Int) < (n' : Int) := by omega
        have cx := aft_cell hbb (hcx.str hlt).1
        have cy := aft_cell hbb' (hcy.str hlt').1
        have hD := hid (And.intro (drop_gt (l := xs) (by rw [← E1.out]; exact hlt)) (drop_gt (l := ys) (by rw [← F1.out]; exact hlt')))
        clear hcx hcy
        go_wp2_with fail
        refine wp_region_aft hb (by kernel_rfl) (by kernel_rfl) ?_
        repeat (go_big_quiet_step (fail))
        refine wpQuiet_nil ?_
        rintro _ ⟨⟨w2, hb2⟩, rfl⟩
        clear cx cy hb
        by_cases hxy : gt xs k = gt ys k
        · have hxy' : (!((gt xs k).toList == (gt ys k).toList)) = false := by rw [hxy, str_eq]; rfl
          have HXY := hid hxy; clear hxy
          rw [hxy']
          clear hxy'
          go_wp2_with fail
          go_roundg (gk - 1)
          case measure => have := HKG.out; omega
          case rel => exact ⟨k + 1, by have := HKG.out; omega, by go_num, by rw [HT.out, hD.out.1, hD.out.2, HXY.out, eqD_cons, eqD_self, Bool.true_and], hb2⟩
        · have hxy' : (!((gt xs k).toList == (gt ys k).toList)) = true := by rw [str_ne hxy]; rfl
          have HXY := hid hxy; clear hxy
          rw [hxy']
          clear hxy'
          go_wp2_with fail
          go_ret
          exact ⟨ret_bool (by rw [HT.out, hD.out.1, hD.out.2, eqD_cons, eqD_no HXY.out, Bool.false_and]), hb2⟩
      · obtain rfl : k = n := by omega
        go_wp2_with fail
        go_ret
        exact ⟨ret_bool (by rw [HT.out, List.drop_eq_nil_of_le (by rw [E1.out]; omega), List.drop_eq_nil_of_le (by rw [← F1.out, ← HE.out]; omega)]; rfl), hb⟩
  · have h1 : ((n : Int) != (n' : Int)) = true := by simp; omega
    have hxy : xs ≠ ys := fun h => hne (by rw [E1.out, F1.out, h])
    have HN := hid hne; clear hne
    have HXY := hid hxy; clear hxy
    go_enter Try.func89, Try.ntmps89
    go_wp2_with fail
    go_ret
    exact ⟨ret_bool (by rw [eqD_no HXY.out]), Below.refl _ _⟩
set_option maxHeartbeats 400000 in
theorem sameTexts_any (A A' : Option Addr) (n n' c c' lo lo' : Nat) (xs ys : List ByteArray) (w : World) (hx : Rd strS lo w.heap.size w A n xs) (hy : Rd strS lo' w.heap.size w A' n' ys) :
    Calls Try.prog 46 #[.slice A n c, .slice A' n' c'] w fun e w' => e = .returned (.bool (eqD xs ys)) ∧ Below w.heap.size w w' := by
  obtain ⟨e1, e2, e3⟩ := hx
  have E1 := hid e1; clear e1
  have E3 := hid e3; clear e3
  obtain ⟨f1, f2, f3⟩ := hy
  have F1 := hid f1; clear f1
  have F3 := hid f3; clear f3
  by_cases hne : n = n'
  · have h1 : ((n : Int) != (n' : Int)) = false := by simp [hne]
    have HE := hid hne; clear hne
    go_enter Try.func46, Try.ntmps46
    go_wp2_with fail
    go_loopg [5] n (fun gk i wr => ∃ k : Nat, k + gk = n ∧ i = .int .i64 k ∧ eqD xs ys = eqD (xs.drop k) (ys.drop k) ∧ Below w.heap.size w wr)
    case atStart => exact ⟨0, Nat.zero_add _, rfl, by simp, Below.refl _ _⟩
    case round =>
      obtain ⟨k, hkg, rfl, htk, hb⟩ := hrel
      have HKG := hid hkg
      have HT := hid htk
      have hk : k ≤ n := by omega
      clear htk hkg
      by_cases hlt : k < n
      · have hlt' : k < n' := by have := HE.out; omega
        obtain ⟨b, off, rfl, _, hbb, hcx⟩ := E3.out (by omega)
        obtain ⟨b', off', rfl, _, hbb', hcy⟩ := F3.out (by omega)
        have hki : (k : Int) < (n : Int) := by omega
        have hki' : (k : Int) < (n' : Int) := by omega
        have cx := aft_cell hbb (hcx.str hlt).1
        have cy := aft_cell hbb' (hcy.str hlt').1
        have hD := hid (And.intro (drop_gt (l := xs) (by rw [← E1.out]; exact hlt)) (drop_gt (l := ys) (by rw [← F1.out]; exact hlt')))
        clear hcx hcy
        go_wp2_with fail
        refine wp_region_aft hb (by kernel_rfl) (by kernel_rfl) ?_
        repeat (go_big_quiet_step (fail))
        refine wpQuiet_nil ?_
        rintro _ ⟨⟨w2, hb2⟩, rfl⟩
        clear cx cy hb
        by_cases hxy : gt xs k = gt ys k
        · have hxy' : (!((gt xs k).toList == (gt ys k).toList)) = false := by rw [hxy, str_eq]; rfl
          have HXY := hid hxy; clear hxy
          rw [hxy']
          clear hxy'
          go_wp2_with fail
          go_roundg (gk - 1)
          case measure => have := HKG.out; omega
          case rel => exact ⟨k + 1, by have := HKG.out; omega, by go_num, by rw [HT.out, hD.out.1, hD.out.2, HXY.out, eqD_cons, eqD_self, Bool.true_and], hb2⟩
        · have hxy' : (!((gt xs k).toList == (gt ys k).toList)) = true := by rw [str_ne hxy]; rfl
          have HXY := hid hxy; clear hxy
          rw [hxy']
          clear hxy'
          go_wp2_with fail
          go_ret
          exact ⟨ret_bool (by rw [HT.out, hD.out.1, hD.out.2, eqD_cons, eqD_no HXY.out, Bool.false_and]), hb2⟩
      · obtain rfl : k = n := by omega
        go_wp2_with fail
        go_ret
        exact ⟨ret_bool (by rw [HT.out, List.drop_eq_nil_of_le (by rw [E1.out]; omega), List.drop_eq_nil_of_le (by rw [← F1.out, ← HE.out]; omega)]; rfl), hb⟩
  · have h1 : ((n : Int) != (n' : Int)) = true := by simp; omega
    have hxy : xs ≠ ys := fun h => hne (by rw [E1.out, F1.out, h])
    have HN := hid hne; clear hne
    have HXY := hid hxy; clear hxy
    go_enter Try.func46, Try.ntmps46
    go_wp2_with fail
    go_ret
    exact ⟨ret_bool (by rw [eqD_no HXY.out]), Below.refl _ _⟩
set_option maxHeartbeats 1000000 in
theorem equalStrs_any (A A' : Option Addr) (n n' c c' lo lo' : Nat) (xs ys : List ByteArray) (w : World) (hx : Rd strS lo w.heap.size w A n xs) (hy : Rd strS lo' w.heap.size w A' n' ys) :
    Calls Try.prog 92 #[.slice A n c, .slice A' n' c'] w fun e w' => e = .returned (.bool (eqD xs ys)) ∧ Below w.heap.size w w' := by
  obtain ⟨e1, e2, e3⟩ := hx
  have E1 := hid e1; clear e1
  have E3 := hid e3; clear e3
  obtain ⟨f1, f2, f3⟩ := hy
  have F1 := hid f1; clear f1
  have F3 := hid f3; clear f3
  by_cases hne : n = n'
  · have h1 : ((n : Int) != (n' : Int)) = false := by simp [hne]
    have HE := hid hne; clear hne
    go_enter Try.func92, Try.ntmps92
    go_wp2_with fail
    go_loopg [13] n (fun gk i wr => ∃ k : Nat, k + gk = n ∧ i = .int .i64 k ∧ eqD xs ys = eqD (xs.drop k) (ys.drop k) ∧ Below w.heap.size w wr)
    case atStart => exact ⟨0, Nat.zero_add _, rfl, by simp, Below.refl _ _⟩
    case round =>
      obtain ⟨k, hkg, rfl, htk, hb⟩ := hrel
      have HKG := hid hkg
      have HT := hid htk
      have hk : k ≤ n := by omega
      clear htk hkg
      by_cases hlt : k < n
      · have hlt' : k < n' := by have := HE.out; omega
        obtain ⟨b, off, rfl, _, hbb, hcx⟩ := E3.out (by omega)
        obtain ⟨b', off', rfl, _, hbb', hcy⟩ := F3.out (by omega)
        have hki : (k : Int) < (n : Int) := by omega
        have hki' : (k : Int) < (n' : Int) := by omega
        have cx := aft_cell hbb (hcx.str hlt).1
        have cy := aft_cell hbb' (hcy.str hlt').1
        have hD := hid (And.intro (drop_gt (l := xs) (by rw [← E1.out]; exact hlt)) (drop_gt (l := ys) (by rw [← F1.out]; exact hlt')))
        clear hcx hcy
        go_wp2_with fail
        refine wp_region_aft hb (by kernel_rfl) (by kernel_rfl) ?_
        repeat (go_big_quiet_step (fail))
        refine wpQuiet_nil ?_
        rintro _ ⟨⟨w2, hb2⟩, rfl⟩
        clear cx cy hb
        by_cases hxy : gt xs k = gt ys k
        · have hxy' : (!((gt xs k).toList == (gt ys k).toList)) = false := by rw [hxy, str_eq]; rfl
          have HXY := hid hxy; clear hxy
          rw [hxy']
          clear hxy'
          go_wp2_with fail
          go_roundg (gk - 1)
          case measure => have := HKG.out; omega
          case rel => exact ⟨k + 1, by have := HKG.out; omega, by go_num, by rw [HT.out, hD.out.1, hD.out.2, HXY.out, eqD_cons, eqD_self, Bool.true_and], hb2⟩
        · have hxy' : (!((gt xs k).toList == (gt ys k).toList)) = true := by rw [str_ne hxy]; rfl
          have HXY := hid hxy; clear hxy
          rw [hxy']
          clear hxy'
          go_wp2_with fail
          go_ret
          exact ⟨ret_bool (by rw [HT.out, hD.out.1, hD.out.2, eqD_cons, eqD_no HXY.out, Bool.false_and]), hb2⟩
      · obtain rfl : k = n := by omega
        go_wp2_with fail
        go_ret
        exact ⟨ret_bool (by rw [HT.out, List.drop_eq_nil_of_le (by rw [E1.out]; omega), List.drop_eq_nil_of_le (by rw [← F1.out, ← HE.out]; omega)]; rfl), hb⟩
  · have h1 : ((n : Int) != (n' : Int)) = true := by simp; omega
    have hxy : xs ≠ ys := fun h => hne (by rw [E1.out, F1.out, h])
    have HN := hid hne; clear hne
    have HXY := hid hxy; clear hxy
    go_enter Try.func92, Try.ntmps92
    go_wp2_with fail
    go_ret
    exact ⟨ret_bool (by rw [eqD_no HXY.out]), Below.refl _ _⟩
set_option maxRecDepth 100000 in
set_option maxHeartbeats 1000000 in
theorem briefValid_any (A : Option Addr) (n c lo : Nat) (s : ByteArray) (xs : List ByteArray) (w : World) (hs : s.size ≤ 9223372036854775807) (hx : Rd strS lo w.heap.size w A n xs) :
    Calls Try.prog 93 #[.agg #[.string s, .slice A n c]] w fun e w' => e = .returned (.bool (briefOk (s, xs))) ∧ Below w.heap.size w w' := by
  have E1 := hid hx.1
  have hn63 := hx.2.1
  have HX := hid (fun o => hx.bl (bnew w o)); clear hx
  have HB := hid (bnew w); 
  by_cases hin : inB s.size 1 3 = true
  case neg =>
    have HH := hid (show briefOk (s, xs) = false by unfold briefOk markOk; simp only [Bool.not_eq_true] at hin; rw [hin]; rfl)
    have hin2 : ¬ ((1 : Int) ≤ s.size ∧ (s.size : Int) ≤ 3) := fun h => hin (inB_yes.2 h)
    clear hin
    by_cases h1 : (s.size : Int) < 1
    · clear hin2
      go_enter Try.func93, Try.ntmps93
      go_wp2_with fail
      go_ret
      exact ⟨ret_bool HH.out.symm, HB.out _⟩
    · have h2 : (3 : Int) < (s.size : Int) := by omega
      clear hin2
      go_enter Try.func93, Try.ntmps93
      go_wp2_with fail
      go_ret
      exact ⟨ret_bool HH.out.symm, HB.out _⟩
  case pos =>
  obtain ⟨hi1, hi2⟩ := inB_yes.1 hin
  by_cases hin3 : inB n 1 3 = true
  case neg =>
    have HH := hid (show briefOk (s, xs) = false by unfold briefOk; simp only [Bool.not_eq_true] at hin3; rw [← E1.out, hin3, Bool.false_and, Bool.and_false])
    have hin2 : ¬ ((1 : Int) ≤ n ∧ (n : Int) ≤ 3) := fun h => hin3 (inB_yes.2 h)
    clear hin hin3
    by_cases h1 : (n : Int) < 1
    · clear hin2
      go_enter Try.func93, Try.ntmps93
      go_wp2_with fail
      go_ret
      exact ⟨ret_bool HH.out.symm, HB.out _⟩
    · have h2 : (3 : Int) < (n : Int) := by omega
      clear hin2
      go_enter Try.func93, Try.ntmps93
      go_wp2_with fail
      go_ret
      exact ⟨ret_bool HH.out.symm, HB.out _⟩
  case pos =>
    obtain ⟨hi3, hi4⟩ := inB_yes.1 hin3
    have HH := hid (show briefOk (s, xs) = (bytesIn 65 90 s.data.toList && speechOk xs) by unfold briefOk markOk speechOk; rw [← E1.out, hin, hin3, decide_eq_true (by omega)]; rfl)
    clear hin hin3
    have hc0 := heap_alloc_new w (.cells #[.string s, .slice A n c] 31)
    obtain ⟨x0, x1, x2, x3⟩ := at_get hc0
    clear hc0 x2 x3
    go_enter Try.func93, Try.ntmps93
    go_wp2_with fail
    clear x0 x1
    go_loop [3, 29] (fun _ i => ∃ k : Nat, k ≤ s.size ∧ i = .int .i64 k ∧ bytesIn 65 90 s.data.toList = bytesIn 65 90 (s.data.toList.drop k)) (fun _ i => s.size - (intOf i).toNat)
    case atStart => exact ⟨0, Nat.zero_le _, rfl, rfl⟩
    case round =>
      obtain ⟨k, hk, rfl, hr⟩ := hrel
      have HR := hid hr; clear hr
      by_cases hlt : k < s.size
      · have HD := hid (drop_gt (l := s.data.toList) (by rw [← size_len]; exact hlt))
        by_cases h1 : ((s[k]'hlt).toNat : Int) < 65
        · go_wp2_with fail
          go_ret
          exact ⟨ret_bool (by rw [HH.out, HR.out, HD.out, bytes_no (by rw [gt_byte hlt]; omega), Bool.false_and]), HB.out _⟩
        · by_cases h2 : (90 : Int) < ((s[k]'hlt).toNat : Int)
          · go_wp2_with fail
            go_ret
            exact ⟨ret_bool (by rw [HH.out, HR.out, HD.out, bytes_no (by rw [gt_byte hlt]; omega), Bool.false_and]), HB.out _⟩
          · have HG := hid (And.intro h1 h2)
            go_wp2_with fail
            go_round
            case rel => exact ⟨k + 1, by omega, by go_num, by rw [HR.out, HD.out, bytes_yes (by have := HG.out.1; rw [gt_byte hlt]; omega) (by have := HG.out.2; rw [gt_byte hlt]; omega)]⟩
            case measure => simp [intOf]; omega
      · obtain rfl : k = s.size := by omega
        go_wp2_with (go_at_call 50; refine (implSpeechValid_any _ _ _ _ _ _ (HX.out _)).mono ?_; rintro e w' ⟨rfl, rfl⟩)
        go_ret
        exact ⟨ret_bool (by rw [HH.out, HR.out, size_len, List.drop_length]; rfl), HB.out _⟩
end Go.Proofs.Ythijnojefeeaoaa
