/- Dictionaries: what the program's DictionaryValid returns. -/
import Derived.Test.YtigemahbopligaaWords3
import Derived.Test.YtigemahbopligaaDigits
import Derived.Deep.LoopGhost
namespace Go.Proofs.Ytigemahbopligaa
open Go.RowKit
attribute [local go_sem] Oper.semAt_some
theorem eqD_comm (a b : ByteArray) : eqD a b = eqD b a := by
  by_cases h : a = b
  · rw [h]
  · rw [eqD_no h, eqD_no (fun e => h e.symm)]
set_option maxHeartbeats 400000 in
theorem indexStrs_any (A : Option Addr) (n c lo : Nat) (xs : List ByteArray) (s : ByteArray) (w : World) (hx : Rd strS lo w.heap.size w A n xs) :
    Calls Try.prog 101 #[.slice A n c, .string s] w fun e w' => e = .returned (.int .i64 (idxF (fun a => eqD a s) xs 0)) ∧ w = w' := by
  obtain ⟨e1, e2, e3⟩ := hx
  have E1 := hid e1; clear e1
  have E3 := hid e3; clear e3
  go_enter Try.func101, Try.ntmps101
  go_wp2_with fail
  go_loop [5, 8] (fun _ i => ∃ k : Nat, k ≤ n ∧ i = .int .i64 k ∧ idxF (fun a => eqD a s) xs 0 = idxF (fun a => eqD a s) (xs.drop k) k) (fun _ i => n - (intOf i).toNat)
  case atStart => exact ⟨0, Nat.zero_le _, rfl, rfl⟩
  case round =>
    obtain ⟨k, hk, rfl, hr⟩ := hrel
    have HR := hid hr; clear hr
    by_cases hlt : k < n
    · obtain ⟨b, off, rfl, _, hbb, hcx⟩ := E3.out (by omega)
      obtain ⟨cx, _⟩ := hcx.str hlt
      have hd := hid (drop_gt (l := xs) (by rw [← E1.out]; exact hlt))
      clear hcx
      obtain ⟨y, hy⟩ : ∃ y, gt xs k = y := ⟨_, rfl⟩
      rw [hy] at cx hd
      have hki : (k : Int) < (n : Int) := by omega
      clear hy
      obtain ⟨e, he⟩ : ∃ e, eqD y s = e := ⟨_, rfl⟩
      have hcmp : (s.toList == y.toList) = e := by rw [beq_str, eqD_comm, he]
      have HE := hid he
      clear he
      cases e with
      | true =>
        go_wp2_with fail
        go_ret
        exact ⟨ret_int (by rw [HR.out, hd.out, idxF]; simp only [HE.out, if_true]), rfl⟩
      | false =>
        go_wp2_with fail
        go_round
        case rel => exact ⟨k + 1, by omega, by go_num, by rw [HR.out, hd.out, idxF]; simp only [HE.out]; rfl⟩
        case measure => simp [intOf]; omega
    · obtain rfl : k = n := by omega
      go_wp2_with fail
      go_ret
      exact ⟨ret_int (by rw [HR.out, List.drop_eq_nil_of_le (by rw [E1.out]; omega)]; rfl), rfl⟩
set_option maxHeartbeats 400000 in
theorem containsStrs_any (A : Option Addr) (n c lo : Nat) (xs : List ByteArray) (s : ByteArray) (w : World) (hx : Rd strS lo w.heap.size w A n xs) :
    Calls Try.prog 94 #[.slice A n c, .string s] w fun e w' => e = .returned (.bool (xs.any fun a => eqD a s)) ∧ w = w' := by
  have hb := idxF_any (fun a => eqD a s) xs 0 (by omega)
  have HB := hid hb; clear hb
  go_enter Try.func94, Try.ntmps94
  go_wp2_with (go_at_call 101; refine (indexStrs_any _ _ _ _ _ _ _ hx).mono ?_; rintro e w' ⟨rfl, rfl⟩)
  go_ret
  exact ⟨ret_bool HB.out, rfl⟩
set_option maxRecDepth 100000 in
set_option maxHeartbeats 2000000 in
theorem implDictionaryValid_any (A : Option Addr) (n c lo : Nat) (l : List ByteArray) (w : World) (hnc : n ≤ c) (hx : Rd strS lo w.heap.size w A n l) :
    Calls Try.prog 78 #[.slice A n c] w fun e w' => e = .returned (.bool (dictOk l)) ∧ w = w' := by
  have HX := hid hx
  have E1 := hid hx.1
  have h63 := hx.2.1
  clear hx
  by_cases h20 : n ≤ 20
  case neg =>
    have HH := hid (show dictOk l = false by unfold dictOk; rw [decide_eq_false (by rw [← E1.out]; exact h20)]; rfl)
    have hgt : (20 : Int) < (n : Int) := by omega
    go_enter Try.func78, Try.ntmps78
    go_wp2_with fail
    go_ret
    exact ⟨ret_bool HH.out.symm, rfl⟩
  case pos =>
  have hgt : ¬ (20 : Int) < (n : Int) := by omega
  have HH := hid (show dictOk l = dictFrom [] l by unfold dictOk; rw [decide_eq_true (by rw [← E1.out]; exact h20)]; rfl)
  go_enter Try.func78, Try.ntmps78
  go_wp2_with fail
  go_loopg [3, 4, 10] n (fun gk _ _ i wr => ∃ k : Nat, k + gk = n ∧ i = .int .i64 k ∧ dictFrom [] l = dictFrom (l.take k) (l.drop k) ∧ w = wr)
  case atStart => exact ⟨0, Nat.zero_add _, rfl, rfl, rfl⟩
  case round =>
    obtain ⟨k, hkg, rfl, hs, rfl⟩ := hrel
    have HKG := hid hkg
    have HS := hid hs
    have hk : k ≤ n := by omega
    clear hkg hs
    by_cases hlt : k < n
    case neg =>
      obtain rfl : k = n := by omega
      have HF := hid (show dictOk l = true by
        rw [HH.out, HS.out, List.drop_eq_nil_of_le (by rw [E1.out]; omega)]
        rfl)
      go_wp2_with fail
      go_ret
      exact ⟨ret_bool HF.out.symm, rfl⟩
    case pos =>
      have hlti : (k : Int) < (n : Int) := by omega
      have hkl : k < l.length := by rw [← E1.out]; exact hlt
      have HD := hid (dict_drop hkl)
      obtain ⟨b, off, hA, _, hbb, hcx⟩ := HX.out.2.2 (by omega)
      subst hA
      obtain ⟨x0, x1⟩ := hcx.str hlt
      have HSUB := hid (HX.out.sub (i := 0) (j := k) (Nat.zero_le _) hk (some ⟨b, off, none⟩) (fun b' off' e _ => by injection e with e; injection e with e1 e2 _; subst e1 e2; rw [Nat.zero_mul, Nat.add_zero]))
      obtain ⟨s, hs⟩ : ∃ s, gt l k = s := ⟨_, rfl⟩
      rw [hs] at x0 x1 HD
      have hkc : k ≤ c := by omega
      have hkci : (k : Int) ≤ (c : Int) := by omega
      obtain ⟨wo, hwo⟩ : ∃ wo, wordOk s = wo := ⟨_, rfl⟩
      have hWV := fun w1 => implWordValid_any s w1 x1
      rw [hwo] at hWV HD
      have HWV := hid hWV
      clear hcx hs hkl hwo hWV
      cases wo with
      | false =>
        have HF := hid (show dictOk l = false by rw [HH.out, HS.out, HD.out, Bool.false_and, Bool.false_and])
        go_wp2_with fail
        refine (HWV.out _).mono ?_
        rintro e w1 ⟨rfl, rfl⟩
        go_wp2_with fail
        go_ret
        exact ⟨ret_bool HF.out.symm, rfl⟩
      | true =>
        rw [Bool.true_and] at HD
        obtain ⟨t, ht⟩ : ∃ t, ((l.take k).any fun a => eqD a s) = t := ⟨_, rfl⟩
        have hcon := containsStrs_any (some ⟨b, off, none⟩) (k - 0) c lo _ s w HSUB.out
        rw [List.drop_zero, Nat.sub_zero, ht] at hcon
        rw [ht] at HD
        have HCON := hid hcon
        clear ht hcon
        cases t with
        | true =>
          have HF := hid (show dictOk l = false by rw [HH.out, HS.out, HD.out]; rfl)
          go_wp2_with fail
          refine (HWV.out _).mono ?_
          rintro e w1 ⟨rfl, rfl⟩
          go_wp2_with fail
          refine HCON.out.mono ?_
          rintro e w1 ⟨rfl, rfl⟩
          go_wp2_with fail
          go_ret
          exact ⟨ret_bool HF.out.symm, rfl⟩
        | false =>
          go_wp2_with fail
          refine (HWV.out _).mono ?_
          rintro e w1 ⟨rfl, rfl⟩
          go_wp2_with fail
          refine HCON.out.mono ?_
          rintro e w1 ⟨rfl, rfl⟩
          go_wp2_with fail
          go_roundg (gk - 1)
          case measure => have := HKG.out; omega
          case rel => exact ⟨k + 1, by have := HKG.out; omega, by go_num, by rw [HS.out, HD.out]; rfl, rfl⟩
end Go.Proofs.Ytigemahbopligaa
