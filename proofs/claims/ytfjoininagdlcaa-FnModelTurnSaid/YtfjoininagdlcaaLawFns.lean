/- hasInt, ahead: what the helpers of the laws return. -/
import Derived.Test.YtfjoininagdlcaaReadLaws
import Derived.Test.YtfjoininagdlcaaSame
namespace Go.Proofs.Ytfjoininagdlcaa
open Go.RowKit
set_option maxHeartbeats 400000 in
theorem hasInt_any (A : Option Addr) (n c lo : Nat) (l : List Int) (x : Int) (w : World) (hx : Rd intS lo w.heap.size w A n l) :
    Calls Try.prog 35 #[.slice A n c, .int .i64 x] w fun e w' => e = .returned (.bool (hasI l x)) ∧ w = w' := by
  have E1 := hid hx.1
  have E3 := hid hx.2.2
  have h63 := hx.2.1
  clear hx
  go_enter Try.func35, Try.ntmps35
  go_wp2
  go_loopg [5] n (fun gk i wr => ∃ k : Nat, k + gk = n ∧ i = .int .i64 k ∧ hasI l x = hasI (l.drop k) x ∧ w = wr)
  case atStart => exact ⟨0, Nat.zero_add _, rfl, by simp, rfl⟩
  case round =>
    obtain ⟨k, hkg, rfl, hh, rfl⟩ := hrel
    have HKG := hid hkg
    have HH := hid hh
    have hk : k ≤ n := by omega
    clear hkg hh
    by_cases hlt : k < n
    case neg =>
      obtain rfl : k = n := by omega
      have HF := hid (show hasI l x = false by rw [HH.out, List.drop_eq_nil_of_le (by rw [E1.out]; omega)]; rfl)
      go_wp2
      go_ret
      exact ⟨ret_bool HF.out.symm, rfl⟩
    case pos =>
      have hki : (k : Int) < (n : Int) := by omega
      obtain ⟨b, off, rfl, _, hbb, hcx⟩ := E3.out (by omega)
      have cx := hcx.int hlt
      have hs := hid (hasI_drop (l := l) (k := k) (by rw [← E1.out]; exact hlt) x)
      clear hcx
      obtain ⟨y, hy⟩ : ∃ y, gt l k = y := ⟨_, rfl⟩
      rw [hy] at cx
      have HY := hid hy
      clear hy
      by_cases e1 : y = x
      case pos =>
        have HF := hid (show hasI l x = true by rw [HH.out, hs.out, HY.out, e1, eqD_self]; rfl)
        subst e1
        go_wp2
        go_ret
        exact ⟨ret_bool HF.out.symm, rfl⟩
      case neg =>
        have t1 : (y == x) = false := by simpa using e1
        have HF := hid (show hasI l x = hasI (l.drop (k + 1)) x by rw [HH.out, hs.out, HY.out, eqD_no e1]; rfl)
        clear e1
        go_wp2
        go_roundg (gk - 1)
        case measure => have := HKG.out; omega
        case rel => exact ⟨k + 1, by have := HKG.out; omega, by go_num, HF.out, rfl⟩
theorem ahead_drop {xs ys : List Int} {k : Nat} (h1 : k < xs.length) (h2 : k < ys.length) : aheadL (xs.drop k) (ys.drop k) = if eqD (gt xs k) (gt ys k) then aheadL (xs.drop (k + 1)) (ys.drop (k + 1)) else decide (gt xs k < gt ys k) := by
  rw [drop_gt h1, drop_gt h2]; rfl
theorem ahead_end {xs ys : List Int} {k : Nat} (h : k = xs.length ∨ k = ys.length) (h1 : k ≤ xs.length) (h2 : k ≤ ys.length) : aheadL (xs.drop k) (ys.drop k) = decide ((xs.length : Int) < ys.length) := by
  rcases h with h | h
  · rw [show xs.drop k = [] from List.drop_eq_nil_of_le (by omega)]
    cases hy : ys.drop k with
    | nil =>
      have := congrArg List.length hy
      rw [List.length_drop] at this
      simp at this
      rw [decide_eq_false (by omega)]; rfl
    | cons y t =>
      have := congrArg List.length hy
      rw [List.length_drop] at this
      simp at this
      rw [decide_eq_true (by omega)]; rfl
  · rw [show ys.drop k = [] from List.drop_eq_nil_of_le (by omega), decide_eq_false (by omega)]
    cases xs.drop k <;> rfl
set_option maxHeartbeats 400000 in
theorem ahead_any (A A' : Option Addr) (n n' c c' lo lo' : Nat) (xs ys : List Int) (w : World) (hx : Rd intS lo w.heap.size w A n xs) (hy : Rd intS lo' w.heap.size w A' n' ys) :
    Calls Try.prog 26 #[.slice A n c, .slice A' n' c'] w fun e w' => e = .returned (.bool (aheadL xs ys)) ∧ Below w.heap.size w w' := by
  obtain ⟨e1, e2, e3⟩ := hx
  have E1 := hid e1; clear e1
  have E3 := hid e3; clear e3
  obtain ⟨f1, f2, f3⟩ := hy
  have F1 := hid f1; clear f1
  have F3 := hid f3; clear f3
  go_enter Try.func26, Try.ntmps26
  go_wp2
  go_loopg [5] n (fun gk i wr => ∃ k : Nat, k + gk = n ∧ k ≤ n' ∧ i = .int .i64 k ∧ aheadL xs ys = aheadL (xs.drop k) (ys.drop k) ∧ Below w.heap.size w wr)
  case atStart => exact ⟨0, Nat.zero_add _, Nat.zero_le _, rfl, by simp, Below.refl _ _⟩
  case round =>
    obtain ⟨k, hkg, hkn', rfl, htk, hb⟩ := hrel
    have HT := hid htk; clear htk
    have HKG := hid hkg
    have hk : k ≤ n := by omega
    clear hkg
    by_cases hlt : k < n
    case neg =>
      have hki : ¬ (k : Int) < (n : Int) := by omega
      have HF := hid (show aheadL xs ys = decide ((n : Int) < n') by rw [HT.out, ahead_end (.inl (by rw [← E1.out]; omega)) (by rw [← E1.out]; exact hk) (by rw [← F1.out]; exact hkn'), ← E1.out, ← F1.out])
      clear hlt
      go_wp2
      go_ret
      exact ⟨ret_bool (by rw [HF.out]; simp), hb⟩
    case pos =>
      have hki : (k : Int) < (n : Int) := by omega
      by_cases hlt' : k < n'
      case neg =>
        have hki' : ¬ (k : Int) < (n' : Int) := by omega
        have HF := hid (show aheadL xs ys = decide ((n : Int) < n') by rw [HT.out, ahead_end (.inr (by rw [← F1.out]; omega)) (by rw [← E1.out]; exact hk) (by rw [← F1.out]; exact hkn'), ← E1.out, ← F1.out])
        clear hlt'
        go_wp2
        go_ret
        exact ⟨ret_bool (by rw [HF.out]; simp), hb⟩
      case pos =>
        obtain ⟨b, off, rfl, _, hbb, hcx⟩ := E3.out (by omega)
        obtain ⟨b', off', rfl, _, hbb', hcy⟩ := F3.out (by omega)
        have hki' : (k : Int) < (n' : Int) := by omega
        have cx := aft_cell hbb (hcx.int hlt)
        have cy := aft_cell hbb' (hcy.int hlt')
        have hD := hid (ahead_drop (xs := xs) (ys := ys) (k := k) (by rw [← E1.out]; exact hlt) (by rw [← F1.out]; exact hlt'))
        obtain ⟨x, hxx⟩ : ∃ x, gt xs k = x := ⟨_, rfl⟩
        obtain ⟨y, hyy⟩ : ∃ y, gt ys k = y := ⟨_, rfl⟩
        have HXX := hid hxx
        have HYY := hid hyy
        rw [hxx] at cx
        rw [hyy] at cy
        clear hcx hcy hxx hyy
        go_wp2_with fail
        refine wp_region_aft hb (by kernel_rfl) (by kernel_rfl) ?_
        repeat (go_big_quiet_step (fail))
        refine wpQuiet_nil ?_
        rintro _ ⟨p2, rfl⟩
        by_cases hxy : x = y
        · have hxy' : (x != y) = false := by simp [hxy]
          have HXY := hid hxy; clear hxy
          go_wp2
          go_roundg (gk - 1)
          case measure => have := HKG.out; omega
          case rel => exact ⟨k + 1, by have := HKG.out; omega, by omega, by go_num, by rw [HT.out, hD.out, HXX.out, HYY.out, HXY.out, eqD_self, if_pos rfl], p2.prop⟩
        · have hxy' : (x != y) = true := by simp [hxy]
          have HXY := hid hxy; clear hxy
          go_wp2_with fail
          refine wp_region_aft p2.prop (by kernel_rfl) (by kernel_rfl) ?_
          repeat (go_big_quiet_step (fail))
          refine wpQuiet_nil ?_
          rintro _ ⟨p3, rfl⟩
          go_wp2
          go_ret
          exact ⟨ret_bool (by rw [HT.out, hD.out, HXX.out, HYY.out, eqD_no HXY.out, if_neg (by decide)]), p3.prop⟩
end Go.Proofs.Ytfjoininagdlcaa
