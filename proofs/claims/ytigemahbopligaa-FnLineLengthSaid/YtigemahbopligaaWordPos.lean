/- A word's vowels and its position: what the draws of lines need of them. -/
import Derived.Test.YtigemahbopligaaWords3
import Derived.Test.YtigemahbopligaaSysS3
namespace Go.Proofs.Ytigemahbopligaa
open Go.RowKit
def SomeStr (w : World) (e : Ending) (w' : World) : Prop := ∃ t : ByteArray, e = .returned (.string t) ∧ Below w.heap.size w w'
def SomePos (w : World) (e : Ending) (w' : World) : Prop := ∃ q : Int, e = .returned (.int .i64 q) ∧ -1 ≤ q ∧ q ≤ 2 ∧ Below w.heap.size w w'
set_option maxRecDepth 100000 in
set_option maxHeartbeats 1000000 in
theorem specWordVowels_any (s : ByteArray) (w : World) (hs : s.size ≤ 9223372036854775807) :
    Calls Try.prog 104 #[.string s] w (SomeStr w) := by
  have HWV := fun w => specWordValid_any s w hs
  obtain ⟨ok, hok⟩ : ∃ ok, wordOk s = ok := ⟨_, rfl⟩
  rw [hok] at HWV
  have HW := hid HWV
  clear HWV
  cases ok with
  | false =>
    clear hok
    go_enter Try.func104, Try.ntmps104
    go_wp2_with fail
    go_loopg [3, 4] 0 (fun gk o i wr => i = .int .i64 0 ∧ o = .string ⟨#[]⟩ ∧ w = wr)
    case atStart => exact ⟨rfl, rfl, rfl⟩
    case round =>
      obtain ⟨rfl, rfl, rfl⟩ := hrel
      by_cases hz : 0 < s.size
      · have hzi : (0 : Int) < (s.size : Int) := by omega
        go_wp2_with fail
        refine (HW.out _).mono ?_
        rintro e w1 ⟨rfl, rfl⟩
        go_wp2_with fail
        go_ret
        exact ⟨_, rfl, Below.refl _ _⟩
      · have hzi : ¬ (0 : Int) < (s.size : Int) := by omega
        go_wp2_with fail
        go_ret
        exact ⟨_, rfl, Below.refl _ _⟩
  | true =>
    have hsz := wordOk_size hok
    clear hok
    go_enter Try.func104, Try.ntmps104
    go_wp2_with fail
    go_loopg [3, 4] s.size (fun gk o i wr => ∃ (k : Nat) (acc : ByteArray), k + gk = s.size ∧ i = .int .i64 k ∧ o = .string acc ∧ acc.size ≤ k ∧ w = wr)
    case atStart => exact ⟨0, ⟨#[]⟩, Nat.zero_add _, rfl, rfl, Nat.zero_le _, rfl⟩
    case round =>
      obtain ⟨k, acc, hkg, rfl, rfl, hac, rfl⟩ := hrel
      have HKG := hid hkg
      have hk : k ≤ s.size := by omega
      clear hkg
      by_cases hlt : k < s.size
      · have hlti : (k : Int) < (s.size : Int) := by omega
        have hk63 : s.size ≤ 9223372036854775807 := by omega
        have hvc := hid fun w1 => l2Vowel_any (s[k]'hlt) w1
        obtain ⟨v, hv⟩ : ∃ v, vowB (s[k]'hlt) = v := ⟨_, rfl⟩
        rw [hv] at hvc
        clear hv
        have hap := (app_one hlt acc).2
        cases v with
        | true =>
          go_wp2_with fail
          refine (HW.out _).mono ?_
          rintro e w1 ⟨rfl, rfl⟩
          go_wp2_with fail
          refine (hvc.out _).mono ?_
          rintro e w1 ⟨rfl, rfl⟩
          go_wp2_with fail
          go_roundg (gk - 1)
          case measure => have := HKG.out; omega
          case rel => exact ⟨k + 1, _, by have := HKG.out; omega, by go_num, rfl, by rw [hap]; omega, rfl⟩
        | false =>
          go_wp2_with fail
          refine (HW.out _).mono ?_
          rintro e w1 ⟨rfl, rfl⟩
          go_wp2_with fail
          refine (hvc.out _).mono ?_
          rintro e w1 ⟨rfl, rfl⟩
          go_wp2_with fail
          go_roundg (gk - 1)
          case measure => have := HKG.out; omega
          case rel => exact ⟨k + 1, acc, by have := HKG.out; omega, by go_num, rfl, by omega, rfl⟩
      · obtain rfl : k = s.size := by omega
        have hni : ¬ (s.size : Int) < (s.size : Int) := by omega
        go_wp2_with fail
        go_ret
        exact ⟨_, rfl, Below.refl _ _⟩
set_option maxRecDepth 100000 in
set_option maxHeartbeats 1000000 in
theorem specWordPosition_any (s : ByteArray) (w : World) (hs : s.size ≤ 9223372036854775807) :
    Calls Try.prog 102 #[.string s] w (SomePos w) := by
  have HW := hid (specWordValid_any s w hs)
  have HV := hid (specWordVowels_any s w hs)
  obtain ⟨ok, hok⟩ : ∃ ok, wordOk s = ok := ⟨_, rfl⟩
  rw [hok] at HW
  clear hok
  cases ok with
  | false =>
    go_enter Try.func102, Try.ntmps102
    go_wp2_with fail
    refine HW.out.mono ?_
    rintro e w1 ⟨rfl, rfl⟩
    go_wp2_with fail
    go_ret
    exact ⟨_, rfl, by omega, by omega, Below.refl _ _⟩
  | true =>
    go_enter Try.func102, Try.ntmps102
    go_wp2_with fail
    refine HW.out.mono ?_
    rintro e w1 ⟨rfl, rfl⟩
    go_wp2_with fail
    refine HV.out.mono ?_
    intro e w1 hres
    obtain ⟨t, rfl, hb⟩ := hres
    have HB := hid hb
    clear hb
    by_cases he : t.toList.isEmpty = true
    · go_wp2_with fail
      go_ret
      exact ⟨_, rfl, by omega, by omega, HB.out⟩
    · have htp : 0 < t.size := by
        rcases Nat.eq_zero_or_pos t.size with ht | ht
        · exfalso
          have ht2 : t = ByteArray.empty := by
            apply ByteArray.ext
            exact Array.eq_empty_of_size_eq_zero ht
          subst ht2
          exact he (by first | kernel_rfl | decide | simp)
        · exact ht
      have he2 : t.toList.isEmpty = false := by simpa using he
      clear he
      by_cases h1 : ((t[0]'htp).toNat : Int) = 97
      · have h1b : (((t[0]'htp).toNat : Int) == 97) = true := by rw [h1]; rfl
        go_wp2_with fail
        go_ret
        exact ⟨_, rfl, by omega, by omega, HB.out⟩
      · have h1b : (((t[0]'htp).toNat : Int) == 97) = false := by rw [beq_eq_false_iff_ne]; exact h1
        by_cases h2 : ((t[0]'htp).toNat : Int) = 111
        · have h2b : (((t[0]'htp).toNat : Int) == 111) = true := by rw [h2]; rfl
          go_wp2_with fail
          go_ret
          exact ⟨_, rfl, by omega, by omega, HB.out⟩
        · have h2b : (((t[0]'htp).toNat : Int) == 111) = false := by rw [beq_eq_false_iff_ne]; exact h2
          by_cases h3 : ((t[0]'htp).toNat : Int) = 101
          · have h3b : (((t[0]'htp).toNat : Int) == 101) = true := by rw [h3]; rfl
            go_wp2_with fail
            go_ret
            exact ⟨_, rfl, by omega, by omega, HB.out⟩
          · have h3b : (((t[0]'htp).toNat : Int) == 101) = false := by rw [beq_eq_false_iff_ne]; exact h3
            go_wp2_with fail
            go_ret
            exact ⟨_, rfl, by omega, by omega, HB.out⟩
end Go.Proofs.Ytigemahbopligaa
