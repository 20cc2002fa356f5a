/- Words, speeches and briefs: what the program's and the reference's tests return. -/
import Derived.Test.YtigemahbopligaaStrs2
import Derived.Test.YtigemahbopligaaPage
namespace Go.Proofs.Ytigemahbopligaa
open Go.RowKit
theorem gt_byte {s : ByteArray} {k : Nat} (h : k < s.size) : gt s.data.toList k = s[k] := by
  have h2 : k < s.data.toList.length := by simpa using h
  rw [gt_eq h2]
  rfl
theorem size_len (s : ByteArray) : s.size = s.data.toList.length := rfl
theorem bytes_no {lo hi : Nat} {c : UInt8} {r : List UInt8} (h : ¬ (lo ≤ c.toNat ∧ c.toNat ≤ hi)) : bytesIn lo hi (c :: r) = false := by
  unfold bytesIn
  rw [List.all_cons, Bool.and_eq_false_iff]
  left
  rw [Bool.and_eq_false_iff, decide_eq_false_iff_not, decide_eq_false_iff_not]
  omega
theorem bytes_yes {lo hi : Nat} {c : UInt8} {r : List UInt8} (h1 : lo ≤ c.toNat) (h2 : c.toNat ≤ hi) : bytesIn lo hi (c :: r) = bytesIn lo hi r := by
  unfold bytesIn
  rw [List.all_cons, decide_eq_true h1, decide_eq_true h2]
  rfl
set_option maxHeartbeats 400000 in
theorem specWordValid_any (s : ByteArray) (w : World) (hs : s.size ≤ 9223372036854775807) :
    Calls Try.prog 82 #[.string s] w fun e w' => e = .returned (.bool (wordOk s)) ∧ w = w' := by
  go_enter Try.func82, Try.ntmps82
  go_wp2_with fail
  go_loop [3] (fun i => ∃ k : Nat, k ≤ s.size ∧ i = .int .i64 k ∧ bytesIn 97 122 s.data.toList = bytesIn 97 122 (s.data.toList.drop k)) (fun i => s.size - (intOf i).toNat)
  case atStart => exact ⟨0, Nat.zero_le _, rfl, rfl⟩
  case round =>
    obtain ⟨k, hk, rfl, hr⟩ := hrel
    have HR := hid hr; clear hr
    by_cases hlt : k < s.size
    · have HD := hid (drop_gt (l := s.data.toList) (by rw [← size_len]; exact hlt))
      by_cases h1 : ((s[k]'hlt).toNat : Int) < 97
      · go_wp2_with fail
        go_ret
        exact ⟨ret_bool (by unfold wordOk; rw [HR.out, HD.out, bytes_no (by rw [gt_byte hlt]; omega), Bool.and_false]), rfl⟩
      · by_cases h2 : (122 : Int) < ((s[k]'hlt).toNat : Int)
        · go_wp2_with fail
          go_ret
          exact ⟨ret_bool (by unfold wordOk; rw [HR.out, HD.out, bytes_no (by rw [gt_byte hlt]; omega), Bool.and_false]), rfl⟩
        · have HH := hid (And.intro h1 h2)
          go_wp2_with fail
          go_round
          case rel => exact ⟨k + 1, by omega, by go_num, by rw [HR.out, HD.out, bytes_yes (by have := HH.out.1; rw [gt_byte hlt]; omega) (by have := HH.out.2; rw [gt_byte hlt]; omega)]⟩
          case measure => simp [intOf]; omega
    · obtain rfl : k = s.size := by omega
      go_wp2_with (go_at_call 39; refine (l6In_any _ _ _ _).mono ?_; rintro e w' ⟨rfl, rfl⟩)
      go_ret
      exact ⟨ret_bool (by unfold wordOk; rw [HR.out, size_len, List.drop_length]; exact (Bool.and_true _).symm), rfl⟩
set_option maxHeartbeats 400000 in
theorem implWordValid_any (s : ByteArray) (w : World) (hs : s.size ≤ 9223372036854775807) :
    Calls Try.prog 93 #[.string s] w fun e w' => e = .returned (.bool (wordOk s)) ∧ w = w' := by
  by_cases hin : inB s.size 1 12 = true
  case neg =>
    have HH := hid (show wordOk s = false by unfold wordOk; simp only [Bool.not_eq_true] at hin; rw [hin]; rfl)
    have hin2 : ¬ ((1 : Int) ≤ s.size ∧ (s.size : Int) ≤ 12) := fun h => hin (inB_yes.2 h)
    clear hin
    by_cases h1 : (s.size : Int) < 1
    · clear hin2
      go_enter Try.func93, Try.ntmps93
      go_wp2
      go_ret
      exact ⟨ret_bool HH.out.symm, rfl⟩
    · have h2 : (12 : Int) < (s.size : Int) := by omega
      clear hin2
      go_enter Try.func93, Try.ntmps93
      go_wp2
      go_ret
      exact ⟨ret_bool HH.out.symm, rfl⟩
  case pos =>
    have HH := hid (show wordOk s = bytesIn 97 122 s.data.toList by unfold wordOk; rw [hin]; rfl)
    obtain ⟨hi1, hi2⟩ := inB_yes.1 hin
    clear hin
    go_enter Try.func93, Try.ntmps93
    go_wp2_with fail
    go_loop [3, 14] (fun _ i => ∃ k : Nat, k ≤ s.size ∧ i = .int .i64 k ∧ bytesIn 97 122 s.data.toList = bytesIn 97 122 (s.data.toList.drop k)) (fun _ i => s.size - (intOf i).toNat)
    case atStart => exact ⟨0, Nat.zero_le _, rfl, rfl⟩
    case round =>
      obtain ⟨k, hk, rfl, hr⟩ := hrel
      have HR := hid hr; clear hr
      by_cases hlt : k < s.size
      · have HD := hid (drop_gt (l := s.data.toList) (by rw [← size_len]; exact hlt))
        by_cases h1 : ((s[k]'hlt).toNat : Int) < 97
        · go_wp2_with fail
          go_ret
          exact ⟨ret_bool (by rw [HH.out, HR.out, HD.out, bytes_no (by rw [gt_byte hlt]; omega)]), rfl⟩
        · by_cases h2 : (122 : Int) < ((s[k]'hlt).toNat : Int)
          · go_wp2_with fail
            go_ret
            exact ⟨ret_bool (by rw [HH.out, HR.out, HD.out, bytes_no (by rw [gt_byte hlt]; omega)]), rfl⟩
          · have HG := hid (And.intro h1 h2)
            go_wp2_with fail
            go_round
            case rel => exact ⟨k + 1, by omega, by go_num, by rw [HR.out, HD.out, bytes_yes (by have := HG.out.1; rw [gt_byte hlt]; omega) (by have := HG.out.2; rw [gt_byte hlt]; omega)]⟩
            case measure => simp [intOf]; omega
      · obtain rfl : k = s.size := by omega
        go_wp2_with fail
        go_ret
        exact ⟨ret_bool (by rw [HH.out, HR.out, size_len, List.drop_length]; rfl), rfl⟩
theorem words_cons (x : ByteArray) (r : List ByteArray) : wordsOk (x :: r) = (wordOk x && wordsOk r) := rfl
end Go.Proofs.Ytigemahbopligaa
