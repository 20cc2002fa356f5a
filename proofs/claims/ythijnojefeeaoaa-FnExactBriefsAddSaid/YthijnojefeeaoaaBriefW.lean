/- Words, speeches and briefs: what the program's and the reference's tests return. -/
import Derived.Test.YthijnojefeeaoaaStrs2
import Derived.Test.YthijnojefeeaoaaPage
namespace Go.Proofs.Ythijnojefeeaoaa
open Go.RowKit
theorem gt_byte {s : ByteArray} {k : Nat} (h : k < s.size) : gt s.data.toList k = s[k] := by
  have h2 : k < s.data.toList.length := by simpa using h
  rw [gt_eq h2]
  rfl
theorem size_len (s : ByteArray) : s.size = s.data.toList.length := rfl
theorem bytes_no {lo hi : Nat} {c : UInt8} {r : List UInt8} (h : ¬ (lo ≤ c.toNat ∧ c.toNat ≤ hi)) : bytesIn lo hi (c :: r) = false := by
  unfold bytesIn
  rw [List.all_cons, Bool.and_eq_false_iff]
  left
  rw [Bool.and_eq_false_iff, decide_eq_false_iff_not, decide_eq_false_iff_not]
  omega
theorem bytes_yes {lo hi : Nat} {c : UInt8} {r : List UInt8} (h1 : lo ≤ c.toNat) (h2 : c.toNat ≤ hi) : bytesIn lo hi (c :: r) = bytesIn lo hi r := by
  unfold bytesIn
  rw [List.all_cons, decide_eq_true h1, decide_eq_true h2]
  rfl
set_option maxHeartbeats 400000 in
theorem specWordValid_any (s : ByteArray) (w : World) (hs : s.size ≤ 9223372036854775807) :
    Calls Try.prog 80 #[.string s] w fun e w' => e = .returned (.bool (wordOk s)) ∧ w = w' := by
  go_enter Try.func80, Try.ntmps80
  go_wp2_with fail
  go_loop [3] (fun i => ∃ k : Nat, k ≤ s.size ∧ i = .int .i64 k ∧ bytesIn 97 122 s.data.toList = bytesIn 97 122 (s.data.toList.drop k)) (fun i => s.size - (intOf i).toNat)
  case atStart => exact ⟨0, Nat.zero_le _, rfl, rfl⟩
  case round =>
    obtain ⟨k, hk, rfl, hr⟩ := hrel
    have HR := hid hr; clear hr
    by_cases hlt : k < s.size
    · have HD := hid (drop_gt (l := s.data.toList) (by rw [← size_len]; exact hlt))
      by_cases h1 : ((s[k]'hlt).toNat : Int) < 97
      · go_wp2_with fail
        go_ret
        exact ⟨ret_bool (by unfold wordOk; rw [HR.out, HD.out, bytes_no (by rw [gt_byte hlt]; omega), Bool.and_false]), rfl⟩
      · by_cases h2 : (122 : Int) < ((s[k]'hlt).toNat : Int)
        · go_wp2_with fail
          go_ret
          exact ⟨ret_bool (by unfold wordOk; rw [HR.out, HD.out, bytes_no (by rw [gt_byte hlt]; omega), Bool.and_false]), rfl⟩
        · have HH := hid (And.intro h1 h2)
          go_wp2_with fail
          go_round
          case rel => exact ⟨k + 1, by omega, by go_num, by rw [HR.out, HD.out, bytes_yes (by have := HH.out.1; rw [gt_byte hlt]; omega) (by have := HH.out.2; rw [gt_byte hlt]; omega)]⟩
          case measure => simp [intOf]; omega
    · obtain rfl : k = s.size := by omega
      go_wp2_with (go_at_call 95; refine (l6In_any _ _ _ _).mono ?_; rintro e w' ⟨rfl, rfl⟩)
      go_ret
      exact ⟨ret_bool (by unfold wordOk; rw [HR.out, size_len, List.drop_length]; exact (Bool.and_true _).symm), rfl⟩
set_option maxHeartbeats 400000 in
theorem l4Mark_any (s : ByteArray) (w : World) (hs : s.size ≤ 9223372036854775807) :
    Calls Try.prog 87 #[.string s] w fun e w' => e = .returned (.bool (markOk s)) ∧ w = w' := by
  go_enter Try.func87, Try.ntmps87
  go_wp2_with fail
  go_loop [3] (fun i => ∃ k : Nat, k ≤ s.size ∧ i = .int .i64 k ∧ bytesIn 65 90 s.data.toList = bytesIn 65 90 (s.data.toList.drop k)) (fun i => s.size - (intOf i).toNat)
  case atStart => exact ⟨0, Nat.zero_le _, rfl, rfl⟩
  case round =>
    obtain ⟨k, hk, rfl, hr⟩ := hrel
    have HR := hid hr; clear hr
    by_cases hlt : k < s.size
    · have HD := hid (drop_gt (l := s.data.toList) (by rw [← size_len]; exact hlt))
      by_cases h1 : ((s[k]'hlt).toNat : Int) < 65
      · go_wp2_with fail
        go_ret
        exact ⟨ret_bool (by unfold markOk; rw [HR.out, HD.out, bytes_no (by rw [gt_byte hlt]; omega), Bool.and_false]), rfl⟩
      · by_cases h2 : (90 : Int) < ((s[k]'hlt).toNat : Int)
        · go_wp2_with fail
          go_ret
          exact ⟨ret_bool (by unfold markOk; rw [HR.out, HD.out, bytes_no (by rw [gt_byte hlt]; omega), Bool.and_false]), rfl⟩
        · have HH := hid (And.intro h1 h2)
          go_wp2_with fail
          go_round
          case rel => exact ⟨k + 1, by omega, by go_num, by rw [HR.out, HD.out, bytes_yes (by have := HH.out.1; rw [gt_byte hlt]; omega) (by have := HH.out.2; rw [gt_byte hlt]; omega)]⟩
          case measure => simp [intOf]; omega
    · obtain rfl : k = s.size := by omega
      go_wp2_with (go_at_call 95; refine (l6In_any _ _ _ _).mono ?_; rintro e w' ⟨rfl, rfl⟩)
      go_ret
      exact ⟨ret_bool (by unfold markOk; rw [HR.out, size_len, List.drop_length]; exact (Bool.and_true _).symm), rfl⟩
set_option maxHeartbeats 400000 in
theorem implWordValid_any (s : ByteArray) (w : World) (hs : s.size ≤ 9223372036854775807) :
    Calls Try.prog 79 #[.string s] w fun e w' => e = .returned (.bool (wordOk s)) ∧ w = w' := by
  by_cases hin : inB s.size 1 12 = true
  case neg =>
    have HH := hid (show wordOk s = false by unfold wordOk; simp only [Bool.not_eq_true] at hin; rw [hin]; rfl)
    have hin2 : ¬ ((1 : Int) ≤ s.size ∧ (s.size : Int) ≤ 12) := fun h => hin (inB_yes.2 h)
    clear hin
    by_cases h1 : (s.size : Int) < 1
    · clear hin2
      go_enter Try.func79, Try.ntmps79
      go_wp2
      go_ret
      exact ⟨ret_bool HH.out.symm, rfl⟩
    · have h2 : (12 : Int) < (s.size : Int) := by omega
      clear hin2
      go_enter Try.func79, Try.ntmps79
      go_wp2
      go_ret
      exact ⟨ret_bool HH.out.symm, rfl⟩
  case pos =>
    have HH := hid (show wordOk s = bytesIn 97 122 s.data.toList by unfold wordOk; rw [hin]; rfl)
    obtain ⟨hi1, hi2⟩ := inB_yes.1 hin
    clear hin
    go_enter Try.func79, Try.ntmps79
    go_wp2_with fail
    go_loop [3, 14] (fun _ i => ∃ k : Nat, k ≤ s.size ∧ i = .int .i64 k ∧ bytesIn 97 122 s.data.toList = bytesIn 97 122 (s.data.toList.drop k)) (fun _ i => s.size - (intOf i).toNat)
    case atStart => exact ⟨0, Nat.zero_le _, rfl, rfl⟩
    case round =>
      obtain ⟨k, hk, rfl, hr⟩ := hrel
      have HR := hid hr; clear hr
      by_cases hlt : k < s.size
      · have HD := hid (drop_gt (l := s.data.toList) (by rw [← size_len]; exact hlt))
        by_cases h1 : ((s[k]'hlt).toNat : Int) < 97
        · go_wp2_with fail
          go_ret
          exact ⟨ret_bool (by rw [HH.out, HR.out, HD.out, bytes_no (by rw [gt_byte hlt]; omega)]), rfl⟩
        · by_cases h2 : (122 : Int) < ((s[k]'hlt).toNat : Int)
          · go_wp2_with fail
            go_ret
            exact ⟨ret_bool (by rw [HH.out, HR.out, HD.out, bytes_no (by rw [gt_byte hlt]; omega)]), rfl⟩
          · have HG := hid (And.intro h1 h2)
            go_wp2_with fail
            go_round
            case rel => exact ⟨k + 1, by omega, by go_num, by rw [HR.out, HD.out, bytes_yes (by have := HG.out.1; rw [gt_byte hlt]; omega) (by have := HG.out.2; rw [gt_byte hlt]; omega)]⟩
            case measure => simp [intOf]; omega
      · obtain rfl : k = s.size := by omega
        go_wp2_with fail
        go_ret
        exact ⟨ret_bool (by rw [HH.out, HR.out, size_len, List.drop_length]; rfl), rfl⟩
theorem words_cons (x : ByteArray) (r : List ByteArray) : wordsOk (x :: r) = (wordOk x && wordsOk r) := rfl
set_option maxHeartbeats 400000 in
theorem l4Words_any (A : Option Addr) (n c lo : Nat) (a b : Int) (xs : List ByteArray) (w : World) (hx : Rd strS lo w.heap.size w A n xs) :
    Calls Try.prog 88 #[.slice A n c, .int .i64 a, .int .i64 b] w fun e w' => e = .returned (.bool (inB xs.length a b && wordsOk xs)) ∧ w = w' := by
  obtain ⟨e1, e2, e3⟩ := hx
  have E1 := hid e1; clear e1
  have E3 := hid e3; clear e3
  go_enter Try.func88, Try.ntmps88
  go_wp2_with fail
  go_loop [7] (fun i => ∃ k : Nat, k ≤ n ∧ i = .int .i64 k ∧ wordsOk xs = wordsOk (xs.drop k)) (fun i => n - (intOf i).toNat)
  case atStart => exact ⟨0, Nat.zero_le _, rfl, rfl⟩
  case round =>
    obtain ⟨k, hk, rfl, hr⟩ := hrel
    have HR := hid hr; clear hr
    by_cases hlt : k < n
    · obtain ⟨b', off, rfl, _, hbb, hcx⟩ := E3.out (by omega)
      obtain ⟨cx, cx9⟩ := hcx.str hlt
      have HD := hid (drop_gt (l := xs) (by rw [← E1.out]; exact hlt))
      clear hcx
      by_cases h1 : wordOk (gt xs k) = true
      · go_wp2_with (go_at_call 80; refine (specWordValid_any _ _ cx9).mono ?_; rintro e w' ⟨rfl, rfl⟩)
        go_round
        case rel => exact ⟨k + 1, by omega, by go_num, by rw [HR.out, HD.out, words_cons, h1, Bool.true_and]⟩
        case measure => simp [intOf]; omega
      · have h1' : wordOk (gt xs k) = false := by simpa using h1
        clear h1
        go_wp2_with (go_at_call 80; refine (specWordValid_any _ _ cx9).mono ?_; rintro e w' ⟨rfl, rfl⟩)
        go_ret
        exact ⟨ret_bool (by rw [HR.out, HD.out, words_cons, h1', Bool.false_and, Bool.and_false]), rfl⟩
    · obtain rfl : k = n := by omega
      go_wp2_with (go_at_call 95; refine (l6In_any _ _ _ _).mono ?_; rintro e w' ⟨rfl, rfl⟩)
      go_ret
      exact ⟨ret_bool (by rw [HR.out, List.drop_eq_nil_of_le (by rw [E1.out]; omega), E1.out]; exact (Bool.and_true _).symm), rfl⟩
theorem speech_in (xs : List ByteArray) : (inB xs.length 0 20 && wordsOk xs) = speechOk xs := by
  unfold speechOk
  congr 1
  unfold inB
  rw [decide_eq_true (by omega), Bool.true_and]
  by_cases h : xs.length ≤ 20
  · rw [decide_eq_true h, decide_eq_true (by omega)]
  · rw [decide_eq_false h, decide_eq_false (by omega)]
set_option maxHeartbeats 400000 in
theorem specSpeechValid_any (A : Option Addr) (n c lo : Nat) (xs : List ByteArray) (w : World) (hx : Rd strS lo w.heap.size w A n xs) :
    Calls Try.prog 94 #[.slice A n c] w fun e w' => e = .returned (.bool (speechOk xs)) ∧ w = w' := by
  have HS := hid (speech_in xs)
  go_enter Try.func94, Try.ntmps94
  go_wp2_with (go_at_call 88; refine (l4Words_any _ _ _ _ _ _ _ _ hx).mono ?_; rintro e w' ⟨rfl, rfl⟩)
  go_ret
  exact ⟨ret_bool HS.out, rfl⟩
set_option maxHeartbeats 400000 in
theorem implSpeechValid_any (A : Option Addr) (n c lo : Nat) (xs : List ByteArray) (w : World) (hx : Rd strS lo w.heap.size w A n xs) :
    Calls Try.prog 50 #[.slice A n c] w fun e w' => e = .returned (.bool (speechOk xs)) ∧ w = w' := by
  obtain ⟨e1, e2, e3⟩ := hx
  have E1 := hid e1; clear e1
  have E3 := hid e3; clear e3
  by_cases h20 : n ≤ 20
  case neg =>
    have HH := hid (show speechOk xs = false by unfold speechOk; rw [decide_eq_false (by rw [← E1.out]; exact h20)]; rfl)
    have hgt : (20 : Int) < (n : Int) := by omega
    go_enter Try.func50, Try.ntmps50
    go_wp2_with fail
    go_ret
    exact ⟨ret_bool HH.out.symm, rfl⟩
  case pos =>
  have HH := hid (show speechOk xs = wordsOk xs by unfold speechOk; rw [decide_eq_true (by rw [← E1.out]; exact h20)]; rfl)
  go_enter Try.func50, Try.ntmps50
  go_wp2_with fail
  go_loop [4, 10] (fun _ i => ∃ k : Nat, k ≤ n ∧ i = .int .i64 k ∧ wordsOk xs = wordsOk (xs.drop k)) (fun _ i => n - (intOf i).toNat)
  case atStart => exact ⟨0, Nat.zero_le _, rfl, rfl⟩
  case round =>
    obtain ⟨k, hk, rfl, hr⟩ := hrel
    have HR := hid hr; clear hr
    by_cases hlt : k < n
    · obtain ⟨b', off, rfl, _, hbb, hcx⟩ := E3.out (by omega)
      obtain ⟨cx, cx9⟩ := hcx.str hlt
      have HD := hid (drop_gt (l := xs) (by rw [← E1.out]; exact hlt))
      clear hcx
      by_cases h1 : wordOk (gt xs k) = true
      · go_wp2_with (go_at_call 79; refine (implWordValid_any _ _ cx9).mono ?_; rintro e w' ⟨rfl, rfl⟩)
        go_round
        case rel => exact ⟨k + 1, by omega, by go_num, by rw [HR.out, HD.out, words_cons, h1, Bool.true_and]⟩
        case measure => simp [intOf]; omega
      · have h1' : wordOk (gt xs k) = false := by simpa using h1
        clear h1
        go_wp2_with (go_at_call 79; refine (implWordValid_any _ _ cx9).mono ?_; rintro e w' ⟨rfl, rfl⟩)
        go_ret
        exact ⟨ret_bool (by rw [HH.out, HR.out, HD.out, words_cons, h1', Bool.false_and]), rfl⟩
    · obtain rfl : k = n := by omega
      go_wp2_with fail
      go_ret
      exact ⟨ret_bool (by rw [HH.out, HR.out, List.drop_eq_nil_of_le (by rw [E1.out]; omega)]; rfl), rfl⟩
end Go.Proofs.Ythijnojefeeaoaa
