/- Letters and bare words: what the program's and the reference's functions return. -/
import Derived.Test.YtigemahbopligaaWordPure
import Derived.Test.YtigemahbopligaaBriefW
import Derived.Laws.Externs
import Derived.Test.YtigemahbopligaaAtTwo
namespace Go.Proofs.Ytigemahbopligaa
open Go.RowKit
attribute [local go_sem] Oper.semAt_some
theorem vowB_yes {c : UInt8} : vowB c = true ↔ c.toNat = 97 ∨ c.toNat = 101 ∨ c.toNat = 105 ∨ c.toNat = 111 ∨ c.toNat = 117 := by
  unfold vowB
  simp [or_assoc]
theorem vowB_no {c : UInt8} : vowB c = false ↔ c.toNat ≠ 97 ∧ c.toNat ≠ 101 ∧ c.toNat ≠ 105 ∧ c.toNat ≠ 111 ∧ c.toNat ≠ 117 := by
  unfold vowB
  simp [and_assoc]
theorem firstIdx_vow (c : UInt8) : decide (0 ≤ firstIdx ⟨#[97, 101, 105, 111, 117]⟩ c) = vowB c := by
  have h : ∀ n : Fin 256, decide (0 ≤ firstIdx ⟨#[97, 101, 105, 111, 117]⟩ (UInt8.ofNat n.val)) = vowB (UInt8.ofNat n.val) := by decide +kernel
  have := h ⟨c.toNat, c.toNat_lt⟩
  simpa using this
set_option maxHeartbeats 1000000 in
theorem l2Vowel_any (c : UInt8) (w : World) :
    Calls Try.prog 96 #[.int .u8 (c.toNat : Int)] w fun e w' => e = .returned (.bool (vowB c)) ∧ w = w' := by
  obtain ⟨b, hb⟩ : ∃ b, vowB c = b := ⟨_, rfl⟩
  have HB := hid hb
  obtain ⟨n, hn⟩ : ∃ n, c.toNat = n := ⟨_, rfl⟩
  rw [hn]
  cases b with
  | true =>
    rw [vowB_yes, hn] at hb
    clear hn
    rcases hb with rfl | rfl | rfl | rfl | rfl <;>
    · go_enter Try.func96, Try.ntmps96
      go_wp2
      go_ret
      exact ⟨ret_bool HB.out.symm, rfl⟩
  | false =>
    rw [vowB_no, hn] at hb
    obtain ⟨h1, h2, h3, h4, h5⟩ := hb
    have e1 : ((n : Int) == 97) = false := by simp; omega
    have e2 : ((n : Int) == 101) = false := by simp; omega
    have e3 : ((n : Int) == 105) = false := by simp; omega
    have e4 : ((n : Int) == 111) = false := by simp; omega
    have e5 : ((n : Int) == 117) = false := by simp; omega
    clear h1 h2 h3 h4 h5 hn
    go_enter Try.func96, Try.ntmps96
    go_wp2
    go_ret
    exact ⟨ret_bool HB.out.symm, rfl⟩
theorem indexByteString_any (s : ByteArray) (c : Int) (w : World) : (callFunc 106 #[.string s, .int .u8 c]).run Try.prog w = .ok (.value (.int .i64 (firstIdx s c.toNat.toUInt8))) w := by
  rw [run_callFunc_extern Try.func106 (by kernel_rfl) (by kernel_rfl) (by kernel_rfl) (e := Extern.BytealgIndexByte.indexByte) (by kernel_rfl), run_indexByte_string]
  rfl
set_option maxHeartbeats 1000000 in
theorem stringsIndexByte_any (s : ByteArray) (c : Int) (w : World) :
    Calls Try.prog 103 #[.string s, .int .u8 c] w fun e w' => e = .returned (.int .i64 (firstIdx s c.toNat.toUInt8)) ∧ w = w' := by
  have h2 : Calls Try.prog 105 #[.string s, .int .u8 c] w fun e w' => e = .returned (.int .i64 (firstIdx s c.toNat.toUInt8)) ∧ w = w' := by
    have hx := indexByteString_any s c w
    go_enter Try.func105, Try.ntmps105
    go_wp2
    go_ret
    exact ⟨rfl, rfl⟩
  have H2 := hid h2
  clear h2
  go_enter Try.func103, Try.ntmps103
  go_wp2_with fail
  refine H2.out.mono ?_
  rintro e w1 ⟨rfl, rfl⟩
  go_wp2
  go_ret
  exact ⟨rfl, rfl⟩
set_option maxHeartbeats 1000000 in
theorem isVowel_any (c : UInt8) (w : World) :
    Calls Try.prog 100 #[.int .u8 (c.toNat : Int)] w fun e w' => e = .returned (.bool (vowB c)) ∧ w = w' := by
  have hv := firstIdx_vow c
  have hc : ((c.toNat : Int)).toNat.toUInt8 = c := by simp
  have H := hid (stringsIndexByte_any ⟨#[97, 101, 105, 111, 117]⟩ (c.toNat : Int) w)
  obtain ⟨z, hz⟩ : ∃ z, firstIdx ⟨#[97, 101, 105, 111, 117]⟩ c = z := ⟨_, rfl⟩
  rw [hz] at hv
  have HZ := hid (show firstIdx ⟨#[97, 101, 105, 111, 117]⟩ ((c.toNat : Int)).toNat.toUInt8 = z by rw [hc]; exact hz)
  have HV := hid hv
  clear hv hc hz
  go_enter Try.func100, Try.ntmps100
  go_wp2_with fail
  refine H.out.mono ?_
  rw [HZ.out]
  rintro e w1 ⟨rfl, rfl⟩
  go_wp2
  go_ret
  exact ⟨ret_bool HV.out, rfl⟩
set_option maxHeartbeats 1000000 in
theorem isConsonant_any (c : UInt8) (w : World) :
    Calls Try.prog 92 #[.int .u8 (c.toNat : Int)] w fun e w' => e = .returned (.bool (letterB c)) ∧ w = w' := by
  have HB := hid (show letterB c = ((decide (97 ≤ c.toNat) && decide (c.toNat ≤ 122)) && !vowB c) from rfl)
  have H := hid (isVowel_any c w)
  obtain ⟨n, hn⟩ : ∃ n, c.toNat = n := ⟨_, rfl⟩
  rw [hn] at HB H ⊢
  clear hn
  by_cases h1 : 97 ≤ n
  · have h1i : (97 : Int) ≤ (n : Int) := by omega
    by_cases h2 : n ≤ 122
    · have h2i : (n : Int) ≤ 122 := by omega
      have HF := hid (show letterB c = !vowB c by rw [HB.out, decide_eq_true h1, decide_eq_true h2]; rfl)
      clear h1 h2
      obtain ⟨b, hb⟩ : ∃ b, vowB c = b := ⟨_, rfl⟩
      rw [hb] at HF H
      clear hb
      go_enter Try.func92, Try.ntmps92
      go_wp2_with fail
      refine H.out.mono ?_
      rintro e w1 ⟨rfl, rfl⟩
      go_wp2
      go_ret
      exact ⟨ret_bool HF.out.symm, rfl⟩
    · have h2i : ¬ (n : Int) ≤ 122 := by omega
      have HF := hid (show letterB c = false by rw [HB.out, decide_eq_true h1, decide_eq_false h2]; rfl)
      clear h1 h2
      go_enter Try.func92, Try.ntmps92
      go_wp2_with fail
      go_ret
      exact ⟨ret_bool HF.out.symm, rfl⟩
  · have h1i : ¬ (97 : Int) ≤ (n : Int) := by omega
    have HF := hid (show letterB c = false by rw [HB.out, decide_eq_false h1]; rfl)
    clear h1
    go_enter Try.func92, Try.ntmps92
    go_wp2_with fail
    go_ret
    exact ⟨ret_bool HF.out.symm, rfl⟩
end Go.Proofs.Ytigemahbopligaa
