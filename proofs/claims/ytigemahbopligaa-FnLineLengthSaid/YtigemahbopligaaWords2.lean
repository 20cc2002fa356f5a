/- Bare words: what the program's and the reference's WordBare return. -/
import Derived.Test.YtigemahbopligaaWords
import Derived.Deep.LoopGhost
import Derived.BigGuard
namespace Go.Proofs.Ytigemahbopligaa
open Go.RowKit
attribute [local go_sem] Oper.semAt_some
def bareV (s : ByteArray) : ByteArray := ⟨(bareL s).toArray⟩
theorem wordOk_size {s : ByteArray} (h : wordOk s = true) : 1 ≤ s.size ∧ s.size ≤ 12 := by
  unfold wordOk at h
  rw [Bool.and_eq_true, inB_yes] at h
  omega
theorem bareL_ok {s : ByteArray} (h : wordOk s = true) : bareL s = bareFrom none s.data.toList := by
  unfold bareL
  rw [if_pos h]
theorem bareV_no {s : ByteArray} (h : wordOk s = false) : bareV s = ⟨#[]⟩ := by
  unfold bareV bareL
  rw [h]
  rfl
/-- The letter at place k is left out. -/
def skipB (s : ByteArray) (k : Nat) : Bool := vowB (gt s.data.toList k) || decide (prevB s.data.toList k = some (gt s.data.toList k))
theorem bare_step {s : ByteArray} {k : Nat} (h : k < s.size) : bareFrom (prevB s.data.toList k) (s.data.toList.drop k) = if skipB s k then bareFrom (prevB s.data.toList (k + 1)) (s.data.toList.drop (k + 1)) else gt s.data.toList k :: bareFrom (prevB s.data.toList (k + 1)) (s.data.toList.drop (k + 1)) := by
  rw [bare_drop (by rw [← size_len]; exact h)]
  unfold skipB
  by_cases h1 : vowB (gt s.data.toList k) = true
  · rw [h1]; simp
  · simp only [Bool.not_eq_true] at h1
    rw [h1]
    simp
theorem app_one {s : ByteArray} {k : Nat} (h : k < s.size) (acc : ByteArray) : (acc ++ s.extract k (k + 1)).data.toList = acc.data.toList ++ [gt s.data.toList k] ∧ (acc ++ s.extract k (k + 1)).size = acc.size + 1 := by
  have h2 : k < s.data.toList.length := h
  have e : (s.extract k (k + 1)).data.toList = [gt s.data.toList k] := by
    rw [ByteArray.data_extract, Array.toList_extract, List.extract_eq_take_drop, show k + 1 - k = 1 by omega, drop_gt h2]
    rfl
  have e2 : (acc ++ s.extract k (k + 1)).data.toList = acc.data.toList ++ [gt s.data.toList k] := by
    rw [ByteArray.data_append, Array.toList_append, e]
  refine ⟨e2, ?_⟩
  have := congrArg List.length e2
  rw [List.length_append] at this
  exact this
set_option maxRecDepth 100000 in
set_option maxHeartbeats 2000000 in
theorem specWordBare_any (s : ByteArray) (w : World) (hs : s.size ≤ 9223372036854775807) :
    Calls Try.prog 83 #[.string s] w fun e w' => e = .returned (.string (bareV s)) ∧ Below w.heap.size w w' := by
  have HWV := fun w => specWordValid_any s w hs
  obtain ⟨ok, hok⟩ : ∃ ok, wordOk s = ok := ⟨_, rfl⟩
  rw [hok] at HWV
  have HW := hid HWV
  have HOK := hid hok
  clear HWV
  cases ok with
  | false =>
    have HV := hid (bareV_no hok)
    clear hok
    go_enter Try.func83, Try.ntmps83
    go_wp2_with fail
    go_loopg [3, 4] 0 (fun gk o i wr => i = .int .i64 0 ∧ o = .string ⟨#[]⟩ ∧ w = wr)
    case atStart => exact ⟨rfl, rfl, rfl⟩
    case round =>
      obtain ⟨rfl, rfl, rfl⟩ := hrel
      by_cases hz : 0 < s.size
      · have hzi : (0 : Int) < (s.size : Int) := by omega
        go_wp2_with fail
        refine (HW.out _).mono ?_
        rintro e w1 ⟨rfl, rfl⟩
        go_wp2_with fail
        go_ret
        exact ⟨by rw [HV.out]; rfl, Below.refl _ _⟩
      · have hzi : ¬ (0 : Int) < (s.size : Int) := by omega
        go_wp2_with fail
        go_ret
        exact ⟨by rw [HV.out]; rfl, Below.refl _ _⟩
  | true =>
    have HBL := hid (bareL_ok hok)
    have hsz := wordOk_size hok
    clear hok
    go_enter Try.func83, Try.ntmps83
    go_wp2_with fail
    go_loopg [3, 4] s.size (fun gk o i wr => ∃ (k : Nat) (acc : ByteArray), k + gk = s.size ∧ i = .int .i64 k ∧ o = .string acc ∧ bareL s = acc.data.toList ++ bareFrom (prevB s.data.toList k) (s.data.toList.drop k) ∧ acc.size ≤ k ∧ Below w.heap.size w wr)
    case atStart => exact ⟨0, ⟨#[]⟩, Nat.zero_add _, rfl, rfl, by rw [HBL.out]; rfl, Nat.zero_le _, Below.refl _ _⟩
    case round =>
      obtain ⟨k, acc, hkg, rfl, rfl, hbl, hac, hb⟩ := hrel
      have HKG := hid hkg
      have HB := hid hb
      have HA := hid hbl
      have hk : k ≤ s.size := by omega
      clear hkg hb hbl
      by_cases hlt : k < s.size
      · have hlti : (k : Int) < (s.size : Int) := by omega
        have HST := hid (bare_step hlt)
        have hgb := gt_byte hlt
        obtain ⟨c, hc⟩ : ∃ c, gt s.data.toList k = c := ⟨_, rfl⟩
        rw [hc] at hgb HST
        have hvc := fun w1 => l2Vowel_any c w1
        rw [hgb] at hvc
        obtain ⟨v, hv⟩ : ∃ v, vowB c = v := ⟨_, rfl⟩
        have hv2 : vowB (s[k]'hlt) = v := by rw [← hgb]; exact hv
        rw [hv2] at hvc
        have Hcall := hid (fun pp : Aft wr.heap.size wr => aft_same (hvc pp.val))
        have HC := hid hc
        have HG := hid hgb
        have HVW := hid hv
        clear hc hgb hv hvc hv2
        cases v with
        | true =>
          have HSK := hid (show skipB s k = true by unfold skipB; rw [HC.out, HVW.out, Bool.true_or])
          go_wp2_with fail
          refine (HW.out _).mono ?_
          rintro e w1 ⟨rfl, rfl⟩
          go_wp2_with fail
          refine wp_region_aft (B := wr.heap.size) (w0 := wr) (Below.refl _ _) (by kernel_rfl) (by kernel_rfl) ?_
          repeat (go_big_quiet_step ((go_at_call 96; exact Hcall.out _)))
          refine wpQuiet_nil ?_
          rintro w3 ⟨⟨w4, hb4⟩, hw4⟩
          have hw5 : w3 = w4 := hw4
          clear hw4
          subst hw5
          have HB4 := hid (btr HB.out hb4)
          clear hb4
          go_wp2_with fail
          go_roundg (gk - 1)
          case measure => have := HKG.out; omega
          case rel => exact ⟨k + 1, acc, by have := HKG.out; omega, by go_num, rfl, by rw [HA.out, HST.out, HSK.out]; rfl, by omega, HB4.out⟩
        | false =>
          rcases Nat.eq_zero_or_pos k with hk0 | hkp
          · subst hk0
            have HSK := hid (show skipB s 0 = false by unfold skipB; rw [HC.out, HVW.out]; rfl)
            go_wp2_with fail
            refine (HW.out _).mono ?_
            rintro e w1 ⟨rfl, rfl⟩
            go_wp2_with fail
            refine wp_region_aft (B := wr.heap.size) (w0 := wr) (Below.refl _ _) (by kernel_rfl) (by kernel_rfl) ?_
            repeat (go_big_quiet_step ((go_at_call 96; exact Hcall.out _)))
            refine wpQuiet_nil ?_
            rintro w3 ⟨⟨w4, hb4⟩, hw4⟩
            have hw5 : w3 = w4 := hw4
            clear hw4
            subst hw5
            have HB4 := hid (btr HB.out hb4)
            clear hb4
            go_wp2_with fail
            go_roundg (gk - 1)
            case measure => have := HKG.out; omega
            case rel => exact ⟨1, _, by have := HKG.out; omega, by go_num, rfl, by rw [HA.out, HST.out, HSK.out, (app_one hlt acc).1, HC.out, List.append_assoc]; rfl, by rw [(app_one hlt acc).2]; omega, HB4.out⟩
          · obtain ⟨j, hkj⟩ : ∃ j, k = j + 1 := ⟨k - 1, by omega⟩
            have hpk : prevB s.data.toList k = some (gt s.data.toList j) := by rw [hkj]; rfl
            have hz0 : ((k : Int) == 0) = false := by simp; omega
            have hwj : IntKind.i64.wrap ((k : Int) - 1) = (j : Int) := by rw [show (k : Int) - 1 = (j : Int) by omega]; exact IntWalk.i64_in _ (by omega)
            have hjl : j < s.size := by omega
            have hgj := gt_byte hjl
            by_cases hp : s[j]'hjl = c
            · have HSK := hid (show skipB s k = true by
                unfold skipB
                rw [hpk, HC.out, hgj, hp]
                simp)
              have hnq : (((s[j]'hjl).toNat : Int) != ((s[k]'hlt).toNat : Int)) = false := by rw [← HG.out, hp]; simp
              clear hp hgj hkp hkj hpk
              go_wp2_with fail
              refine (HW.out _).mono ?_
              rintro e w1 ⟨rfl, rfl⟩
              go_wp2_with fail
              refine wp_region_aft (B := wr.heap.size) (w0 := wr) (Below.refl _ _) (by kernel_rfl) (by kernel_rfl) ?_
              repeat (go_big_quiet_step ((go_at_call 96; exact Hcall.out _)))
              refine wpQuiet_nil ?_
              rintro w3 ⟨⟨w4, hb4⟩, hw4⟩
              have hw5 : w3 = w4 := hw4
              clear hw4
              subst hw5
              have HB4 := hid (btr HB.out hb4)
              clear hb4
              go_wp2_with fail
              go_roundg (gk - 1)
              case measure => have := HKG.out; omega
              case rel => exact ⟨k + 1, acc, by have := HKG.out; omega, by go_num, rfl, by rw [HA.out, HST.out, HSK.out]; rfl, by omega, HB4.out⟩
            · have HSK := hid (show skipB s k = false by
                unfold skipB
                rw [hpk, HC.out, hgj, HVW.out]
                simp only [Option.some.injEq, Bool.false_or, decide_eq_false_iff_not]
                exact hp)
              have hnq : (((s[j]'hjl).toNat : Int) != ((s[k]'hlt).toNat : Int)) = true := by
                rw [← HG.out]
                simp only [bne_iff_ne, ne_eq]
                intro e
                exact hp (UInt8.toNat_inj.1 (by omega))
              clear hp hgj hkp hkj hpk
              go_wp2_with fail
              refine (HW.out _).mono ?_
              rintro e w1 ⟨rfl, rfl⟩
              go_wp2_with fail
              refine wp_region_aft (B := wr.heap.size) (w0 := wr) (Below.refl _ _) (by kernel_rfl) (by kernel_rfl) ?_
              repeat (go_big_quiet_step ((go_at_call 96; exact Hcall.out _)))
              refine wpQuiet_nil ?_
              rintro w3 ⟨⟨w4, hb4⟩, hw4⟩
              have hw5 : w3 = w4 := hw4
              clear hw4
              subst hw5
              have HB4 := hid (btr HB.out hb4)
              clear hb4
              go_wp2_with fail
              go_roundg (gk - 1)
              case measure => have := HKG.out; omega
              case rel => exact ⟨k + 1, _, by have := HKG.out; omega, by go_num, rfl, by rw [HA.out, HST.out, HSK.out, (app_one hlt acc).1, HC.out, List.append_assoc]; rfl, by rw [(app_one hlt acc).2]; omega, HB4.out⟩
      · obtain rfl : k = s.size := by omega
        have hni : ¬ (s.size : Int) < (s.size : Int) := by omega
        go_wp2_with fail
        go_ret
        refine ⟨?_, HB.out⟩
        have h1 := HA.out
        rw [size_len, List.drop_length] at h1
        have h2 : bareV s = acc := str_ext (by show (bareL s) = _; rw [h1]; simp [bareFrom])
        rw [h2]
        rfl
end Go.Proofs.Ytigemahbopligaa
