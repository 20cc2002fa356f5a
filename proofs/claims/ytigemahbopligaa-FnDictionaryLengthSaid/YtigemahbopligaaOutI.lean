/- Outlines of words: what the program's outline returns. -/
import Derived.Test.YtigemahbopligaaSysI
import Derived.Test.YtigemahbopligaaSysS3
import Derived.Test.YtigemahbopligaaLine3
namespace Go.Proofs.Ytigemahbopligaa
open Go.RowKit Go.Maps
attribute [local go_sem] Oper.semAt_some
theorem sysOk_from {l : List SignT} (h : sysOk l = true) : sysFrom [] l = true := by
  unfold sysOk at h
  rw [Bool.and_eq_true] at h
  exact h.2
/-- A letter's stroke, looked up. -/
theorem look_at {w : World} {b : Nat} {l : List SignT} (h : MapL w b (kvS l)) (hok : sysOk l = true) (c : UInt8) :
    (Instr.lookup 116 (.map (some b)) (.int .u8 (c.toNat : Int)) true).run Try.prog w = .ok (strokeR (strokeAt l c)) w := by
  have hf := sysOk_from hok
  have hl : ∀ x ∈ l, x.1.data.toList = [byte0 x.1] := fun x hx => (byte0_one (sign_size (sys_all hf x hx))).2
  rcases look_letter h c with ⟨x, hx, e, hr⟩ | ⟨hn, hr⟩
  · rw [strokeAt_mem hf x hx c (by rw [hl x hx, e])]
    exact hr
  · rw [strokeAt_none (fun x hx e => hn x hx ((List.cons.inj (e.symm.trans (hl x hx))).1.symm))]
    exact hr
set_option maxRecDepth 100000 in
set_option maxHeartbeats 2000000 in
theorem implOutline_any (b : Nat) (l : List SignT) (s : ByteArray) (w : World) (hM : MapL w b (kvS l)) (hok : sysOk l = true) (hs : s.size ≤ 9223372036854775807) :
    Calls Try.prog 79 #[.map (some b), .string s] w (RetO w (outW l s)) := by
  obtain ⟨i0, hi1, hz0, hz1, hz2⟩ := info_parts (show (Try.prog.info? 64).map (fun i => (i.zero, i.size, i.bytes)) = some (some (.agg #[.int .i64 0, .int .i64 0]), 2, 16) by kernel_rfl)
  have HI := hid (And.intro hi1 (And.intro hz0 (And.intro hz1 hz2)))
  clear hi1 hz0 hz1 hz2
  have HM := hid hM
  have HOK := hid hok
  have HWV := hid (fun w => implWordValid_any s w hs)
  have HOW := hid (show outW l s = outlineW l s by unfold outW; rw [hok]; rfl)
  clear hM hok
  obtain ⟨wo, hwo⟩ : ∃ wo, wordOk s = wo := ⟨_, rfl⟩
  have HWO := hid hwo
  cases wo with
  | false =>
    have HV := hid (show outW l s = none by rw [HOW.out, outlineW_no hwo])
    clear hwo
    go_enter Try.func79, Try.ntmps79
    go_wp2_with fail
    refine (HWV.out _).mono ?_
    rw [HWO.out]
    rintro e w1 ⟨rfl, rfl⟩
    go_wp2_with fail
    go_ret2
    rw [HV.out]
    exact ⟨_, 0, 0, rfl, rfl, OwnR.nil0, Below.refl _ _⟩
  | true =>
    have HV := hid (show outW l s = match strokesOf l (bareL s) with
        | none => none
        | some o => if outOk o then some o else none by rw [HOW.out, outlineW_of hwo]; rfl)
    clear hwo
    go_enter Try.func79, Try.ntmps79
    go_wp2_with fail
    refine (HWV.out _).mono ?_
    rw [HWO.out]
    rintro e w1 ⟨rfl, rfl⟩
    go_wp2_with fail
    refine (implWordBare_any s _ hs).mono ?_
    rintro e w3 ⟨rfl, hb3⟩
    have hz3 := hb3.size
    have ON := hid (show OwnR strokeS w.heap.size (w3.alloc (.cells #[] 64)) 64 (.slice (some ⟨w3.heap.size, 0, none⟩) 0 0) [] from OwnR.nil hz3 #[] rfl)
    have HB3 := hid (hb3.trans ((bnew w3 (.cells #[] 64)).mono hz3))
    clear hb3
    obtain ⟨B, hB⟩ : ∃ B, bareV s = B := ⟨_, rfl⟩
    have hBs := bareV_size s
    rw [hB] at hBs ⊢
    have HBL := hid (show B.data.toList = bareL s by rw [← hB]; rfl)
    clear hB
    go_wp2_with fail
    go_loopg [7, 8, 9, 10, 19] B.size (fun gk v _ _ _ i wr => ∃ (k : Nat) (A5 : Option Addr) (c5 : Nat) (acc : List (Int × Int)), k + gk = B.size ∧ i = .int .i64 k ∧ v = .slice A5 k c5 ∧ OwnR strokeS w.heap.size wr 64 (.slice A5 k c5) acc ∧ strokesOf l (bareL s) = (strokesOf l ((bareL s).drop k)).map (acc ++ ·) ∧ acc.length = k ∧ Below w.heap.size w wr)
    case atStart => exact ⟨0, _, _, [], Nat.zero_add _, rfl, rfl, ON.out, by simp, rfl, HB3.out⟩
    case round =>
      obtain ⟨k, A5, c5, acc, hkg, rfl, rfl, hO, hst, hal, hb⟩ := hrel
      have HKG := hid hkg
      have HO := hid hO
      have HST := hid hst
      have HB := hid hb
      have HAL := hid hal
      have hk : k ≤ B.size := by omega
      have hbz := hb.size
      clear hkg hO hst hb hal ON
      by_cases hlt : k < B.size
      case neg =>
        obtain rfl : k = B.size := by omega
        have hni : ¬ (B.size : Int) < (B.size : Int) := by omega
        have HF := hid (show strokesOf l (bareL s) = some acc by
          rw [HST.out, ← HBL.out, size_len, List.drop_length]
          simp [strokesOf])
        have HR := hid (HO.out.rd (by have := HAL.out; omega)).2
        go_wp2_with fail
        refine (implOutlineValid_any _ _ _ _ acc _ HR.out).mono ?_
        rintro e w4 ⟨rfl, hb4⟩
        have HO4 := hid (HO.out.bl hb4)
        have HB4 := hid (HB.out.trans (hb4.mono hbz))
        clear hb4
        obtain ⟨oo, hoo⟩ : ∃ oo, outOk acc = oo := ⟨_, rfl⟩
        rw [hoo]
        have HOO := hid hoo
        clear hoo
        cases oo with
        | false =>
          have HVV := hid (show outW l s = none by rw [HV.out, HF.out]; simp [HOO.out])
          go_wp2_with fail
          go_ret2
          rw [HVV.out]
          exact ⟨_, 0, 0, rfl, rfl, OwnR.nil0, HB4.out⟩
        | true =>
          have HVV := hid (show outW l s = some acc by rw [HV.out, HF.out]; simp [HOO.out])
          go_wp2_with fail
          go_ret2
          rw [HVV.out]
          exact ⟨_, _, _, rfl, HAL.out.symm, HO4.out, HB4.out⟩
      case pos =>
        have hlti : (k : Int) < (B.size : Int) := by omega
        have hkl : k < (bareL s).length := by rw [← HBL.out]; exact hlt
        have HD := hid (strokes_drop (sys := l) hkl)
        have hgb := gt_byte hlt
        have hk63 : B.size ≤ 9223372036854775807 := by omega
        rw [HBL.out] at hgb
        rw [hgb] at HD
        have hlk := look_at (HM.out.bl ((HB.out).mono (Nat.le_refl _))) HOK.out (B[k]'hlt)
        clear hkl hgb
        obtain ⟨o, ho⟩ : ∃ o, strokeAt l (B[k]'hlt) = o := ⟨_, rfl⟩
        rw [ho] at hlk HD
        clear ho
        cases o with
        | none =>
          have HF := hid (show outW l s = none by rw [HV.out, HST.out, HD.out]; rfl)
          have hlk2 : (Instr.lookup 116 (.map (some b)) (.int .u8 ((B[k]'hlt).toNat : Int)) true).run Try.prog wr = .ok (.tuple #[.agg #[.int .i64 0, .int .i64 0], .bool false]) wr := hlk
          clear hlk
          go_wp2_with fail
          go_ret2
          rw [HF.out]
          exact ⟨_, 0, 0, rfl, rfl, OwnR.nil0, HB.out.trans ((bnew wr _).mono hbz)⟩
        | some p =>
          obtain ⟨d, z⟩ := p
          have hlk2 : (Instr.lookup 116 (.map (some b)) (.int .u8 ((B[k]'hlt).toNat : Int)) true).run Try.prog wr = .ok (.tuple #[.agg #[.int .i64 d, .int .i64 z], .bool true]) wr := hlk
          clear hlk
          have hal := HAL.out
          have hal12 : acc.length ≤ 12 := by omega
          clear hal
          go_wp2_with (at_builtin; go_loud (refine wpList_append_R rfl (.tmp 32) (.tmp 34) _ rfl strokeS Try.underlying24 HI.out rfl (by decide) (v := .slice A5 k c5) rfl ((HO.out.al _).al _) (y := (d, z)) (cs := [.int .i64 d, .int .i64 z]) rfl (heap_new2 _ _ _) rfl (by simp [Value.oneCell']) ⟨rfl, rfl⟩ (by omega) (by omega) (by simp; omega) ?_; intro A6 c6 w6 hO6 hb6; rw [HAL.out] at hO6 ⊢))
          have HO6 := hid hO6
          have HB6 := hid (HB.out.trans (((bal (bnew wr _) _).mono hbz).trans hb6))
          clear hO6 hb6 hlk2
          go_wp2_with fail
          go_roundg (gk - 1)
          case measure => have := HKG.out; omega
          case rel => exact ⟨k + 1, A6, c6, acc ++ [(d, z)], by have := HKG.out; omega, by go_num, rfl, HO6.out, by rw [HST.out, HD.out]; exact map_app _ _ _, by rw [List.length_append, HAL.out]; rfl, HB6.out⟩
end Go.Proofs.Ytigemahbopligaa
