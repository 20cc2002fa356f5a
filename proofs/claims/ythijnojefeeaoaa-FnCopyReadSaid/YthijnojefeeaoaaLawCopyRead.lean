/- The law FnCopyRead returns true for all arguments that can be read. -/
import Derived.Test.YthijnojefeeaoaaFew
import Derived.Test.YthijnojefeeaoaaDrawCR
import Derived.Test.YthijnojefeeaoaaCopyReadS
import Derived.Test.YthijnojefeeaoaaCopyMany
import Derived.Test.YthijnojefeeaoaaBriefV
import Derived.BigFrame
namespace Go.Proofs.Ythijnojefeeaoaa
open Go.RowKit
attribute [local go_sem] Oper.semAt_some
set_option maxRecDepth 100000 in
set_option maxHeartbeats 4000000 in
theorem lawCopyRead (A0 : Option Addr) (n0 c0 : Nat) (l0 : List UInt8) (A9 : Option Addr) (n9 c9 : Nat) (l9 : List UInt8) (w : World) (hnc : n0 ≤ c0) (hx : Rd byteS 0 w.heap.size w A0 n0 l0) (_hnc9 : n9 ≤ c9) (hx9 : Rd byteS 0 w.heap.size w A9 n9 l9) :
    Calls Try.prog 10 #[.slice A0 n0 c0, .slice A9 n9 c9] w fun e w' => e = .returned (.bool true) ∧ Below w.heap.size w w' := by
  obtain ⟨i0, hi1, hz0, hz1, hz2⟩ := info_parts (show (Try.prog.info? 9).map (fun i => (i.zero, i.size, i.bytes)) = some (some (.string ByteArray.empty), 1, 16) by kernel_rfl)
  have HI := hid (And.intro hi1 (And.intro hz0 (And.intro hz1 hz2)))
  clear hi1 hz0 hz1 hz2
  have hn63 := hx.2.1
  have HX := hid hx
  clear hx
  have hn93 := hx9.2.1
  clear hx9
  by_cases hn0 : n0 ≤ 1048576
  case neg =>
    have gn0 : (1048576 : Int) < (n0 : Int) := by omega
    go_enter Try.func10, Try.ntmps10
    go_wp2_with fail
    go_ret
    exact ⟨rfl, Below.refl _ _⟩
  by_cases hn9 : n9 ≤ 1048576
  case neg =>
    have gn9 : (1048576 : Int) < (n9 : Int) := by omega
    have gn0 : ¬ (1048576 : Int) < (n0 : Int) := by omega
    go_enter Try.func10, Try.ntmps10
    go_wp2_with fail
    go_ret
    exact ⟨rfl, Below.refl _ _⟩
  have gn0 : ¬ (1048576 : Int) < (n0 : Int) := by omega
  have gn9 : ¬ (1048576 : Int) < (n9 : Int) := by omega
  go_enter Try.func10, Try.ntmps10
  go_wp2_with fail
  refine (DrawCopyRead_any A0 n0 c0 l0 w hnc HX.out).mono ?_
  rintro e w1 ⟨A, n, c, bs, B, m, d, ts, rfl, ⟨hnc1, hn6, hsm⟩, ⟨hmd, hm8, hd63, hts⟩, hx1, hy1, hb1⟩
  have HB := hid hb1
  have RX1 := hid hx1
  have RY1 := hid hy1
  have HTS := hid hts
  clear hx1 hy1 hb1 hsm hts
  have HR := hid (implCopyRead_any A B n c m d bs ts w1 hnc1 RX1.out RY1.out)
  have HS := hid fun W hb => specCopyRead_any A B n c m d bs ts W (RX1.out.bl (w' := W) hb) (RY1.out.bl hb)
  have hlen : ((readV bs ts).getD []).length ≤ 20 := by
    cases h : readV bs ts with
    | none => simp
    | some V =>
      unfold readV at h
      split at h
      · exact readG_len h (by simp)
      · cases h
  obtain ⟨V, hV⟩ : ∃ V, readV bs ts = V := ⟨_, rfl⟩
  rw [hV] at HR HS hlen
  have HV := hid hV
  clear hV
  cases V with
  | none =>
    go_wp2_with fail
    refine HR.out.mono ?_
    intro e w2 hres
    have hres' := sb_rd hres (by simp)
    simp only [Option.getD_none, Option.isSome_none, List.length_nil] at hres'
    obtain ⟨F, fc, rfl, hfc, hfc63, hF, hb2⟩ := hres'
    have HB2 := hid hb2
    have RF := hid hF
    clear hF hb2 hres
    go_wp2_with fail
    refine (HS.out w2 HB2.out).mono ?_
    intro e w3 hres
    have hres' := sb_rd hres (by simp)
    simp only [Option.getD_none, Option.isSome_none, List.length_nil] at hres'
    obtain ⟨H, gc, rfl, hgc, hgc63, hG, hb3⟩ := hres'
    have RF3 := hid (RF.out.bl hb3)
    have RG3 := hid hG
    have HB3 := hid (btr HB2.out hb3)
    clear hG hb3 hres
    go_wp2_with fail
    refine (sameTexts_any _ _ _ _ _ _ _ _ _ _ _ RF3.out RG3.out).mono ?_
    rintro e w4 ⟨rfl, hb4⟩
    have HB4 := hid (btr HB3.out hb4)
    have RF4 := hid (RF3.out.bl hb4)
    have RG4 := hid (RG3.out.bl hb4)
    clear hb4
    rw [eqD_self]
    go_wp2_with fail
    refine (sameTexts_any _ _ _ _ _ _ _ _ _ _ _ RF4.out RG4.out).mono ?_
    rintro e w5 ⟨rfl, hb5⟩
    have HB5 := hid (btr HB4.out hb5)
    clear hb5
    rw [eqD_self]
    go_wp2_with fail
    go_ret
    exact ⟨rfl, HB.out.trans (HB5.out.mono HB.out.size)⟩
  | some V =>
    simp only [Option.getD_some] at hlen
    have HLN := hid hlen
    clear hlen
    go_wp2_with fail
    refine HR.out.mono ?_
    intro e w2 hres
    have hres' := sb_rd hres (by rw [Option.getD_some]; have := HLN.out; omega)
    simp only [Option.getD_some, Option.isSome_some] at hres'
    obtain ⟨F, fc, rfl, hfc, hfc63, hF, hb2⟩ := hres'
    have HB2 := hid hb2
    have RF := hid hF
    clear hF hb2 hres HR
    go_wp2_with fail
    refine (HS.out w2 HB2.out).mono ?_
    intro e w3 hres
    have hres' := sb_rd hres (by rw [Option.getD_some]; have := HLN.out; omega)
    simp only [Option.getD_some, Option.isSome_some] at hres'
    obtain ⟨H, gc, rfl, hgc, hgc63, hG, hb3⟩ := hres'
    have RF3 := hid (RF.out.bl hb3)
    have RG3 := hid hG
    have HB3 := hid (btr HB2.out hb3)
    clear hG hb3 hres HS
    go_wp2_with fail
    refine (sameTexts_any _ _ _ _ _ _ _ _ _ _ _ RF3.out RG3.out).mono ?_
    rintro e w4 ⟨rfl, hb4⟩
    have HB4 := hid (btr HB3.out hb4)
    have RF4 := hid (RF3.out.bl hb4)
    have RX4 := hid (RX1.out.bl HB4.out)
    have RY4 := hid (RY1.out.bl HB4.out)
    have HB5 := hid (HB.out.trans (HB4.out.mono HB.out.size))
    clear hb4 RF RF3 RG3 HB HB2 HB3 HB4 RX1 RY1
    rw [eqD_self]
    have hw1 : IntKind.i64.wrap ((m : Int) + 1) = (m : Int) + 1 := IntWalk.i64_in _ (by omega)
    obtain ⟨at_, hat⟩ : ∃ a, n9 % (m + 1) = a := ⟨_, rfl⟩
    have ham : at_ ≤ m := by rw [← hat]; exact Nat.le_of_lt_succ (Nat.mod_lt _ (by omega))
    have ha1 : (n9 : Int) % ((m : Int) + 1) = (at_ : Int) := by rw [← hat, Int.natCast_emod]; rfl
    have ha2 : Int.tmod (n9 : Int) ((m : Int) + 1) = (at_ : Int) := by rw [Int.tmod_eq_emod_of_nonneg (by omega)]; exact ha1
    have hm1n : ¬ (m : Int) + 1 = 0 := by omega
    have hm1b : ((m : Int) + 1 == 0) = false := by rw [beq_eq_false_iff_ne]; exact hm1n
    have hati : (at_ : Int) ≤ (m : Int) := by omega
    have hatd : (at_ : Int) ≤ (d : Int) := by omega
    have hatdn : at_ ≤ d := by omega
    obtain ⟨xa, xb, g1, g2, g3, g4, g5, g6, g7⟩ := read_law HV.out at_
    have hs1 := RY4.out.sub (i := 0) (j := at_) (Nat.zero_le _) ham B (fun b off e _ => by rw [e, Nat.zero_mul, Nat.add_zero])
    rw [Nat.sub_zero, List.drop_zero] at hs1
    have hRa := implCopyRead_any A B n c at_ d bs (ts.take at_) w4 hnc1 RX4.out hs1
    rw [g1] at hRa
    have HRA := hid hRa
    have hxl : xa.length + xb.length = V.length := by rw [← g3, List.length_append]
    have hV20 := HLN.out
    have HG := hid (And.intro g2 (And.intro g3 (And.intro g4 (And.intro g5 (And.intro g6 g7)))))
    have HXL := hid hxl
    have hmt := hid RY4.out.1
    clear hat ha1 hs1 hRa g1 g2 g3 g4 g5 g6 g7 hxl
    go_wp2_with fail
    refine HRA.out.mono ?_
    intro e w5 hres
    have hres' := sb_rd hres (by rw [Option.getD_some]; have := HXL.out; omega)
    simp only [Option.getD_some, Option.isSome_some] at hres'
    obtain ⟨A12, c12, rfl, h12, _, hR12, hb5⟩ := hres'
    have RA := hid hR12
    have RX := hid (RX4.out.bl hb5)
    have RY := hid (RY4.out.bl hb5)
    have RF := hid (RF4.out.bl hb5)
    have HB := hid (HB5.out.trans (hb5.mono HB5.out.size))
    clear hres hR12 hb5 HRA RX4 RY4 RF4 HB5
    have hsub2 : ∀ A2 : Option Addr, (∀ b off, B = some ⟨b, off, none⟩ → at_ < m → A2 = some ⟨b, off + at_, none⟩) → Rd strS 0 w5.heap.size w5 A2 (m - at_) (ts.drop at_) := fun A2 hA2 => by
      have := RY.out.sub (i := at_) (j := m) ham (Nat.le_refl _) A2 (fun b off e hl => by rw [show strS.sz = 1 from rfl, Nat.mul_one]; exact hA2 b off e hl)
      rwa [List.take_of_length_le (by rw [← hmt.out]; exact Nat.le_refl _)] at this
    have call2 : ∀ A2 : Option Addr, (∀ b off, B = some ⟨b, off, none⟩ → at_ < m → A2 = some ⟨b, off + at_, none⟩) → Calls Try.prog 48 #[.slice A n c, .slice A2 (m - at_) (d - at_)] w5 (RetSB w5 (some xb)) := fun A2 hA2 => by
      have := implCopyRead_any A A2 n c (m - at_) (d - at_) bs (ts.drop at_) w5 hnc1 RX.out (hsub2 A2 hA2)
      rwa [HG.out.1] at this
    have HL := hid call2
    clear call2 hsub2
    have hspl : (m = 0 ∧ at_ = 0) ∨ (0 < m ∧ d = at_) ∨ (0 < m ∧ ¬ d = at_) := by omega
    rcases hspl with ⟨hm0, ha0⟩ | ⟨hm0, hda⟩ | ⟨hm0, hda⟩
    · subst hm0 ha0
      simp only [Nat.sub_zero] at HL
      go_wp2_with fail
      refine (HL.out B (fun _ _ _ h => absurd h (Nat.lt_irrefl _))).mono ?_
      intro e w6 hres
      have hres' := sb_rd hres (by rw [Option.getD_some]; have := HXL.out; omega)
      simp only [Option.getD_some, Option.isSome_some] at hres'
      obtain ⟨A14, c14, rfl, h14, _, hR14, hb6⟩ := hres'
      have RB := hid hR14
      have RA6 := hid (RA.out.bl hb6)
      have RX6 := hid (RX.out.bl hb6)
      have RY6 := hid (RY.out.bl hb6)
      have RF6 := hid (RF.out.bl hb6)
      have HB6 := hid (HB.out.trans (hb6.mono HB.out.size))
      clear hres hR14 hb6 HL RA RX RY RF HB
      have HO6 := hid (OwnR.nil (S := strS) (e := 9) (base := w6.heap.size) (w := w6) (Nat.le_refl _) #[] rfl)
      have HBN := hid (bnew w6 (.cells #[] 9))
      have hal : xa.length ≤ 20 := by have := HXL.out; omega
      have hbl : xb.length ≤ 20 := by have := HXL.out; omega
      go_wp2_with (at_builtin; first
        | (refine Go.BigFrame.wpList_want rfl ?_; intro K hK; refine wp_append_strs (.tmp 89) (.tmp 90) _ rfl Try.underlying24 HI.out rfl rfl HO6.out rfl rfl (RA6.out.bl HBN.out) (by simp; omega) (by simp) ?_; intro A7 c7 w7 hO7 hc7 hv7; refine hK _ _ ?_; rw [List.nil_append, List.length_nil, Nat.zero_add] at hO7; have hb7 : Below w6.heap.size w6 w7 := ⟨hc7.os, hc7.tape, hc7.output, Nat.le_trans (by rw [World.size_alloc]; omega) hc7.size, fun i hi => (hc7.block i (by rw [World.size_alloc]; omega) (fun e => by have e' : some w6.heap.size = some i := e; injection e' with e'; omega)).trans (HBN.out.block i hi)⟩; have HO7 := hid hO7; have HB7 := hid hb7; have RB7 := hid (RB.out.bl hb7); clear hO7 hb7)
        | (refine Go.BigFrame.wpList_want rfl ?_; intro K hK; refine wp_append_strs (.tmp 91) (.tmp 92) _ rfl Try.underlying24 HI.out rfl rfl HO7.out rfl rfl RB7.out (by omega) HB7.out.size ?_; intro A8 c8 w8 hO8 hc8 hv8; refine hK _ _ ?_; have hb8 : Below w6.heap.size w6 w8 := HB7.out.trans ⟨hc8.os, hc8.tape, hc8.output, hc8.size, fun i hi => hc8.block i (Nat.lt_of_lt_of_le hi HB7.out.size) (fun e => by have := (HO7.out.own_lt e).1; omega)⟩; rw [HG.out.2.1, HXL.out] at hO8; rw [HXL.out]; have HO8 := hid hO8; have HB8 := hid hb8; clear hO8 hb8))
      have HJ := hid ((HO8.out.rd (by have := HLN.out; omega)).2.wide (lo' := 0) (hi' := w8.heap.size) (Nat.zero_le _) (Nat.le_refl _))
      refine (sameTexts_any _ _ _ _ _ _ _ _ _ _ _ HJ.out (RF6.out.bl HB8.out)).mono ?_
      rintro e w9 ⟨rfl, hb9⟩
      have HB9 := hid (btr HB8.out hb9)
      clear hb9
      rw [eqD_self]
      have RF9 := hid (RF6.out.bl HB9.out)
      have RX9 := hid (RX6.out.bl HB9.out)
      have RY9 := hid (RY6.out.bl HB9.out)
      have HE := hid (And.intro HB6.out.size HB9.out)
      clear HJ HO8 HB8 RF6 RX6 RY6
      have hsv := implSpeechValid_any F V.length fc 0 V w9 RF9.out
      rw [HG.out.2.2.2.1] at hsv
      have HSV := hid hsv
      clear hsv
      go_wp2_with fail
      refine HSV.out.mono ?_
      rintro e w10 ⟨rfl, rfl⟩
      have hdk : deskOk bs V = true := by unfold deskOk; rw [HG.out.2.2.1, HG.out.2.2.2.1]; rfl
      have hM := implCopyMany_any A F n c V.length fc bs V w9 hnc1 hfc hfc63 RX9.out RF9.out
      obtain ⟨M, hMM⟩ : ∃ M, manyV bs V = M := ⟨_, rfl⟩
      have hM1 : 1 ≤ M := by rw [← hMM]; unfold manyV; rw [hdk]; exact (manyL_bd HG.out.2.2.1 V).2
      rw [hMM] at hM
      have HM := hid hM
      have HDK := hid hdk
      clear hM hMM hdk HSV
      go_wp2_with fail
      refine HM.out.mono ?_
      rintro e w10 ⟨rfl, hb10⟩
      have RF10 := hid (RF9.out.bl hb10)
      have RX10 := hid (RX9.out.bl hb10)
      have RY10 := hid (RY9.out.bl hb10)
      have HB10 := hid (btr HE.out.2 hb10)
      clear hb10 HM RF9 RX9 RY9
      have hC := implCopyCost_any A B n c 0 d bs ts w10 hnc1 RX10.out RY10.out (by omega) (fun s hs => by have := HTS.out s hs; omega)
      obtain ⟨C, hCC⟩ : ∃ C, costV bs ts = C := ⟨_, rfl⟩
      have hC1 : C = letters ts := by rw [← hCC]; unfold costV; rw [HV.out]
      rw [hCC] at hC
      have HC := hid hC
      have HL1 := hid fun W (hb : Below w10.heap.size w10 W) => implCopyLeast_any A F n c V.length fc bs V W hnc1 hfc hfc63 (RX10.out.bl hb) (RF10.out.bl hb)
      obtain ⟨L, hLL⟩ : ∃ L, leastV 1 0 bs V = L := ⟨_, rfl⟩
      have hLC : L ≤ C := by rw [← hLL, hC1]; unfold leastV; rw [HDK.out]; exact HG.out.2.2.2.2.1
      have HL2 := hid fun W (hb : Below w10.heap.size w10 W) => implCopyShort_any A F n c V.length fc bs V W hnc1 hfc hfc63 (RX10.out.bl hb) (RF10.out.bl hb)
      obtain ⟨Sv, hSS⟩ : ∃ Sv, leastV 0 1 bs V = Sv := ⟨_, rfl⟩
      have hSm : Sv ≤ (0 : Int) := by
        have h := HG.out.2.2.2.2.2
        rw [← hmt.out] at h
        rw [← hSS]
        unfold leastV
        rw [HDK.out]
        exact h
      rw [hLL] at HL1
      rw [hSS] at HL2
      clear hC hCC hC1 hLL hSS
      go_wp2_with fail
      refine HC.out.mono ?_
      rintro e w11 ⟨rfl, hb11⟩
      have HB11 := hid hb11
      clear hb11
      go_wp2_with fail
      refine (HL1.out w11 HB11.out).mono ?_
      rintro e w12 ⟨rfl, hb12⟩
      have HB12 := hid (btr HB11.out hb12)
      clear hb12
      go_wp2_with fail
      refine (HL2.out w12 HB12.out).mono ?_
      rintro e w13 ⟨rfl, hb13⟩
      have HB13 := hid (btr HB12.out hb13)
      clear hb13
      go_wp2_with fail
      go_ret
      exact ⟨rfl, HB6.out.trans ((HB10.out.trans (HB13.out.mono HB10.out.size)).mono HB6.out.size)⟩
    · obtain ⟨bB, oB, rfl, _, hbB, _⟩ := RY.out.2.2 hm0
      obtain rfl : at_ = m := by omega
      subst hda
      simp only [Nat.sub_self] at HL
      go_wp2_with fail
      refine (HL.out _ (fun _ _ _ h => absurd h (Nat.lt_irrefl _))).mono ?_
      intro e w6 hres
      have hres' := sb_rd hres (by rw [Option.getD_some]; have := HXL.out; omega)
      simp only [Option.getD_some, Option.isSome_some] at hres'
      obtain ⟨A14, c14, rfl, h14, _, hR14, hb6⟩ := hres'
      have RB := hid hR14
      have RA6 := hid (RA.out.bl hb6)
      have RX6 := hid (RX.out.bl hb6)
      have RY6 := hid (RY.out.bl hb6)
      have RF6 := hid (RF.out.bl hb6)
      have HB6 := hid (HB.out.trans (hb6.mono HB.out.size))
      clear hres hR14 hb6 HL RA RX RY RF HB
      have HO6 := hid (OwnR.nil (S := strS) (e := 9) (base := w6.heap.size) (w := w6) (Nat.le_refl _) #[] rfl)
      have HBN := hid (bnew w6 (.cells #[] 9))
      have hal : xa.length ≤ 20 := by have := HXL.out; omega
      have hbl : xb.length ≤ 20 := by have := HXL.out; omega
      go_wp2_with (at_builtin; first
        | (refine Go.BigFrame.wpList_want rfl ?_; intro K hK; refine wp_append_strs (.tmp 89) (.tmp 90) _ rfl Try.underlying24 HI.out rfl rfl HO6.out rfl rfl (RA6.out.bl HBN.out) (by simp; omega) (by simp) ?_; intro A7 c7 w7 hO7 hc7 hv7; refine hK _ _ ?_; rw [List.nil_append, List.length_nil, Nat.zero_add] at hO7; have hb7 : Below w6.heap.size w6 w7 := ⟨hc7.os, hc7.tape, hc7.output, Nat.le_trans (by rw [World.size_alloc]; omega) hc7.size, fun i hi => (hc7.block i (by rw [World.size_alloc]; omega) (fun e => by have e' : some w6.heap.size = some i := e; injection e' with e'; omega)).trans (HBN.out.block i hi)⟩; have HO7 := hid hO7; have HB7 := hid hb7; have RB7 := hid (RB.out.bl hb7); clear hO7 hb7)
        | (refine Go.BigFrame.wpList_want rfl ?_; intro K hK; refine wp_append_strs (.tmp 91) (.tmp 92) _ rfl Try.underlying24 HI.out rfl rfl HO7.out rfl rfl RB7.out (by omega) HB7.out.size ?_; intro A8 c8 w8 hO8 hc8 hv8; refine hK _ _ ?_; have hb8 : Below w6.heap.size w6 w8 := HB7.out.trans ⟨hc8.os, hc8.tape, hc8.output, hc8.size, fun i hi => hc8.block i (Nat.lt_of_lt_of_le hi HB7.out.size) (fun e => by have := (HO7.out.own_lt e).1; omega)⟩; rw [HG.out.2.1, HXL.out] at hO8; rw [HXL.out]; have HO8 := hid hO8; have HB8 := hid hb8; clear hO8 hb8))
      have HJ := hid ((HO8.out.rd (by have := HLN.out; omega)).2.wide (lo' := 0) (hi' := w8.heap.size) (Nat.zero_le _) (Nat.le_refl _))
      refine (sameTexts_any _ _ _ _ _ _ _ _ _ _ _ HJ.out (RF6.out.bl HB8.out)).mono ?_
      rintro e w9 ⟨rfl, hb9⟩
      have HB9 := hid (btr HB8.out hb9)
      clear hb9
      rw [eqD_self]
      have RF9 := hid (RF6.out.bl HB9.out)
      have RX9 := hid (RX6.out.bl HB9.out)
      have RY9 := hid (RY6.out.bl HB9.out)
      have HE := hid (And.intro HB6.out.size HB9.out)
      clear HJ HO8 HB8 RF6 RX6 RY6
      have hsv := implSpeechValid_any F V.length fc 0 V w9 RF9.out
      rw [HG.out.2.2.2.1] at hsv
      have HSV := hid hsv
      clear hsv
      go_wp2_with fail
      refine HSV.out.mono ?_
      rintro e w10 ⟨rfl, rfl⟩
      have hdk : deskOk bs V = true := by unfold deskOk; rw [HG.out.2.2.1, HG.out.2.2.2.1]; rfl
      have hM := implCopyMany_any A F n c V.length fc bs V w9 hnc1 hfc hfc63 RX9.out RF9.out
      obtain ⟨M, hMM⟩ : ∃ M, manyV bs V = M := ⟨_, rfl⟩
      have hM1 : 1 ≤ M := by rw [← hMM]; unfold manyV; rw [hdk]; exact (manyL_bd HG.out.2.2.1 V).2
      rw [hMM] at hM
      have HM := hid hM
      have HDK := hid hdk
      clear hM hMM hdk HSV
      go_wp2_with fail
      refine HM.out.mono ?_
      rintro e w10 ⟨rfl, hb10⟩
      have RF10 := hid (RF9.out.bl hb10)
      have RX10 := hid (RX9.out.bl hb10)
      have RY10 := hid (RY9.out.bl hb10)
      have HB10 := hid (btr HE.out.2 hb10)
      clear hb10 HM RF9 RX9 RY9
      have hC := implCopyCost_any A (some ⟨bB, oB, none⟩) n c d d bs ts w10 hnc1 RX10.out RY10.out (by omega) (fun s hs => by have := HTS.out s hs; omega)
      obtain ⟨C, hCC⟩ : ∃ C, costV bs ts = C := ⟨_, rfl⟩
      have hC1 : C = letters ts := by rw [← hCC]; unfold costV; rw [HV.out]
      rw [hCC] at hC
      have HC := hid hC
      have HL1 := hid fun W (hb : Below w10.heap.size w10 W) => implCopyLeast_any A F n c V.length fc bs V W hnc1 hfc hfc63 (RX10.out.bl hb) (RF10.out.bl hb)
      obtain ⟨L, hLL⟩ : ∃ L, leastV 1 0 bs V = L := ⟨_, rfl⟩
      have hLC : L ≤ C := by rw [← hLL, hC1]; unfold leastV; rw [HDK.out]; exact HG.out.2.2.2.2.1
      have HL2 := hid fun W (hb : Below w10.heap.size w10 W) => implCopyShort_any A F n c V.length fc bs V W hnc1 hfc hfc63 (RX10.out.bl hb) (RF10.out.bl hb)
      obtain ⟨Sv, hSS⟩ : ∃ Sv, leastV 0 1 bs V = Sv := ⟨_, rfl⟩
      have hSm : Sv ≤ (d : Int) := by
        have h := HG.out.2.2.2.2.2
        rw [← hmt.out] at h
        rw [← hSS]
        unfold leastV
        rw [HDK.out]
        exact h
      rw [hLL] at HL1
      rw [hSS] at HL2
      clear hC hCC hC1 hLL hSS
      go_wp2_with fail
      refine HC.out.mono ?_
      rintro e w11 ⟨rfl, hb11⟩
      have HB11 := hid hb11
      clear hb11
      go_wp2_with fail
      refine (HL1.out w11 HB11.out).mono ?_
      rintro e w12 ⟨rfl, hb12⟩
      have HB12 := hid (btr HB11.out hb12)
      clear hb12
      go_wp2_with fail
      refine (HL2.out w12 HB12.out).mono ?_
      rintro e w13 ⟨rfl, hb13⟩
      have HB13 := hid (btr HB12.out hb13)
      clear hb13
      go_wp2_with fail
      go_ret
      exact ⟨rfl, HB6.out.trans ((HB10.out.trans (HB13.out.mono HB10.out.size)).mono HB6.out.size)⟩
    · obtain ⟨bB, oB, rfl, _, hbB, _⟩ := RY.out.2.2 hm0
      go_wp2_with fail
      refine (HL.out _ (fun b off e hl => by injection e with e; injection e with e1 e2 _; subst e1 e2; rfl)).mono ?_
      intro e w6 hres
      have hres' := sb_rd hres (by rw [Option.getD_some]; have := HXL.out; omega)
      simp only [Option.getD_some, Option.isSome_some] at hres'
      obtain ⟨A14, c14, rfl, h14, _, hR14, hb6⟩ := hres'
      have RB := hid hR14
      have RA6 := hid (RA.out.bl hb6)
      have RX6 := hid (RX.out.bl hb6)
      have RY6 := hid (RY.out.bl hb6)
      have RF6 := hid (RF.out.bl hb6)
      have HB6 := hid (HB.out.trans (hb6.mono HB.out.size))
      clear hres hR14 hb6 HL RA RX RY RF HB
      have HO6 := hid (OwnR.nil (S := strS) (e := 9) (base := w6.heap.size) (w := w6) (Nat.le_refl _) #[] rfl)
      have HBN := hid (bnew w6 (.cells #[] 9))
      have hal : xa.length ≤ 20 := by have := HXL.out; omega
      have hbl : xb.length ≤ 20 := by have := HXL.out; omega
      go_wp2_with (at_builtin; first
        | (refine Go.BigFrame.wpList_want rfl ?_; intro K hK; refine wp_append_strs (.tmp 89) (.tmp 90) _ rfl Try.underlying24 HI.out rfl rfl HO6.out rfl rfl (RA6.out.bl HBN.out) (by simp; omega) (by simp) ?_; intro A7 c7 w7 hO7 hc7 hv7; refine hK _ _ ?_; rw [List.nil_append, List.length_nil, Nat.zero_add] at hO7; have hb7 : Below w6.heap.size w6 w7 := ⟨hc7.os, hc7.tape, hc7.output, Nat.le_trans (by rw [World.size_alloc]; omega) hc7.size, fun i hi => (hc7.block i (by rw [World.size_alloc]; omega) (fun e => by have e' : some w6.heap.size = some i := e; injection e' with e'; omega)).trans (HBN.out.block i hi)⟩; have HO7 := hid hO7; have HB7 := hid hb7; have RB7 := hid (RB.out.bl hb7); clear hO7 hb7)
        | (refine Go.BigFrame.wpList_want rfl ?_; intro K hK; refine wp_append_strs (.tmp 91) (.tmp 92) _ rfl Try.underlying24 HI.out rfl rfl HO7.out rfl rfl RB7.out (by omega) HB7.out.size ?_; intro A8 c8 w8 hO8 hc8 hv8; refine hK _ _ ?_; have hb8 : Below w6.heap.size w6 w8 := HB7.out.trans ⟨hc8.os, hc8.tape, hc8.output, hc8.size, fun i hi => hc8.block i (Nat.lt_of_lt_of_le hi HB7.out.size) (fun e => by have := (HO7.out.own_lt e).1; omega)⟩; rw [HG.out.2.1, HXL.out] at hO8; rw [HXL.out]; have HO8 := hid hO8; have HB8 := hid hb8; clear hO8 hb8))
      have HJ := hid ((HO8.out.rd (by have := HLN.out; omega)).2.wide (lo' := 0) (hi' := w8.heap.size) (Nat.zero_le _) (Nat.le_refl _))
      refine (sameTexts_any _ _ _ _ _ _ _ _ _ _ _ HJ.out (RF6.out.bl HB8.out)).mono ?_
      rintro e w9 ⟨rfl, hb9⟩
      have HB9 := hid (btr HB8.out hb9)
      clear hb9
      rw [eqD_self]
      have RF9 := hid (RF6.out.bl HB9.out)
      have RX9 := hid (RX6.out.bl HB9.out)
      have RY9 := hid (RY6.out.bl HB9.out)
      have HE := hid (And.intro HB6.out.size HB9.out)
      clear HJ HO8 HB8 RF6 RX6 RY6
      have hsv := implSpeechValid_any F V.length fc 0 V w9 RF9.out
      rw [HG.out.2.2.2.1] at hsv
      have HSV := hid hsv
      clear hsv
      go_wp2_with fail
      refine HSV.out.mono ?_
      rintro e w10 ⟨rfl, rfl⟩
      have hdk : deskOk bs V = true := by unfold deskOk; rw [HG.out.2.2.1, HG.out.2.2.2.1]; rfl
      have hM := implCopyMany_any A F n c V.length fc bs V w9 hnc1 hfc hfc63 RX9.out RF9.out
      obtain ⟨M, hMM⟩ : ∃ M, manyV bs V = M := ⟨_, rfl⟩
      have hM1 : 1 ≤ M := by rw [← hMM]; unfold manyV; rw [hdk]; exact (manyL_bd HG.out.2.2.1 V).2
      rw [hMM] at hM
      have HM := hid hM
      have HDK := hid hdk
      clear hM hMM hdk HSV
      go_wp2_with fail
      refine HM.out.mono ?_
      rintro e w10 ⟨rfl, hb10⟩
      have RF10 := hid (RF9.out.bl hb10)
      have RX10 := hid (RX9.out.bl hb10)
      have RY10 := hid (RY9.out.bl hb10)
      have HB10 := hid (btr HE.out.2 hb10)
      clear hb10 HM RF9 RX9 RY9
      have hC := implCopyCost_any A (some ⟨bB, oB, none⟩) n c m d bs ts w10 hnc1 RX10.out RY10.out (by omega) (fun s hs => by have := HTS.out s hs; omega)
      obtain ⟨C, hCC⟩ : ∃ C, costV bs ts = C := ⟨_, rfl⟩
      have hC1 : C = letters ts := by rw [← hCC]; unfold costV; rw [HV.out]
      rw [hCC] at hC
      have HC := hid hC
      have HL1 := hid fun W (hb : Below w10.heap.size w10 W) => implCopyLeast_any A F n c V.length fc bs V W hnc1 hfc hfc63 (RX10.out.bl hb) (RF10.out.bl hb)
      obtain ⟨L, hLL⟩ : ∃ L, leastV 1 0 bs V = L := ⟨_, rfl⟩
      have hLC : L ≤ C := by rw [← hLL, hC1]; unfold leastV; rw [HDK.out]; exact HG.out.2.2.2.2.1
      have HL2 := hid fun W (hb : Below w10.heap.size w10 W) => implCopyShort_any A F n c V.length fc bs V W hnc1 hfc hfc63 (RX10.out.bl hb) (RF10.out.bl hb)
      obtain ⟨Sv, hSS⟩ : ∃ Sv, leastV 0 1 bs V = Sv := ⟨_, rfl⟩
      have hSm : Sv ≤ (m : Int) := by
        have h := HG.out.2.2.2.2.2
        rw [← hmt.out] at h
        rw [← hSS]
        unfold leastV
        rw [HDK.out]
        exact h
      rw [hLL] at HL1
      rw [hSS] at HL2
      clear hC hCC hC1 hLL hSS
      go_wp2_with fail
      refine HC.out.mono ?_
      rintro e w11 ⟨rfl, hb11⟩
      have HB11 := hid hb11
      clear hb11
      go_wp2_with fail
      refine (HL1.out w11 HB11.out).mono ?_
      rintro e w12 ⟨rfl, hb12⟩
      have HB12 := hid (btr HB11.out hb12)
      clear hb12
      go_wp2_with fail
      refine (HL2.out w12 HB12.out).mono ?_
      rintro e w13 ⟨rfl, hb13⟩
      have HB13 := hid (btr HB12.out hb13)
      clear hb13
      go_wp2_with fail
      go_ret
      exact ⟨rfl, HB6.out.trans ((HB10.out.trans (HB13.out.mono HB10.out.size)).mono HB6.out.size)⟩
end Go.Proofs.Ythijnojefeeaoaa
