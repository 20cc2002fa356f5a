/- The law FnPageJoin returns true for all arguments that can be read. -/
import Derived.Test.YtfjoininagdlcaaDrawLs
import Derived.Test.YtfjoininagdlcaaLawFns
import Derived.Test.YtfjoininagdlcaaLawKit
import Derived.Test.YtfjoininagdlcaaForce2
import Derived.Test.YtfjoininagdlcaaForce3
import Derived.Test.YtfjoininagdlcaaForceB
import Derived.Test.YtfjoininagdlcaaMany
import Derived.Test.YtfjoininagdlcaaJoinRd
import Derived.Test.YtfjoininagdlcaaDrawM
import Derived.Deep.RegionHeld3
import Derived.StillTailTactics
namespace Go.Proofs.Ytfjoininagdlcaa
open Go.RowKit
set_option maxRecDepth 100000 in
set_option maxHeartbeats 4000000 in
theorem lawPageJoin (A0 : Option Addr) (n0 c0 : Nat) (bs : List UInt8) (w : World) (hnc : n0 ≤ c0) (hx : Rd byteS 0 w.heap.size w A0 n0 bs) :
    Calls Try.prog 11 #[.slice A0 n0 c0] w fun e w' => e = .returned (.bool true) ∧ Below w.heap.size w w' := by
  have hn63 := hx.2.1
  have HX := hid hx
  clear hx
  by_cases hn0 : n0 ≤ 1048576
  case neg =>
    have gn0 : (1048576 : Int) < (n0 : Int) := by omega
    go_enter Try.func11, Try.ntmps11
    go_wp2_with fail
    go_ret
    exact ⟨rfl, Below.refl _ _⟩
  have gn0 : ¬ (1048576 : Int) < (n0 : Int) := by omega
  go_enter Try.func11, Try.ntmps11
  go_wp2_with fail
  refine (DrawPageJoin_any A0 n0 c0 bs w hnc HX.out).mono ?_
  rintro e w1 ⟨N, C, q, d, pa, E, u, f, pb, rfl, hN1, hN5, a1, a2, hb1⟩
  have RA := hid a1.hp
  have RE := hid a2.hp
  have HB := hid hb1
  have HQ := hid a1.hp.1
  have HU := hid a2.hp.1
  have hq5 := a1.q5
  have hu5 := a2.q5
  clear a1 a2 hb1
  have hjb := (joinV_bd (N : Int) pa pb).1
  obtain ⟨j0, hj1, hy0, hy1, hy2⟩ := info_parts (show (Try.prog.info? 23).map (fun i => (i.zero, i.size, i.bytes)) = some (some (.slice none 0 0), 1, 24) by kernel_rfl)
  have HJ := hid (And.intro hj1 (And.intro hy0 (And.intro hy1 hy2)))
  clear hj1 hy0 hy1 hy2
  obtain ⟨i0, hi1, hz0, hz1, hz2⟩ := info_parts (show (Try.prog.info? 3).map (fun i => (i.zero, i.size, i.bytes)) = some (some (.int .i64 0), 1, 8) by kernel_rfl)
  have HI0 := hid (And.intro hi1 (And.intro hz0 (And.intro hz1 hz2)))
  clear hi1 hz0 hz1 hz2
  obtain ⟨V, hV⟩ : ∃ V, joinV (N : Int) pa pb = V := ⟨_, rfl⟩
  rw [hV] at hjb
  have HV := hid hV
  clear hV
  cases V with
  | none =>
    go_wp2_with fail
    have hres := implPageJoin_any C E q d u f 0 (N : Int) pa pb w1 RA.out RE.out
    rw [HV.out] at hres
    refine hres.mono ?_
    clear hres
    intro e w3 hres
    have hres2 := rb_rd hres (hjb)
    simp only [Option.getD_none, Option.isSome_none, List.length_nil] at hres2
    obtain ⟨ARF, cRF, rfl, hR, hb⟩ := hres2
    clear hres
    have HB := hid (HB.out.trans (hb.mono HB.out.size))
    have RA := hid (RA.out.bl hb)
    have RE := hid (RE.out.bl hb)
    clear hb
    have RF := hid hR
    clear hR
    go_wp2_with fail
    have hres := specPageJoin_any C E q d u f 0 (N : Int) pa pb w3 RA.out RE.out
    rw [HV.out] at hres
    refine hres.mono ?_
    clear hres
    intro e w4 hres
    have hres2 := rb_rd hres (hjb)
    simp only [Option.getD_none, Option.isSome_none, List.length_nil] at hres2
    obtain ⟨ARG, cRG, rfl, hR, hb⟩ := hres2
    clear hres
    have HB := hid (HB.out.trans (hb.mono HB.out.size))
    have RA := hid (RA.out.bl hb)
    have RE := hid (RE.out.bl hb)
    have RF := hid (RF.out.bl hb)
    clear hb
    have RG := hid hR
    clear hR
    go_wp2_with fail
    refine (sameRows_any _ _ _ _ _ _ _ _ _ _ _ RF.out RG.out).mono ?_
    rintro e w5 ⟨rfl, hb⟩
    have HB := hid (HB.out.trans (hb.mono HB.out.size))
    have RA := hid (RA.out.bl hb)
    have RE := hid (RE.out.bl hb)
    have RF := hid (RF.out.bl hb)
    have RG := hid (RG.out.bl hb)
    clear hb
    rw [eqD_self]
    go_wp2_with fail
    refine (sameRows_any _ _ _ _ _ _ _ _ _ _ _ RF.out RG.out).mono ?_
    rintro e w6 ⟨rfl, hb⟩
    have HB := hid (HB.out.trans (hb.mono HB.out.size))
    have RA := hid (RA.out.bl hb)
    have RE := hid (RE.out.bl hb)
    have RF := hid (RF.out.bl hb)
    have RG := hid (RG.out.bl hb)
    clear hb
    rw [eqD_self]
    go_wp2_with fail
    go_ret
    exact ⟨rfl, HB.out⟩
  | some jf =>
    obtain ⟨hpa, hpb, hj8, hjf⟩ := joinV_yes HV.out
    obtain ⟨_, _, hprod⟩ := join_law hpa hpb hj8
    have hmx : manyV (onesL N) (onesM N) (pa ++ pb) ≤ 1679616 ∧ 0 ≤ manyV (onesL N) (onesM N) (pa ++ pb) := by
      by_cases hbo : bothOk (onesL N) (onesM N) (pa ++ pb) = true
      · rw [manyV_ok hbo]; have := many_max _ _ _ (-1) hbo; omega
      · exfalso
        apply hbo
        unfold bothOk
        rw [ones_ok hN1 (by omega), onesL_len, pageOk_app hpa hpb hj8]; rfl
    obtain ⟨y0, hy0⟩ : ∃ y, manyV (onesL N) (onesM N) (pa ++ pb) = y := ⟨_, rfl⟩
    obtain ⟨y1, hy1⟩ : ∃ y, manyV (onesL N) (onesM N) pa = y := ⟨_, rfl⟩
    obtain ⟨y2, hy2⟩ : ∃ y, manyV (onesL N) (onesM N) pb = y := ⟨_, rfl⟩
    rw [hy0, hy1, hy2] at hprod
    rw [hy0] at hmx
    have hwr : IntKind.i64.wrap (y1 * y2) = y0 := by rw [← hprod]; exact IntWalk.i64_in _ (by omega)
    have HY := hid (And.intro hy0 (And.intro hy1 hy2))
    have HWR := hid hwr
    have HJF := hid hjf
    have hjl : jf.length ≤ 8 := by rw [hjf, List.length_append]; exact hj8
    clear hpa hpb hprod hmx hy0 hy1 hy2 hwr hjf hj8
    go_wp2_with fail
    have hres := implPageJoin_any C E q d u f 0 (N : Int) pa pb w1 RA.out RE.out
    rw [HV.out] at hres
    refine hres.mono ?_
    clear hres
    intro e w3 hres
    have hres2 := rb_rd2 hres hjb
    simp only [Option.getD_some, Option.isSome_some] at hres2
    obtain ⟨AF, cF, rfl, hcF, hAF, hR, hb⟩ := hres2
    clear hres
    have HB := hid (HB.out.trans (hb.mono HB.out.size))
    have RA := hid (RA.out.bl hb)
    have RE := hid (RE.out.bl hb)
    clear hb
    have RF := hid hR
    have HAF := hid hAF
    have HCF := hid hcF
    clear hR hAF hcF
    go_wp2_with fail
    have hres := specPageJoin_any C E q d u f 0 (N : Int) pa pb w3 RA.out RE.out
    rw [HV.out] at hres
    refine hres.mono ?_
    clear hres
    intro e w4 hres
    have hres2 := rb_rd hres (hjb)
    simp only [Option.getD_some, Option.isSome_some] at hres2
    obtain ⟨ARG, cRG, rfl, hR, hb⟩ := hres2
    clear hres
    have HB := hid (HB.out.trans (hb.mono HB.out.size))
    have RA := hid (RA.out.bl hb)
    have RE := hid (RE.out.bl hb)
    have RF := hid (RF.out.bl hb)
    clear hb
    have RG := hid hR
    clear hR
    go_wp2_with fail
    refine (sameRows_any _ _ _ _ _ _ _ _ _ _ _ RF.out RG.out).mono ?_
    rintro e w5 ⟨rfl, hb⟩
    have HB := hid (HB.out.trans (hb.mono HB.out.size))
    have RA := hid (RA.out.bl hb)
    have RE := hid (RE.out.bl hb)
    have RF := hid (RF.out.bl hb)
    have RG := hid (RG.out.bl hb)
    clear hb
    rw [eqD_self]
    clear RG hjb
    have h1s : ((w5.alloc (.cells #[] 3)).alloc (.cells #[] 23)).heap.size = w5.heap.size + 1 + 1 := by simp
    have HO0 := hid (((OwnR.nil (S := intS) (e := 3) (Nat.le_refl w5.heap.size) #[] rfl).al (.cells #[] 23)).al (.cells #[.slice (some ⟨w5.heap.size, 0, none⟩) 0 0, .slice (some ⟨w5.heap.size + 1, 0, none⟩) 0 0] 26))
    have hN0 := ((NestR.nil (lo := w5.heap.size) (hi := w5.heap.size + 1) (et := 23) (ei := 3) (w := w5.alloc (.cells #[] 3)) (by simp) #[] rfl).al (.cells #[.slice (some ⟨w5.heap.size, 0, none⟩) 0 0, .slice (some ⟨w5.heap.size + 1, 0, none⟩) 0 0] 26))
    rw [World.size_alloc] at hN0
    have HN0 := hid (hN0.wide (hi' := (((w5.alloc (.cells #[] 3)).alloc (.cells #[] 23)).alloc (.cells #[.slice (some ⟨w5.heap.size, 0, none⟩) 0 0, .slice (some ⟨w5.heap.size + 1, 0, none⟩) 0 0] 26)).heap.size) (by simp))
    have hM0 := heap_alloc_new ((w5.alloc (.cells #[] 3)).alloc (.cells #[] 23)) (.cells #[.slice (some ⟨w5.heap.size, 0, none⟩) 0 0, .slice (some ⟨w5.heap.size + 1, 0, none⟩) 0 0] 26)
    rw [h1s] at hM0
    have HBN := hid (btr (btr (bnew w5 (.cells #[] 3)) (bnew _ (.cells #[] 23))) (bnew _ (.cells #[.slice (some ⟨w5.heap.size, 0, none⟩) 0 0, .slice (some ⟨w5.heap.size + 1, 0, none⟩) 0 0] 26)))
    have HM0 := hid hM0
    have hsz : (((w5.alloc (.cells #[] 3)).alloc (.cells #[] 23)).alloc (.cells #[.slice (some ⟨w5.heap.size, 0, none⟩) 0 0, .slice (some ⟨w5.heap.size + 1, 0, none⟩) 0 0] 26)).heap.size = w5.heap.size + 3 := by simp
    have HSZ := hid hsz
    clear hN0 hM0 h1s hsz
    go_wp2_with fail
    obtain ⟨mb, hmb⟩ : ∃ mb, w5.heap.size + 1 + 1 = mb := ⟨_, rfl⟩
    rw [hmb] at HM0 ⊢
    have HMB := hid hmb
    clear hmb
    have HB1 := HB
    clear HB
    go_loopg [11] N (fun gk i wr => ∃ (k : Nat) (rs : List RowD) (gS dS g d0 : Nat), k + gk = N ∧ i = .int .i64 k ∧ rs.length = k ∧ OwnR intS w5.heap.size wr 3 (.slice (some ⟨gS, 0, none⟩) k dS) (onesL k) ∧ NestR w5.heap.size wr.heap.size wr 23 3 (.slice (some ⟨g, 0, none⟩) k d0) rs ∧ rs.map (·.2.2) = List.replicate k (onesL N) ∧
      wr.heap[mb]? = some (.cells #[.slice (some ⟨gS, 0, none⟩) k dS, .slice (some ⟨g, 0, none⟩) k d0] 26 (0, 0)) ∧ (gS ≠ g ∧ gS ≠ mb ∧ g ≠ mb ∧ ∀ r ∈ rs, r.1 ≠ gS ∧ r.1 ≠ mb) ∧ Below w5.heap.size w5 wr)
    case atStart => exact ⟨0, [], _, _, _, _, Nat.zero_add _, rfl, rfl, HO0.out, HN0.out, rfl, HM0.out, ⟨by omega, by have := HMB.out; omega, by have := HMB.out; omega, (fun r hr => by cases hr)⟩, HBN.out⟩
    case round =>
      clear HO0 HN0 HM0 HBN HSZ
      obtain ⟨k, rs, gS, dS, g, d0, hkg, rfl, hrl, hO, hN, hrm, hM, hsep, hb⟩ := hrel
      have HKG := hid hkg
      have HRL := hid hrl
      have HO := hid hO
      have HN := hid hN
      have HRM := hid hrm
      have HM := hid hM
      have HSEP := hid hsep
      have HB := hid hb
      have hk : k ≤ N := by omega
      have hwz := hb.size
      have hmbl := (Array.getElem?_eq_some_iff.1 hM).1
      obtain ⟨hg1, hg2⟩ := hN.own.own_lt (k := g) rfl
      obtain ⟨hgs1, hgs2⟩ := hO.own_lt (k := gS) rfl
      have RAr := hid (RA.out.bl hb)
      clear RA
      have RA := RAr
      clear RAr
      have REr := hid (RE.out.bl hb)
      clear RE
      have RE := REr
      clear REr
      have RFr := hid (RF.out.bl hb)
      clear RF
      have RF := RFr
      clear RFr
      clear hkg hrl hO hN hrm hM hsep hb
      by_cases hlt : k < N
      case neg =>
        obtain rfl : N = k := by omega
        have LM2 := hid (LM.mk (C := none) (q := 0) (page := []) ((HO.out.rd (by rw [onesL_len]; omega)).2.wide (lo' := 0) (Nat.zero_le _) (Nat.le_refl _)) (by have h7 := (HN.out.rd (by have := HRL.out; omega)).2; rw [HRM.out] at h7; exact h7.wide (lo' := 0) (Nat.zero_le _) (Nat.le_refl _)) (Rd.nil _ _ _ _ _) HM.out)
        have ca := LM2.out.at0
        have cb := LM2.out.at1
        have c1 := aft_cell (block_lt_of_cell ca) ca
        have c2 := aft_cell (block_lt_of_cell cb) cb
        clear HO HN HM HSEP HRM hg1 hg2 hgs1 hgs2
        have hRF := RF.out
        rw [HJF.out] at hRF
        have hcut := join_cut (c := cF) hRF HQ.out (by rw [← HJF.out]; exact HCF.out)
        rw [← HJF.out] at hcut
        obtain ⟨hT, hD⟩ := hcut
        have HT := hid hT
        have HD := hid hD
        have hql : q ≤ jf.length := by rw [HJF.out, List.length_append, ← HQ.out]; omega
        have hqi : (q : Int) ≤ (jf.length : Int) := by omega
        have hqc : (q : Int) ≤ (cF : Int) := by have := HCF.out; omega
        clear hRF hT hD
        rcases HAF.out with ⟨hA0, hc0, hj0⟩ | ⟨gF, hA1⟩
        ·
          subst hA0 hc0
          have hq0 : q = 0 := by omega
          have hu0 : u = 0 := by have h1 := hj0; rw [HJF.out, List.length_append] at h1; have := HU.out; omega
          have hpb0 : pb = [] := List.length_eq_zero_iff.1 (by rw [← HU.out]; exact hu0)
          have hpa0 : pa = [] := List.length_eq_zero_iff.1 (by rw [← HQ.out]; exact hq0)
          have hjf0 : jf = [] := List.length_eq_zero_iff.1 hj0
          subst hq0 hu0 hpb0 hpa0 hjf0
          have HSA := hid (Rd.nil (sliceS intS) 0 wr.heap.size wr (none : Option Addr))
          have CALL1 := hid fun X : Aft wr.heap.size wr => aft_call ((sameRows_any none C 0 0 0 d 0 0 [] [] X.val (HSA.out.bl X.prop) (RA.out.bl X.prop)).mono fun e w2 h => (show e = .returned (.bool true) ∧ Below X.val.heap.size X.val w2 from ⟨by rw [h.1, eqD_self], h.2⟩)) (Nat.le_refl _)
          have CALL2 := hid fun X : Aft wr.heap.size wr => aft_call ((sameRows_any none E 0 0 0 f 0 0 [] [] X.val (HSA.out.bl X.prop) (RE.out.bl X.prop)).mono fun e w2 h => (show e = .returned (.bool true) ∧ Below X.val.heap.size X.val w2 from ⟨by rw [h.1, eqD_self], h.2⟩)) (Nat.le_refl _)
          have CALL3 := hid fun X : Aft wr.heap.size wr => aft_call ((implReadingsMany_any (some ⟨gS, 0, none⟩) (some ⟨g, 0, none⟩) none N dS N d0 0 0 0 (onesL N) (onesM N) [] X.val (LM2.out.bl X.prop).hl (LM2.out.bl X.prop).hr (RF.out.bl X.prop)).mono fun e w2 h => (show e = .returned (.int .i64 y0) ∧ Below X.val.heap.size X.val w2 from ⟨by rw [h.1, show manyV (onesL N) (onesM N) [] = y0 from HY.out.1], h.2⟩)) (Nat.le_refl _)
          have CALL4 := hid fun X : Aft wr.heap.size wr => aft_call ((implReadingsMany_any (some ⟨gS, 0, none⟩) (some ⟨g, 0, none⟩) C N dS N d0 0 d 0 (onesL N) (onesM N) [] X.val (LM2.out.bl X.prop).hl (LM2.out.bl X.prop).hr (RA.out.bl X.prop)).mono fun e w2 h => (show e = .returned (.int .i64 y1) ∧ Below X.val.heap.size X.val w2 from ⟨by rw [h.1, show manyV (onesL N) (onesM N) [] = y1 from HY.out.2.1], h.2⟩)) (Nat.le_refl _)
          have CALL5 := hid fun X : Aft wr.heap.size wr => aft_call ((implReadingsMany_any (some ⟨gS, 0, none⟩) (some ⟨g, 0, none⟩) E N dS N d0 0 f 0 (onesL N) (onesM N) [] X.val (LM2.out.bl X.prop).hl (LM2.out.bl X.prop).hr (RE.out.bl X.prop)).mono fun e w2 h => (show e = .returned (.int .i64 y2) ∧ Below X.val.heap.size X.val w2 from ⟨by rw [h.1, show manyV (onesL N) (onesM N) [] = y2 from HY.out.2.2], h.2⟩)) (Nat.le_refl _)
          clear hqi hqc hql hj0
          have hwr := HWR.out
          go_wp2_with fail
          refine wp_region_aft (Below.refl wr.heap.size wr) (by kernel_rfl) (by kernel_rfl) ?_
          repeat (go_big_quiet_step (fail))
          go_big_quiet_step ((go_at_call 34; exact CALL1.out _))
          repeat (go_big_quiet_step (fail))
          go_big_quiet_step ((go_at_call 34; exact CALL2.out _))
          repeat (go_big_quiet_step (fail))
          go_big_quiet_step ((go_at_call 14; exact CALL3.out _))
          repeat (go_big_quiet_step (fail))
          go_big_quiet_step ((go_at_call 14; exact CALL4.out _))
          repeat (go_big_quiet_step (fail))
          go_big_quiet_step ((go_at_call 14; exact CALL5.out _))
          repeat (go_big_quiet_step (fail))
          refine wpQuiet_nil ?_
          rintro w99 ⟨⟨_, hb⟩, rfl⟩
          go_wp2_with fail
          all_goals
            go_ret
            exact ⟨rfl, HB1.out.trans ((HB.out.trans (hb.mono HB.out.size)).mono HB1.out.size)⟩
        ·
          subst hA1
          have HD1 := hid (HD.out gF rfl)
          have CALL1 := hid fun X : Aft wr.heap.size wr => aft_call ((sameRows_any (some ⟨gF, 0, none⟩) C q q cF d 0 0 pa pa X.val (HT.out.bl X.prop) (RA.out.bl X.prop)).mono fun e w2 h => (show e = .returned (.bool true) ∧ Below X.val.heap.size X.val w2 from ⟨by rw [h.1, eqD_self], h.2⟩)) (Nat.le_refl _)
          have CALL2 := hid fun X : Aft wr.heap.size wr => aft_call ((sameRows_any (if cF = q then some ⟨gF, 0, none⟩ else some ⟨gF, q, none⟩) E (jf.length - q) u (cF - q) f 0 0 pb pb X.val (HD1.out.bl X.prop) (RE.out.bl X.prop)).mono fun e w2 h => (show e = .returned (.bool true) ∧ Below X.val.heap.size X.val w2 from ⟨by rw [h.1, eqD_self], h.2⟩)) (Nat.le_refl _)
          have CALL3 := hid fun X : Aft wr.heap.size wr => aft_call ((implReadingsMany_any (some ⟨gS, 0, none⟩) (some ⟨g, 0, none⟩) (some ⟨gF, 0, none⟩) N dS N d0 jf.length cF 0 (onesL N) (onesM N) jf X.val (LM2.out.bl X.prop).hl (LM2.out.bl X.prop).hr (RF.out.bl X.prop)).mono fun e w2 h => (show e = .returned (.int .i64 y0) ∧ Below X.val.heap.size X.val w2 from ⟨by rw [h.1, HJF.out, HY.out.1], h.2⟩)) (Nat.le_refl _)
          have CALL4 := hid fun X : Aft wr.heap.size wr => aft_call ((implReadingsMany_any (some ⟨gS, 0, none⟩) (some ⟨g, 0, none⟩) C N dS N d0 q d 0 (onesL N) (onesM N) pa X.val (LM2.out.bl X.prop).hl (LM2.out.bl X.prop).hr (RA.out.bl X.prop)).mono fun e w2 h => (show e = .returned (.int .i64 y1) ∧ Below X.val.heap.size X.val w2 from ⟨by rw [h.1, HY.out.2.1], h.2⟩)) (Nat.le_refl _)
          have CALL5 := hid fun X : Aft wr.heap.size wr => aft_call ((implReadingsMany_any (some ⟨gS, 0, none⟩) (some ⟨g, 0, none⟩) E N dS N d0 u f 0 (onesL N) (onesM N) pb X.val (LM2.out.bl X.prop).hl (LM2.out.bl X.prop).hr (RE.out.bl X.prop)).mono fun e w2 h => (show e = .returned (.int .i64 y2) ∧ Below X.val.heap.size X.val w2 from ⟨by rw [h.1, HY.out.2.2], h.2⟩)) (Nat.le_refl _)
          have hwr := HWR.out
          go_wp2_with fail
          refine wp_region_aft (Below.refl wr.heap.size wr) (by kernel_rfl) (by kernel_rfl) ?_
          repeat (go_big_quiet_step (fail))
          go_big_quiet_step ((go_at_call 34; exact CALL1.out _))
          repeat (go_big_quiet_step (fail))
          go_big_quiet_step ((go_at_call 34; exact CALL2.out _))
          repeat (go_big_quiet_step (fail))
          go_big_quiet_step ((go_at_call 14; exact CALL3.out _))
          repeat (go_big_quiet_step (fail))
          go_big_quiet_step ((go_at_call 14; exact CALL4.out _))
          repeat (go_big_quiet_step (fail))
          go_big_quiet_step ((go_at_call 14; exact CALL5.out _))
          repeat (go_big_quiet_step (fail))
          refine wpQuiet_nil ?_
          rintro w99 ⟨⟨_, hb⟩, rfl⟩
          go_wp2_with fail
          all_goals
            go_ret
            exact ⟨rfl, HB1.out.trans ((HB.out.trans (hb.mono HB.out.size)).mono HB1.out.size)⟩
      case pos =>
        have hki : (k : Int) < (N : Int) := by omega
        have ON0 := hid (OwnR.nil (S := intS) (base := wr.heap.size) (e := 3) (Nat.le_refl wr.heap.size) #[] rfl)
        have HBN := hid (bnew wr (.cells #[] 3))
        clear hlt RA RE RF
        go_wp2_with fail
        obtain ⟨wo, hwo⟩ : ∃ x : World, x = wr := ⟨_, rfl⟩
        subst hwo
        obtain ⟨gko, hgo⟩ : ∃ x : Nat, x = gk := ⟨_, rfl⟩
        subst hgo
        have HBO := HB
        clear HB
        go_loopg [12, 13] N (fun gk row i wr => ∃ (j g2 d2 : Nat), j + gk = N ∧ i = .int .i64 j ∧ row = .slice (some ⟨g2, 0, none⟩) j d2 ∧ OwnR intS wo.heap.size wr 3 (.slice (some ⟨g2, 0, none⟩) j d2) (onesL j) ∧ Below wo.heap.size wo wr)
        case atStart => exact ⟨0, _, _, Nat.zero_add _, rfl, rfl, ON0.out, HBN.out⟩
        case round =>
          clear ON0 HBN
          obtain ⟨j, g2, d2, hjg, rfl, rfl, hI, hb⟩ := hrel
          have HJG := hid hjg
          have HI := hid hI
          have HB := hid hb
          have hj : j ≤ N := by omega
          have hwz2 := hb.size
          clear hjg
          by_cases hjn : j < N
          case pos =>
            have hji : (j : Int) < (N : Int) := by omega
            clear hI hb
            go_wp2_with (at_builtin; refine wpList_append_R rfl (.tmp 73) (.tmp 74) _ rfl intS Try.underlying23 HI0.out rfl (by decide) (v := .slice (some ⟨g2, 0, none⟩) j d2) rfl (HI.out.al _) (y := 1) rfl (heap_alloc_new _ _) rfl (by simp [Value.oneCell']) rfl (by rw [onesL_len]; omega) (by rw [onesL_len]; omega) (by simp; omega) ?_; intro A2 c2 w6 hO4 hb4)
            rw [onesL_len] at hO4 ⊢
            obtain ⟨g4, rfl, -⟩ := hO4.blk (by omega)
            have HO4 := hid hO4
            have HB5 := hid (HB.out.trans (((bnew wr _).mono hwz2).trans hb4))
            clear hO4 hb4
            go_roundg (gk - 1)
            case measure => have := HJG.out; omega
            case rel => exact ⟨j + 1, g4, c2, by have := HJG.out; omega, by go_num, rfl, by rw [onesL_succ]; exact HO4.out, HB5.out⟩
          case neg =>
            obtain rfl : N = j := by omega
            have hra := (hI.rowAt (by rw [onesL_len]; omega)).2
            have HRA := hid hra.1
            have hg2l := hra.2
            have hg2h := hra.1.lt
            have HNL := hid fun q (hq : q ∈ rs) => (⟨(HN.out.row q hq).1, (HN.out.row q hq).2.1⟩ : w5.heap.size ≤ q.1 ∧ q.1 < wo.heap.size)
            have HO2 := hid (HO.out.bl hb)
            have HN2 := hid ((HN.out.bl hb).wide hb.size)
            have HM2 := hid ((hb.block mb hmbl).trans HM.out)
            clear HI HO HN HM hI hra hb
            have hg2h2 : g2 < wr.heap.size := hg2h
            have hsep1 := HSEP.out.1
            have hsep2 := HSEP.out.2.1
            have hsep3 := HSEP.out.2.2.1
            have HSEP4 := hid HSEP.out.2.2.2
            have hWmb : w5.heap.size ≤ mb := by have := HMB.out; omega
            obtain ⟨mc0, mc1, mf0, mf1⟩ := at_get HM2.out
            go_wp2_with (first | (at_builtin; (refine wpList_append_R2n rfl (.tmp 77) (.tmp 78) _ rfl intS Try.underlying23 HI0.out rfl (by decide) (v := .slice (some ⟨gS, 0, none⟩) k dS) (onesL_len k) rfl (HO2.out.al _) (y := 1) rfl (heap_alloc_new _ _) rfl (by simp [Value.oneCell']) rfl (by omega) (by omega) (by simp; omega) ?_; intro A2 c2 w3 hO3 hc3 hv3; obtain ⟨g3, hA2, -⟩ := hO3.blk (by omega); subst hA2; have hc4 : Chg (fun q => q = gS) wr w3 := (chg_new wr _ _).trans (hc3.wide (fun q h => by have h' : some gS = some q := h; injection h' with h'; exact h'.symm)); have hM3 := (hc4.block mb (by omega) (fun e => hsep2 e.symm)).trans HM2.out; have hz3 := hc4.size; have hg3 : g3 = gS ∨ wr.heap.size < g3 := (by rcases hv3 with e | e; exact .inl (by have e2 : some g3 = some gS := e; injection e2); exact .inr (by rw [World.size_alloc] at e; have e2 : some g3 = some (wr.heap.size + 1) := e; injection e2 with e2; omega)); have hg3b := (hO3.own_lt (k := g3) rfl); have hcs := (Chg.refl (fun q => q = mb) w3).set (p := ⟨mb, 0, none⟩) rfl (.slice (some ⟨g3, 0, none⟩) (k + 1) c2); have HN5 := hid (((HN2.out.keep hc4 (fun q hq e => by have h' : some g = some q := hq; injection h' with h'; omega) (fun q hq e => (HSEP4.out q hq).1 e)).keep hcs (fun q hq e => by have h' : some g = some q := hq; injection h' with h'; omega) (fun q hq e => (HSEP4.out q hq).2 e)).wide hz3); have HRA5 := hid ((HRA.out.kept (hc4.block g2 hg2h2 (fun e => by omega))).kept (hcs.block g2 (by omega) (fun e => by omega))); have HO5 := hid (hO3.flat intS_flat hcs (fun q hq e => by have h' : some g3 = some q := hq; injection h' with h'; omega)); obtain ⟨mc2, mc3, mf2, mf3⟩ := at_get hM3; have HM3 := hid hM3; have HC4 := hid hc4; have HCS := hid hcs; clear hM3 hO3 hc3 hc4 hv3 hcs)) | (at_builtin; (refine wpList_append_rowV rfl (.tmp 82) (.tmp 84) _ rfl Try.underlying24 HJ.out (v := .slice (some ⟨g, 0, none⟩) k d0) HRL.out rfl (HN5.out.al _) (r := (g2, d2, onesL N)) (by show Value.slice _ (onesL N).length _ = _; rw [onesL_len]) rfl (by have h9 := heap_alloc_new (w3.setCell ⟨mb, 0, none⟩ (.slice (some ⟨g3, 0, none⟩) (k + 1) c2)) (.cells #[.slice (some ⟨g2, 0, none⟩) N d2] 23); rw [World.size_setCell] at h9; exact h9) (HRA5.out.al _) (by show w5.heap.size ≤ g2; omega) (fun e => by have e2 : some g = some g2 := e; injection e2 with e2; omega) (fun q hq e => by have h9 := HNL.out q hq; have e2 : q.1 = g2 := e; omega) (by have := HRL.out; omega) (by simp <;> omega) (by simp <;> omega) ?_; intro A3 c3 w9 hN6 hc6 hg6; obtain ⟨g6, hA6, hg6⟩ := hg6; subst hA6; have hc7 : Chg (fun q => q = g) (w3.setCell ⟨mb, 0, none⟩ (.slice (some ⟨g3, 0, none⟩) (k + 1) c2)) w9 := (chg_new _ _ _).trans (hc6.wide (fun q h => by have h' : some g = some q := h; injection h' with h'; exact h'.symm)); have hz5 := hc7.size; rw [World.size_setCell] at hz5; have hM5 := (hc7.block mb (by rw [World.size_setCell]; omega) (fun e => hsep3 e.symm)).trans (at_set0 (v := (.slice (some ⟨g3, 0, none⟩) (k + 1) c2)) HM3.out); obtain ⟨mc4, mc5, mf4, mf5⟩ := at_get hM5; have HM5 := hid hM5; have HN6 := hid hN6; have HC7 := hid hc7; have hg6b := (hN6.own.own_lt (k := g6) rfl); have hg7 : g6 = g ∨ w3.heap.size ≤ g6 := (by rcases hg6 with e | e; exact .inl (by have e2 : some g = some g6 := e; injection e2 with e2; exact e2.symm); exact .inr (by rw [World.size_alloc, World.size_setCell] at e; omega)); clear hM5 hN6 hc6 hc7 hg6)))
            have hcs2 := (Chg.refl (fun q => q = mb) w9).set (p := ⟨mb, 1, none⟩) rfl (.slice (some ⟨g6, 0, none⟩) (k + 1) c3)
            go_roundg (gko - 1)
            case measure => have := HKG.out; omega
            case rel =>
              refine ⟨k + 1, rs ++ [(g2, d2, onesL N)], g3, c2, g6, c3, by have := HKG.out; omega, by go_num, by rw [List.length_append, HRL.out]; rfl, ?_, ?_, ones_rows HRM.out HRL.out, at_set1 HM5.out, ⟨by omega, by omega, by omega, fun q hq => ?_⟩, ?_⟩
              · rw [onesL_succ]
                exact (HO5.out.flat intS_flat HC7.out (fun q hq e => by have h' : some g3 = some q := hq; injection h' with h'; omega)).flat intS_flat hcs2 (fun q hq e => by have h' : some g3 = some q := hq; injection h' with h'; omega)
              · exact (HN6.out.keep hcs2 (fun q hq e => by have h' : some g6 = some q := hq; injection h' with h'; omega) (fun q hq e => by
                  rcases List.mem_append.1 hq with hq | hq
                  · exact (HSEP4.out q hq).2 e
                  · rw [List.mem_singleton] at hq; subst hq; have e' : g2 = mb := e; omega)).wide (by simp)
              · rcases List.mem_append.1 hq with hq | hq
                · have h1 := (HSEP4.out q hq).1; have h2 := (HNL.out q hq).2; exact ⟨by omega, (HSEP4.out q hq).2⟩
                · rw [List.mem_singleton] at hq; subst hq; exact ⟨by show g2 ≠ g3; omega, by show g2 ≠ mb; omega⟩
              · exact HBO.out.trans ((HB.out.mono hwz).trans ((HC4.out.below (B := w5.heap.size) (by omega) (fun q e => by omega)).trans ((HCS.out.below (B := w5.heap.size) (by omega) (fun q e => by omega)).trans ((HC7.out.below (B := w5.heap.size) (by rw [World.size_setCell]; omega) (fun q e => by omega)).trans (hcs2.below (by omega) (fun q e => by omega))))))
end Go.Proofs.Ytfjoininagdlcaa
