/- The law FnModelStates returns true for all arguments that can be read. -/
import Derived.Test.YtfjoininagdlcaaDrawLs
import Derived.Test.YtfjoininagdlcaaLawFns
import Derived.Test.YtfjoininagdlcaaLawKit
import Derived.Test.YtfjoininagdlcaaStates
import Derived.Test.YtfjoininagdlcaaLawKit2
import Derived.Test.YtfjoininagdlcaaSameRow
import Derived.Deep.RegionHeld3
import Derived.StillTailTactics
namespace Go.Proofs.Ytfjoininagdlcaa
open Go.RowKit
set_option maxRecDepth 100000 in
set_option maxHeartbeats 4000000 in
theorem lawModelStates (A0 : Option Addr) (n0 c0 : Nat) (bs : List UInt8) (w : World) (hnc : n0 ≤ c0) (hx : Rd byteS 0 w.heap.size w A0 n0 bs) :
    Calls Try.prog 10 #[.slice A0 n0 c0] w fun e w' => e = .returned (.bool true) ∧ Below w.heap.size w w' := by
  have hn63 := hx.2.1
  have HX := hid hx
  clear hx
  by_cases hn0 : n0 ≤ 1048576
  case neg =>
    have gn0 : (1048576 : Int) < (n0 : Int) := by omega
    go_enter Try.func10, Try.ntmps10
    go_wp2_with fail
    go_ret
    exact ⟨rfl, Below.refl _ _⟩
  have gn0 : ¬ (1048576 : Int) < (n0 : Int) := by omega
  go_enter Try.func10, Try.ntmps10
  go_wp2_with fail
  refine (DrawModelStates_any A0 n0 c0 bs w hnc HX.out).mono ?_
  rintro e w1 ⟨A, n, c, l, B, m, e0, r, K, rfl, a1, hK0, hK9, hb1⟩
  have LM2 := hid (LM.new (C := none) (q := 0) (page := []) (c := c) (e0 := e0) (t := 26) a1.hl a1.hr (Rd.nil _ _ _ _ _))
  have hln := a1.hl.1
  have hn1 := a1.n1
  have hn4 := a1.n4
  have HLN := hid hln
  have HB2 := hid (bal hb1 (.cells #[.slice A n c, .slice B m e0] 26))
  clear a1 hb1 hln
  go_wp2_with fail
  generalize (w1.alloc (.cells #[.slice A n c, .slice B m e0] 26)) = w2 at *
  obtain ⟨M, hM⟩ : ∃ M, w1.heap.size = M := ⟨_, rfl⟩
  rw [hM] at LM2 ⊢
  clear hM
  have HB := hid HB2.out
  obtain ⟨j0, hj1, hy0, hy1, hy2⟩ := info_parts (show (Try.prog.info? 23).map (fun i => (i.zero, i.size, i.bytes)) = some (some (.slice none 0 0), 1, 24) by kernel_rfl)
  have HJ := hid (And.intro hj1 (And.intro hy0 (And.intro hy1 hy2)))
  clear hj1 hy0 hy1 hy2
  obtain ⟨i0, hi1, hz0, hz1, hz2⟩ := info_parts (show (Try.prog.info? 3).map (fun i => (i.zero, i.size, i.bytes)) = some (some (.int .i64 0), 1, 8) by kernel_rfl)
  have HI0 := hid (And.intro hi1 (And.intro hz0 (And.intro hz1 hz2)))
  clear hi1 hz0 hz1 hz2
  have hlen : (statesV l r K).length ≤ 1048576 := by have := statesV_len l r K; omega
  obtain ⟨V, hV⟩ : ∃ V, statesV l r K = V := ⟨_, rfl⟩
  rw [hV] at hlen
  have HV := hid hV
  clear hV
  have mc0 := LM2.out.at0
  have mc1 := LM2.out.at1
  have hres := implModelStates_any A B n c m e0 K l r w2 LM2.out.hl LM2.out.hr
  rw [HV.out] at hres
  refine hres.mono ?_
  clear hres
  clear mc0 mc1
  intro e w3 hres
  obtain ⟨ARF, cRF, rfl, hRF, hR, hb⟩ := i_rd hres (hlen)
  clear hres
  have HB := hid (HB.out.trans (hb.mono HB.out.size))
  have LM2 := hid (LM2.out.bl hb)
  clear hb
  have RF := hid hR
  clear hR
  have mc0 := LM2.out.at0
  have mc1 := LM2.out.at1
  go_wp2_with fail
  have hres := specModelStates_any A B n c m e0 0 K l r w3 LM2.out.hl LM2.out.hr
  rw [HV.out] at hres
  refine hres.mono ?_
  clear hres
  clear mc0 mc1
  intro e w4 hres
  obtain ⟨ARG, cRG, rfl, hRG, hR, hb⟩ := i_rd hres (hlen)
  clear hres
  have HB := hid (HB.out.trans (hb.mono HB.out.size))
  have LM2 := hid (LM2.out.bl hb)
  have RF := hid (RF.out.bl hb)
  clear hb
  have RG := hid hR
  clear hR
  go_wp2_with fail
  refine (sameInts_any _ _ _ _ _ _ _ _ _ _ _ RF.out RG.out).mono ?_
  rintro e w5 ⟨rfl, hb⟩
  have HB := hid (HB.out.trans (hb.mono HB.out.size))
  have LM2 := hid (LM2.out.bl hb)
  have RF := hid (RF.out.bl hb)
  have RG := hid (RG.out.bl hb)
  clear hb
  rw [eqD_self]
  by_cases hv0 : V.length = 0
  case pos =>
    have hve : V = [] := List.length_eq_zero_iff.1 hv0
    subst hve
    go_wp2_with fail
    refine (sameInts_any _ _ _ _ _ _ _ _ _ _ _ RF.out RG.out).mono ?_
    rintro e w6 ⟨rfl, hb⟩
    have HB := hid (HB.out.trans (hb.mono HB.out.size))
    have LM2 := hid (LM2.out.bl hb)
    have RF := hid (RF.out.bl hb)
    have RG := hid (RG.out.bl hb)
    clear hb
    rw [eqD_self]
    go_wp2_with fail
    go_ret
    exact ⟨rfl, HB.out⟩
  clear RG
  have hv0i : ((V.length : Int) == 0) = false := by rw [beq_eq_false_iff_ne]; omega
  obtain ⟨KN, rfl, hk1, hk8, hmo, S, g1, g2, g3⟩ := states_law (l := l) (r := r) (k := K) (by rw [HV.out]; exact hv0)
  rw [HV.out] at g3
  have hSl := seenV_len (l := l) (r := r) (page := wholeP l.length KN)
  rw [g1] at hSl
  have G1 := hid g1
  have G2 := hid g2
  have G3 := hid g3
  clear g1 g2 g3 hmo hv0
  have ON0 := hid (OwnR.nil (S := intS) (base := w5.heap.size) (e := 3) (Nat.le_refl w5.heap.size) #[] rfl)
  have HBN := hid (bnew w5 (.cells #[] 3))
  have mc0 := (LM2.out.bl HBN.out).at0
  go_wp2_with fail
  clear mc0
  have HB1 := HB
  clear HB
  go_loopg [7, 8] n (fun gk all i wr => ∃ (k : Nat) (g dd : Nat), k + gk = n ∧ i = .int .i64 k ∧ all = .slice (some ⟨g, 0, none⟩) (rowN k).length dd ∧ OwnR intS w5.heap.size wr 3 (.slice (some ⟨g, 0, none⟩) (rowN k).length dd) (rowN k) ∧ Below w5.heap.size w5 wr)
  case atStart => exact ⟨0, _, _, Nat.zero_add _, rfl, rfl, ON0.out, HBN.out⟩
  case round =>
    clear ON0 HBN
    obtain ⟨k, g, dd, hkg, rfl, rfl, hO, hb⟩ := hrel
    have HKG := hid hkg
    have HO := hid hO
    have HB := hid hb
    have hk : k ≤ n := by omega
    clear hkg hO
    have LM2r := hid (LM2.out.bl hb)
    clear LM2
    have LM2 := LM2r
    clear LM2r
    have RFr := hid (RF.out.bl hb)
    clear RF
    have RF := RFr
    clear RFr
    have hws := hb.size
    clear hb
    have mc0 := LM2.out.at0
    obtain ⟨rn, hrn⟩ : ∃ rn, (rowN k).length = rn := ⟨_, rfl⟩
    have hrk : rn = k := by rw [← hrn, rowN_len]
    subst hrk
    by_cases hlt : rn < n
    case pos =>
      have hki : (rn : Int) < (n : Int) := by omega
      rw [hrn]
      have HRN := hid hrn
      have hO2 := HO.out
      rw [hrn] at hO2
      have HO2 := hid hO2
      clear hrn hO2
      go_wp2_with (at_builtin; refine wpList_append_R rfl (.tmp 47) (.tmp 49) _ rfl intS Try.underlying23 HI0.out rfl (by decide) (v := .slice (some ⟨g, 0, none⟩) rn dd) rfl (HO2.out.al _) (y := (rn : Int)) rfl (heap_alloc_new _ _) rfl (by simp [Value.oneCell']) rfl (by rw [HRN.out]; omega) (by rw [HRN.out]; omega) (by simp; omega) ?_; intro A2 c2 w6 hO4 hb4)
      rw [HRN.out] at hO4 ⊢
      obtain ⟨g4, rfl, _⟩ := hO4.blk (by omega)
      have HO4 := hid hO4
      have HB5 := hid (HB.out.trans (((bnew wr _).mono hws).trans hb4))
      clear hO4 hb4
      go_roundg (gk - 1)
      case measure => have := HKG.out; omega
      case rel => exact ⟨rn + 1, g4, c2, by have := HKG.out; omega, by go_num, by rw [rowN_len], by rw [rowN_len, rowN_succ]; exact HO4.out, HB5.out⟩
    case neg =>
      have HNR := hid (show rn = n by omega)
      have hki : ¬ (rn : Int) < (n : Int) := by omega
      clear hlt hk
      rw [hrn]
      have hO2 := HO.out
      rw [hrn] at hO2
      have hcap := hO2.form
      obtain ⟨Ac, cc, hcc, hle⟩ := hcap
      injection hcc with he1 he2 hcc
      subst hcc
      clear he1 he2
      rw [hrn] at hle
      have hra := (hO2.rd (by rw [hrn]; have := HNR.out; omega)).2.wide (lo' := 0) (Nat.zero_le _) (Nat.le_refl _)
      have HRA := hid hra
      clear hO2 hra HO hrn
      have N1 := hid (OwnR.nil (S := valS) (base := wr.heap.size) (e := 23) (Nat.le_refl wr.heap.size) #[] rfl)
      have HBN := hid (bnew wr (.cells #[] 23))
      go_wp2_with fail
      clear mc0
      obtain ⟨wo, hwo⟩ : ∃ x : World, x = wr := ⟨_, rfl⟩
      subst hwo
      have HBO := HB
      clear HB
      obtain ⟨u, hu⟩ : ∃ u, Value.slice (some ⟨g, 0, none⟩) rn dd = u := ⟨_, rfl⟩
      have HU := hid hu
      clear hu
      go_loopg [9, 10] KN (fun gk pg i wr => ∃ (k : Nat) (g2 d2 : Nat), k + gk = KN ∧ i = .int .i64 k ∧ pg = .slice (some ⟨g2, 0, none⟩) k d2 ∧ OwnR valS wo.heap.size wr 23 (.slice (some ⟨g2, 0, none⟩) k d2) (List.replicate k u) ∧ Below wo.heap.size wo wr)
      case atStart => exact ⟨0, _, _, Nat.zero_add _, rfl, rfl, N1.out, HBN.out⟩
      case round =>
        clear N1 HBN
        obtain ⟨k, g2, d2, hkg, rfl, rfl, hO, hb⟩ := hrel
        have HKG2 := hid hkg
        have HO := hid hO
        have HB := hid hb
        have hk : k ≤ KN := by omega
        clear hkg hO
        have LM2r := hid (LM2.out.bl hb)
        clear LM2
        have LM2 := LM2r
        clear LM2r
        have RFr := hid (RF.out.bl hb)
        clear RF
        have RF := RFr
        clear RFr
        have HRAr := hid (HRA.out.bl hb)
        clear HRA
        have HRA := HRAr
        clear HRAr
        have hws2 := hb.size
        clear hb
        by_cases hlk : k < KN
        case pos =>
          have hkk : (k : Int) < (KN : Int) := by omega
          go_wp2_with (at_builtin; refine wpList_append_R2 rfl (.tmp 57) (.tmp 59) _ rfl valS Try.underlying24 HJ.out rfl (by decide) (v := .slice (some ⟨g2, 0, none⟩) k d2) (cs := [.slice (some ⟨g, 0, none⟩) rn dd]) rfl (HO.out.al _) (y := u) rfl (heap_alloc_new _ _) rfl (fun q hq => by rw [List.mem_singleton] at hq; subst hq; rfl) HU.out (by rw [List.length_replicate]; omega) (by rw [List.length_replicate]; omega) (by simp; omega) ?_; intro A2 c2 w6 hO4 hc4 hv4)
          rw [List.length_replicate] at hO4
          obtain ⟨g4, rfl, _⟩ := hO4.blk (by omega)
          have HO4 := hid hO4
          have HB5 := hid (HB.out.trans (((bnew wr _).mono hws2).trans (hc4.below (B := wo.heap.size) (by simp; omega) (fun k hk => (HO.out.own_lt hk).1))))
          clear hO4 hc4 hv4
          go_roundg (gk - 1)
          case measure => have := HKG2.out; omega
          case rel => exact ⟨k + 1, g4, c2, by have := HKG2.out; omega, by go_num, rfl, by rw [List.replicate_succ']; exact HO4.out, HB5.out⟩
        case neg =>
          obtain rfl : KN = k := by omega
          clear hlk hk
          have hpg := same_rows HO.out HU.out (by have := HRA.out.1; omega) hle HRA.out (by omega)
          have hpg2 : Rd (sliceS intS) 0 wr.heap.size wr (some ⟨g2, 0, none⟩) KN (wholeP l.length KN) := by have h1 := HLN.out; have h2 := HNR.out; subst h2; subst h1; exact hpg
          have HPG := hid hpg2
          clear hpg hpg2
          have mc0 := LM2.out.at0
          have mc1 := LM2.out.at1
          go_wp2_with fail
          have hres := implPageSeen_any A B (some ⟨g2, 0, none⟩) n c m e0 KN d2 l r (wholeP l.length KN) wr LM2.out.hl LM2.out.hr HPG.out
          rw [G1.out] at hres
          refine hres.mono ?_
          clear hres
          clear mc0 mc1
          intro e w6 hres
          have hres2 := rb_rd hres (hSl)
          simp only [Option.getD_some, Option.isSome_some] at hres2
          obtain ⟨ARS, cRS, rfl, hR, hb⟩ := hres2
          clear hres
          have HB := hid (HB.out.trans (hb.mono HB.out.size))
          have LM2 := hid (LM2.out.bl hb)
          have RF := hid (RF.out.bl hb)
          clear hb
          have RS := hid hR
          clear hR
          have g2l := G2.out
          obtain ⟨bS, oS, rfl⟩ := rows_some RS.out (by omega)
          obtain ⟨jj, rfl⟩ : ∃ jj, KN = jj + 1 := ⟨KN - 1, by omega⟩
          obtain ⟨AS, cS, cs, hRS⟩ := row_at RS.out (k := jj) (by omega)
          have hg3 := G3.out
          rw [show jj + 1 - 1 = jj by omega] at hg3
          rw [hg3] at cs hRS
          have RSV := hid hRS
          have hji : (jj : Int) < (S.length : Int) := by omega
          have hjn : jj < S.length := by omega
          have hj1 : ((jj + 1 : Nat) : Int) - 1 = (jj : Int) := by omega
          clear g2l hg3 hRS
          go_wp2_with fail
          clear cs
          refine (sameInts_any _ _ _ _ _ _ _ _ _ _ _ RSV.out RF.out).mono ?_
          rintro e w7 ⟨rfl, hb⟩
          have HB := hid (HB.out.trans (hb.mono HB.out.size))
          have LM2 := hid (LM2.out.bl hb)
          have RF := hid (RF.out.bl hb)
          have RS := hid (RS.out.bl hb)
          have RSV := hid (RSV.out.bl hb)
          clear hb
          rw [eqD_self]
          go_wp2_with fail
          go_ret
          exact ⟨rfl, HB1.out.trans ((HBO.out.trans (HB.out.mono HBO.out.size)).mono HB1.out.size)⟩
end Go.Proofs.Ytfjoininagdlcaa
