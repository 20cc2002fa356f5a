/- The law FnPageSure returns true for all arguments that can be read. -/
import Derived.Test.YtfjoininagdlcaaDrawLs
import Derived.Test.YtfjoininagdlcaaLawFns
import Derived.Test.YtfjoininagdlcaaLawKit
import Derived.Test.YtfjoininagdlcaaKeeper
import Derived.Test.YtfjoininagdlcaaLawKit2
import Derived.Deep.RegionHeld3
import Derived.StillTailTactics
namespace Go.Proofs.Ytfjoininagdlcaa
open Go.RowKit
set_option maxRecDepth 100000 in
set_option maxHeartbeats 4000000 in
theorem lawPageSure (A0 : Option Addr) (n0 c0 : Nat) (bs : List UInt8) (w : World) (hnc : n0 ≤ c0) (hx : Rd byteS 0 w.heap.size w A0 n0 bs) :
    Calls Try.prog 9 #[.slice A0 n0 c0] w fun e w' => e = .returned (.bool true) ∧ Below w.heap.size w w' := by
  have hn63 := hx.2.1
  have HX := hid hx
  clear hx
  by_cases hn0 : n0 ≤ 1048576
  case neg =>
    have gn0 : (1048576 : Int) < (n0 : Int) := by omega
    go_enter Try.func9, Try.ntmps9
    go_wp2_with fail
    go_ret
    exact ⟨rfl, Below.refl _ _⟩
  have gn0 : ¬ (1048576 : Int) < (n0 : Int) := by omega
  go_enter Try.func9, Try.ntmps9
  go_wp2_with fail
  refine (DrawPageSure_any A0 n0 c0 bs w hnc HX.out).mono ?_
  rintro e w1 ⟨A, n, c, l, B, m, e0, r, C, q, d, page, rfl, a1, a2, hb1⟩
  have LM2 := hid (LM.new (c := c) (e0 := e0) (t := 26) a1.hl a1.hr a2.hp)
  have hqp := a2.hp.1
  have hq5 := a2.q5
  have hln := a1.hl.1
  have hn1 := a1.n1
  have hn4 := a1.n4
  have HQP := hid hqp
  have HLN := hid hln
  have HB2 := hid (bal hb1 (.cells #[.slice A n c, .slice B m e0] 26))
  clear a1 a2 hb1 hqp hln
  go_wp2_with fail
  generalize (w1.alloc (.cells #[.slice A n c, .slice B m e0] 26)) = w2 at *
  obtain ⟨M, hM⟩ : ∃ M, w1.heap.size = M := ⟨_, rfl⟩
  rw [hM] at LM2 ⊢
  clear hM
  have HB := hid HB2.out
  have hlen := sureV_len l r page
  obtain ⟨V, hV⟩ : ∃ V, sureV l r page = V := ⟨_, rfl⟩
  rw [hV] at hlen
  have HV := hid hV
  clear hV
  have mc0 := LM2.out.at0
  have mc1 := LM2.out.at1
  have hres := implPageSure_any A B C n c m e0 q d l r page w2 LM2.out.hl LM2.out.hr LM2.out.hp
  rw [HV.out] at hres
  refine hres.mono ?_
  clear hres
  clear mc0 mc1
  intro e w3 hres
  obtain ⟨ARF, cRF, rfl, hRF, hR, hb⟩ := i_rd hres (hlen)
  clear hres
  have HB := hid (HB.out.trans (hb.mono HB.out.size))
  have LM2 := hid (LM2.out.bl hb)
  clear hb
  have RF := hid hR
  clear hR
  have mc0 := LM2.out.at0
  have mc1 := LM2.out.at1
  go_wp2_with fail
  have hres := specPageSure_any A B C n c m e0 q d 0 l r page w3 LM2.out.hl LM2.out.hr LM2.out.hp
  rw [HV.out] at hres
  refine hres.mono ?_
  clear hres
  clear mc0 mc1
  intro e w4 hres
  obtain ⟨ARG, cRG, rfl, hRG, hR, hb⟩ := i_rd hres (hlen)
  clear hres
  have HB := hid (HB.out.trans (hb.mono HB.out.size))
  have LM2 := hid (LM2.out.bl hb)
  have RF := hid (RF.out.bl hb)
  clear hb
  have RG := hid hR
  clear hR
  go_wp2_with fail
  refine (sameInts_any _ _ _ _ _ _ _ _ _ _ _ RF.out RG.out).mono ?_
  rintro e w5 ⟨rfl, hb⟩
  have HB := hid (HB.out.trans (hb.mono HB.out.size))
  have LM2 := hid (LM2.out.bl hb)
  have RF := hid (RF.out.bl hb)
  have RG := hid (RG.out.bl hb)
  clear hb
  rw [eqD_self]
  by_cases hv0 : V.length = 0
  case pos =>
    have hve : V = [] := List.length_eq_zero_iff.1 hv0
    subst hve
    go_wp2_with fail
    refine (sameInts_any _ _ _ _ _ _ _ _ _ _ _ RF.out RG.out).mono ?_
    rintro e w6 ⟨rfl, hb⟩
    have HB := hid (HB.out.trans (hb.mono HB.out.size))
    have LM2 := hid (LM2.out.bl hb)
    have RF := hid (RF.out.bl hb)
    have RG := hid (RG.out.bl hb)
    clear hb
    rw [eqD_self]
    go_wp2_with fail
    go_ret
    exact ⟨rfl, HB.out⟩
  clear RG
  have hv0i : ((V.length : Int) == 0) = false := by rw [beq_eq_false_iff_ne]; omega
  obtain ⟨S, b, f, g1, g2, g3, g4, g5, g6, g7, g8, g9⟩ := sure_law (l := l) (r := r) (page := page) (by rw [HV.out]; exact hv0)
  rw [HV.out] at g8 g9
  have hSl := seenV_len (l := l) (r := r) (page := page)
  rw [g1] at hSl
  have hbl := bestV_len l r page
  rw [g2] at hbl
  have hfl := firstV_len8 (l := l) (r := r) (page := page)
  rw [g3] at hfl
  have G1 := hid g1
  have G2 := hid g2
  have G3 := hid g3
  have HOK := hid g4
  have G5 := hid g5
  have G6 := hid g6
  have G7 := hid g7
  have G8 := hid g8
  have G9 := hid g9
  clear g1 g2 g3 g4 g5 g6 g7 g8 g9
  have mc0 := LM2.out.at0
  have mc1 := LM2.out.at1
  go_wp2_with fail
  have hres := implPageSeen_any A B C n c m e0 q d l r page w5 LM2.out.hl LM2.out.hr LM2.out.hp
  rw [G1.out] at hres
  refine hres.mono ?_
  clear hres
  clear mc0 mc1
  intro e w6 hres
  have hres2 := rb_rd hres (hSl)
  simp only [Option.getD_some, Option.isSome_some] at hres2
  obtain ⟨ARS, cRS, rfl, hR, hb⟩ := hres2
  clear hres
  have HB := hid (HB.out.trans (hb.mono HB.out.size))
  have LM2 := hid (LM2.out.bl hb)
  have RF := hid (RF.out.bl hb)
  clear hb
  have RS := hid hR
  clear hR
  have mc0 := LM2.out.at0
  have mc1 := LM2.out.at1
  go_wp2_with fail
  have hres := implReadingBest_any A B C n c m e0 q d l r page w6 LM2.out.hl LM2.out.hr LM2.out.hp
  rw [G2.out] at hres
  refine hres.mono ?_
  clear hres
  clear mc0 mc1
  intro e w7 hres
  have hres2 := ib_rd hres (hbl)
  simp only [Option.getD_some, Option.isSome_some] at hres2
  obtain ⟨ARB, cRB, rfl, hRB, hR, hb⟩ := hres2
  clear hres
  have HB := hid (HB.out.trans (hb.mono HB.out.size))
  have LM2 := hid (LM2.out.bl hb)
  have RF := hid (RF.out.bl hb)
  have RS := hid (RS.out.bl hb)
  clear hb
  have RB := hid hR
  clear hR
  have mc0 := LM2.out.at0
  have mc1 := LM2.out.at1
  go_wp2_with fail
  have hres := implReadingFirst_any A B C n c m e0 q d l r page w7 LM2.out.hl LM2.out.hr LM2.out.hp
  rw [G3.out] at hres
  refine hres.mono ?_
  clear hres
  clear mc0 mc1
  intro e w8 hres
  have hres2 := ib_rd hres (hfl)
  simp only [Option.getD_some, Option.isSome_some] at hres2
  obtain ⟨ARI, cRI, rfl, hRI, hR, hb⟩ := hres2
  clear hres
  have HB := hid (HB.out.trans (hb.mono HB.out.size))
  have LM2 := hid (LM2.out.bl hb)
  have RF := hid (RF.out.bl hb)
  have RS := hid (RS.out.bl hb)
  have RB := hid (RB.out.bl hb)
  clear hb
  have RI := hid hR
  clear hR
  go_wp2_with fail
  have hmm : manyV l r page ≤ 1679616 := by rw [manyV_ok HOK.out]; have := many_max l r page (-1) HOK.out; omega
  obtain ⟨mn, hmn⟩ : ∃ mn, manyV l r page = mn := ⟨_, rfl⟩
  rw [hmn] at hmm
  have HMN := hid hmn
  have HB1 := HB
  clear HB hmn
  go_loopg [13] q (fun gk i wr => ∃ i0 : Nat, i0 + gk = q ∧ i = .int .i64 i0 ∧ Below w8.heap.size w8 wr)
  case atStart => exact ⟨0, Nat.zero_add _, rfl, Below.refl _ _⟩
  case round =>
    obtain ⟨i0, hkg, rfl, hb⟩ := hrel
    have HKG := hid hkg
    have HB := hid hb
    have hi : i0 ≤ q := by omega
    clear hkg
    have LM2r := hid (LM2.out.bl hb)
    clear LM2
    have LM2 := LM2r
    clear LM2r
    have RFr := hid (RF.out.bl hb)
    clear RF
    have RF := RFr
    clear RFr
    have RSr := hid (RS.out.bl hb)
    clear RS
    have RS := RSr
    clear RSr
    have RBr := hid (RB.out.bl hb)
    clear RB
    have RB := RBr
    clear RBr
    have RIr := hid (RI.out.bl hb)
    clear RI
    have RI := RIr
    clear RIr
    clear hb
    by_cases hlt : i0 < q
    case neg =>
      obtain rfl : q = i0 := by omega
      have hg9 := G9.out
      have hqp := HQP.out
      rw [HMN.out] at hg9
      have mc0 := LM2.out.at0
      have mc1 := LM2.out.at1
      by_cases hvq : V.length = q
      case pos =>
        have hmn1 : mn = 1 := by rw [decide_eq_true (by omega)] at hg9; simpa using hg9.symm
        clear hqp
        have hvqi : (V.length : Int) = (q : Int) := by omega
        have hb1 : ((V.length : Int) == (q : Int)) = true := by rw [beq_iff_eq]; exact hvqi
        have hb2 : (mn == 1) = true := by rw [beq_iff_eq]; exact hmn1
        clear hg9 hvqi hvq
        go_wp2_with fail
        have hres := implReadingsMany_any A B C n c m e0 q d 0 l r page wr LM2.out.hl LM2.out.hr LM2.out.hp
        rw [HMN.out] at hres
        refine hres.mono ?_
        clear hres
        clear mc0 mc1
        rintro e w9 ⟨rfl, hb⟩
        have HB := hid (HB.out.trans (hb.mono HB.out.size))
        have LM2 := hid (LM2.out.bl hb)
        have RF := hid (RF.out.bl hb)
        have RS := hid (RS.out.bl hb)
        have RB := hid (RB.out.bl hb)
        have RI := hid (RI.out.bl hb)
        clear hb
        go_wp2_with fail
        go_ret
        exact ⟨rfl, HB1.out.trans (HB.out.mono HB1.out.size)⟩
      have hmn1 : ¬ mn = 1 := by rw [decide_eq_false (by omega)] at hg9; simpa using hg9.symm
      have hb1 : ((V.length : Int) == (q : Int)) = false := by rw [beq_eq_false_iff_ne]; omega
      have hb2 : (mn == 1) = false := by rw [beq_eq_false_iff_ne]; exact hmn1
      clear hg9 hqp
      go_wp2_with fail
      have hres := implReadingsMany_any A B C n c m e0 q d 0 l r page wr LM2.out.hl LM2.out.hr LM2.out.hp
      rw [HMN.out] at hres
      refine hres.mono ?_
      clear hres
      clear mc0 mc1
      rintro e w9 ⟨rfl, hb⟩
      have HB := hid (HB.out.trans (hb.mono HB.out.size))
      have LM2 := hid (LM2.out.bl hb)
      have RF := hid (RF.out.bl hb)
      have RS := hid (RS.out.bl hb)
      have RB := hid (RB.out.bl hb)
      have RI := hid (RI.out.bl hb)
      clear hb
      go_wp2_with fail
      go_ret
      exact ⟨rfl, HB1.out.trans (HB.out.mono HB1.out.size)⟩
    case pos =>
      have hii : (i0 : Int) < (q : Int) := by omega
      have hqp := HQP.out
      have g5 := G5.out
      have g6 := G6.out
      have g7 := G7.out
      obtain ⟨bS, oS, rfl⟩ := rows_some RS.out (by omega)
      obtain ⟨bB, oB, rfl⟩ := int_some RB.out (by omega)
      obtain ⟨bI, oI, rfl⟩ := int_some RI.out (by omega)
      obtain ⟨AS, cS, cs, hRS⟩ := row_at RS.out (k := i0) (by omega)
      have cb := int_at RB.out (k := i0) (by omega)
      have ci := int_at RI.out (k := i0) (by omega)
      have k1 : (i0 : Int) < (S.length : Int) := by omega
      have k2 : (i0 : Int) < (b.length : Int) := by omega
      have k3 : (i0 : Int) < (f.length : Int) := by omega
      have k4 : i0 < S.length := by omega
      have k5 : i0 < b.length := by omega
      have k6 : i0 < f.length := by omega
      obtain ⟨hh, he⟩ := G8.out i0 (by omega)
      obtain ⟨sp, hsp⟩ : ∃ sp, gt S i0 = sp := ⟨_, rfl⟩
      rw [hsp] at cs hRS hh he
      clear hqp g5 g6 g7 hsp
      have c1 := aft_cell (block_lt_of_cell cs) cs
      have c2 := aft_cell (block_lt_of_cell cb) cb
      have c3 := aft_cell (block_lt_of_cell ci) ci
      by_cases hs1 : sp.length = 1
      case pos =>
        obtain ⟨h7, h8⟩ := he hs1
        rw [decide_eq_true hs1] at hh
        obtain ⟨bx, ox, rfl⟩ := int_some hRS (by omega)
        have cx := int_at hRS (k := 0) (by omega)
        rw [Nat.add_zero] at cx
        obtain ⟨y, hy⟩ : ∃ y, gt sp 0 = y := ⟨_, rfl⟩
        rw [hy] at cx h7 h8
        rw [← h7] at c2
        rw [← h8] at c3
        rw [hs1] at c1
        have c4 := aft_cell (block_lt_of_cell cx) cx
        have CALL1 := hid fun X : Aft wr.heap.size wr => aft_call ((hasInt_any ARF _ cRF 0 V (i0 : Int) X.val (RF.out.bl X.prop)).mono fun e w2 h => (show e = .returned (.bool true) ∧ Below X.val.heap.size X.val w2 from ⟨by rw [h.1, hh], h.2 ▸ Below.refl _ _⟩)) (Nat.le_refl _)
        clear hh he hs1 hRS cs cb ci cx h7 h8 hy
        go_wp2_with fail
        refine wp_region_aft (Below.refl wr.heap.size wr) (by kernel_rfl) (by kernel_rfl) ?_
        repeat (go_big_quiet_step ((go_at_call 35; exact CALL1.out _)))
        refine wpQuiet_nil ?_
        rintro w9 ⟨⟨_, hb⟩, rfl⟩
        have HB := hid (HB.out.trans (hb.mono HB.out.size))
        have LM2 := hid (LM2.out.bl hb)
        have RF := hid (RF.out.bl hb)
        have RS := hid (RS.out.bl hb)
        have RB := hid (RB.out.bl hb)
        have RI := hid (RI.out.bl hb)
        clear hb
        clear c1 c2 c3 c4
        go_wp2_with fail
        go_roundg (gk - 1)
        case measure => have := HKG.out; omega
        case rel => exact ⟨i0 + 1, by have := HKG.out; omega, by go_num, HB.out⟩
      case neg =>
        rw [decide_eq_false hs1] at hh
        obtain ⟨sn, hsn⟩ : ∃ sn, sp.length = sn := ⟨_, rfl⟩
        rw [hsn] at c1 hs1
        have hb1 : ((sn : Int) == 1) = false := by rw [beq_eq_false_iff_ne]; omega
        have CALL1 := hid fun X : Aft wr.heap.size wr => aft_call ((hasInt_any ARF _ cRF 0 V (i0 : Int) X.val (RF.out.bl X.prop)).mono fun e w2 h => (show e = .returned (.bool false) ∧ Below X.val.heap.size X.val w2 from ⟨by rw [h.1, hh], h.2 ▸ Below.refl _ _⟩)) (Nat.le_refl _)
        clear hh he hRS cs cb ci hsn
        go_wp2_with fail
        refine wp_region_aft (Below.refl wr.heap.size wr) (by kernel_rfl) (by kernel_rfl) ?_
        repeat (go_big_quiet_step ((go_at_call 35; exact CALL1.out _)))
        refine wpQuiet_nil ?_
        rintro w9 ⟨⟨_, hb⟩, rfl⟩
        have HB := hid (HB.out.trans (hb.mono HB.out.size))
        have LM2 := hid (LM2.out.bl hb)
        have RF := hid (RF.out.bl hb)
        have RS := hid (RS.out.bl hb)
        have RB := hid (RB.out.bl hb)
        have RI := hid (RI.out.bl hb)
        clear hb
        clear c1 c2 c3 
        go_wp2_with fail
        go_roundg (gk - 1)
        case measure => have := HKG.out; omega
        case rel => exact ⟨i0 + 1, by have := HKG.out; omega, by go_num, HB.out⟩
end Go.Proofs.Ytfjoininagdlcaa
