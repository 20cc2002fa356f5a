/- The law FnPageSeen returns true for all arguments that can be read. -/
import Derived.Test.YtfjoininagdlcaaDrawLs
import Derived.Test.YtfjoininagdlcaaLawFns
import Derived.Test.YtfjoininagdlcaaLawKit
import Derived.Test.YtfjoininagdlcaaKeeper
import Derived.Test.YtfjoininagdlcaaSeenImpl
import Derived.Test.YtfjoininagdlcaaSure
import Derived.Deep.RegionHeld3
import Derived.StillTailTactics
namespace Go.Proofs.Ytfjoininagdlcaa
open Go.RowKit
set_option maxRecDepth 100000 in
set_option maxHeartbeats 4000000 in
theorem lawPageSeen (A0 : Option Addr) (n0 c0 : Nat) (bs : List UInt8) (w : World) (hnc : n0 ≤ c0) (hx : Rd byteS 0 w.heap.size w A0 n0 bs) :
    Calls Try.prog 8 #[.slice A0 n0 c0] w fun e w' => e = .returned (.bool true) ∧ Below w.heap.size w w' := by
  have hn63 := hx.2.1
  have HX := hid hx
  clear hx
  by_cases hn0 : n0 ≤ 1048576
  case neg =>
    have gn0 : (1048576 : Int) < (n0 : Int) := by omega
    go_enter Try.func8, Try.ntmps8
    go_wp2_with fail
    go_ret
    exact ⟨rfl, Below.refl _ _⟩
  have gn0 : ¬ (1048576 : Int) < (n0 : Int) := by omega
  go_enter Try.func8, Try.ntmps8
  go_wp2_with fail
  refine (DrawPageSeen_any A0 n0 c0 bs w hnc HX.out).mono ?_
  rintro e w1 ⟨A, n, c, l, B, m, e0, r, C, q, d, page, rfl, a1, a2, hb1⟩
  have LM2 := hid (LM.new (c := c) (e0 := e0) (t := 26) a1.hl a1.hr a2.hp)
  have hqp := a2.hp.1
  have hq5 := a2.q5
  have hln := a1.hl.1
  have hn1 := a1.n1
  have hn4 := a1.n4
  have HQP := hid hqp
  have HLN := hid hln
  have HB2 := hid (bal hb1 (.cells #[.slice A n c, .slice B m e0] 26))
  clear a1 a2 hb1 hqp hln
  go_wp2_with fail
  generalize (w1.alloc (.cells #[.slice A n c, .slice B m e0] 26)) = w2 at *
  obtain ⟨M, hM⟩ : ∃ M, w1.heap.size = M := ⟨_, rfl⟩
  rw [hM] at LM2 ⊢
  clear hM
  have HB := hid HB2.out
  have hlen := seenV_len (l := l) (r := r) (page := page)
  obtain ⟨V, hV⟩ : ∃ V, seenV l r page = V := ⟨_, rfl⟩
  rw [hV] at hlen
  have HV := hid hV
  cases V with
  | none =>
    have mc0 := LM2.out.at0
    have mc1 := LM2.out.at1
    have hres := implPageSeen_any A B C n c m e0 q d l r page w2 LM2.out.hl LM2.out.hr LM2.out.hp
    rw [HV.out] at hres
    refine hres.mono ?_
    clear hres
    clear mc0 mc1
    intro e w3 hres
    have hres2 := rb_rd hres (hlen)
    simp only [Option.getD_none, Option.isSome_none, List.length_nil] at hres2
    obtain ⟨ARF, cRF, rfl, hR, hb⟩ := hres2
    clear hres
    have HB := hid (HB.out.trans (hb.mono HB.out.size))
    have LM2 := hid (LM2.out.bl hb)
    clear hb
    have RF := hid hR
    clear hR
    have mc0 := LM2.out.at0
    have mc1 := LM2.out.at1
    go_wp2_with fail
    have hres := specPageSeen_any A B C n c m e0 q d 0 l r page w3 LM2.out.hl LM2.out.hr LM2.out.hp
    rw [HV.out] at hres
    refine hres.mono ?_
    clear hres
    clear mc0 mc1
    intro e w4 hres
    have hres2 := rb_rd hres (hlen)
    simp only [Option.getD_none, Option.isSome_none, List.length_nil] at hres2
    obtain ⟨ARG, cRG, rfl, hR, hb⟩ := hres2
    clear hres
    have HB := hid (HB.out.trans (hb.mono HB.out.size))
    have LM2 := hid (LM2.out.bl hb)
    have RF := hid (RF.out.bl hb)
    clear hb
    have RG := hid hR
    clear hR
    go_wp2_with fail
    refine (sameRows_any _ _ _ _ _ _ _ _ _ _ _ RF.out RG.out).mono ?_
    rintro e w5 ⟨rfl, hb⟩
    have HB := hid (HB.out.trans (hb.mono HB.out.size))
    have LM2 := hid (LM2.out.bl hb)
    have RF := hid (RF.out.bl hb)
    have RG := hid (RG.out.bl hb)
    clear hb
    rw [eqD_self]
    go_wp2_with fail
    refine (sameRows_any _ _ _ _ _ _ _ _ _ _ _ RF.out RG.out).mono ?_
    rintro e w6 ⟨rfl, hb⟩
    have HB := hid (HB.out.trans (hb.mono HB.out.size))
    have LM2 := hid (LM2.out.bl hb)
    have RF := hid (RF.out.bl hb)
    have RG := hid (RG.out.bl hb)
    clear hb
    rw [eqD_self]
    go_wp2_with fail
    go_ret
    exact ⟨rfl, HB.out⟩
  | some f =>
    have mc0 := LM2.out.at0
    have mc1 := LM2.out.at1
    have hres := implPageSeen_any A B C n c m e0 q d l r page w2 LM2.out.hl LM2.out.hr LM2.out.hp
    rw [HV.out] at hres
    refine hres.mono ?_
    clear hres
    clear mc0 mc1
    intro e w3 hres
    have hres2 := rb_rd hres (hlen)
    simp only [Option.getD_some, Option.isSome_some] at hres2
    obtain ⟨ARF, cRF, rfl, hR, hb⟩ := hres2
    clear hres
    have HB := hid (HB.out.trans (hb.mono HB.out.size))
    have LM2 := hid (LM2.out.bl hb)
    clear hb
    have RF := hid hR
    clear hR
    have mc0 := LM2.out.at0
    have mc1 := LM2.out.at1
    go_wp2_with fail
    have hres := specPageSeen_any A B C n c m e0 q d 0 l r page w3 LM2.out.hl LM2.out.hr LM2.out.hp
    rw [HV.out] at hres
    refine hres.mono ?_
    clear hres
    clear mc0 mc1
    intro e w4 hres
    have hres2 := rb_rd hres (hlen)
    simp only [Option.getD_some, Option.isSome_some] at hres2
    obtain ⟨ARG, cRG, rfl, hR, hb⟩ := hres2
    clear hres
    have HB := hid (HB.out.trans (hb.mono HB.out.size))
    have LM2 := hid (LM2.out.bl hb)
    have RF := hid (RF.out.bl hb)
    clear hb
    have RG := hid hR
    clear hR
    go_wp2_with fail
    refine (sameRows_any _ _ _ _ _ _ _ _ _ _ _ RF.out RG.out).mono ?_
    rintro e w5 ⟨rfl, hb⟩
    have HB := hid (HB.out.trans (hb.mono HB.out.size))
    have LM2 := hid (LM2.out.bl hb)
    have RF := hid (RF.out.bl hb)
    have RG := hid (RG.out.bl hb)
    clear hb
    rw [eqD_self]
    clear RG
    obtain ⟨g1, g2, g3, g4, g5⟩ := seen_law HV.out
    have G1 := hid g1
    have G2 := hid g2
    have G3 := hid g3
    have HOK := hid g4
    have G5 := hid g5
    clear g1 g2 g3 g4 g5
    have mc0 := LM2.out.at0
    have mc1 := LM2.out.at1
    go_wp2_with fail
    have hres := implPageSeen_any A B ARF n c m e0 f.length cRF l r f w5 LM2.out.hl LM2.out.hr RF.out
    rw [G1.out] at hres
    refine hres.mono ?_
    clear hres
    clear mc0 mc1
    intro e w6 hres
    have hres2 := rb_rd hres (hlen)
    simp only [Option.getD_some, Option.isSome_some] at hres2
    obtain ⟨ARX, cRX, rfl, hR, hb⟩ := hres2
    clear hres
    have HB := hid (HB.out.trans (hb.mono HB.out.size))
    have LM2 := hid (LM2.out.bl hb)
    have RF := hid (RF.out.bl hb)
    clear hb
    have RX := hid hR
    clear hR
    go_wp2_with fail
    have hmm : manyV l r page ≤ 1679616 := by rw [manyV_ok HOK.out]; have := many_max l r page (-1) HOK.out; omega
    obtain ⟨mn, hmn⟩ : ∃ mn, manyV l r page = mn := ⟨_, rfl⟩
    have hm2 := G2.out
    rw [hmn] at hm2 hmm
    have HM1 := hid hmn
    have HM2 := hid hm2
    clear hmn hm2
    have HB1 := HB
    clear HB
    have hqp := HQP.out
    have hfq : f.length = q := by rw [G3.out]; omega
    have HFQ := hid hfq
    clear hqp hfq
    go_loopg [11] q (fun gk i wr => ∃ i0 : Nat, i0 + gk = q ∧ i = .int .i64 i0 ∧ Below w6.heap.size w6 wr)
    case atStart => exact ⟨0, Nat.zero_add _, rfl, Below.refl _ _⟩
    case round =>
      obtain ⟨i0, hkg, rfl, hb⟩ := hrel
      have HKG := hid hkg
      have HB := hid hb
      have hi : i0 ≤ q := by omega
      clear hkg
      have LM2r := hid (LM2.out.bl hb)
      clear LM2
      have LM2 := LM2r
      clear LM2r
      have RFr := hid (RF.out.bl hb)
      clear RF
      have RF := RFr
      clear RFr
      have RXr := hid (RX.out.bl hb)
      clear RX
      have RX := RXr
      clear RXr
      clear hb
      by_cases hlt : i0 < q
      case neg =>
        obtain rfl : q = i0 := by omega
        have c1 := aft_cell (block_lt_of_cell LM2.out.at0) LM2.out.at0
        have c2 := aft_cell (block_lt_of_cell LM2.out.at1) LM2.out.at1
        have CALL1 := hid fun X : Aft wr.heap.size wr => aft_call ((sameRows_any _ _ _ _ cRX cRF 0 0 _ _ X.val (RX.out.bl X.prop) (RF.out.bl X.prop)).mono fun e w2 h => (show e = .returned (.bool true) ∧ Below X.val.heap.size X.val w2 from ⟨by rw [h.1, eqD_self], h.2⟩)) (Nat.le_refl _)
        have CALL2 := hid fun X : Aft wr.heap.size wr => aft_call ((implReadingsMany_any A B ARF n c m e0 f.length cRF 0 l r f X.val (LM2.out.bl X.prop).hl (LM2.out.bl X.prop).hr (RF.out.bl X.prop)).mono fun e w2 h => (show e = .returned (.int .i64 mn) ∧ Below X.val.heap.size X.val w2 from ⟨by rw [h.1, HM2.out], h.2⟩)) (Nat.le_refl _)
        have CALL3 := hid fun X : Aft wr.heap.size wr => aft_call ((implReadingsMany_any A B C n c m e0 q d 0 l r page X.val (LM2.out.bl X.prop).hl (LM2.out.bl X.prop).hr (LM2.out.bl X.prop).hp).mono fun e w2 h => (show e = .returned (.int .i64 mn) ∧ Below X.val.heap.size X.val w2 from ⟨by rw [h.1, HM1.out], h.2⟩)) (Nat.le_refl _)
        go_wp2_with fail
        refine wp_region_aft (Below.refl wr.heap.size wr) (by kernel_rfl) (by kernel_rfl) ?_
        repeat (go_big_quiet_step (first | (go_at_call 34; exact CALL1.out _) | (go_at_call 14; first | with_reducible exact CALL2.out _ | exact CALL3.out _)))
        refine wpQuiet_nil ?_
        rintro w7 ⟨⟨_, hb⟩, rfl⟩
        have HB := hid (HB.out.trans (hb.mono HB.out.size))
        have LM2 := hid (LM2.out.bl hb)
        have RF := hid (RF.out.bl hb)
        have RX := hid (RX.out.bl hb)
        clear hb
        clear c1 c2
        go_wp2_with fail
        go_ret
        exact ⟨rfl, HB1.out.trans (HB.out.mono HB1.out.size)⟩
      case pos =>
        have hii : (i0 : Int) < (q : Int) := by omega
        have hfq := HFQ.out
        obtain ⟨bC, off, rfl⟩ := rows_some LM2.out.hp (by omega)
        obtain ⟨bS, oS, rfl⟩ := rows_some RF.out (by omega)
        obtain ⟨pl, hpl⟩ : ∃ pl, gt page i0 = pl := ⟨_, rfl⟩
        have HPL := hid hpl
        obtain ⟨pn, hpn⟩ : ∃ pn, pl.length = pn := ⟨_, rfl⟩
        have HPN := hid hpn
        have hqp := HQP.out
        have hp0 : 0 < pn := by have := ((pageOk_yes (bothOk_yes HOK.out).2).2 (gt page i0) (gt_mem (by omega))).1; rw [hpl] at this; rw [← hpn]; exact List.length_pos_iff.2 this
        have hp6 := pageOk_len (bothOk_yes HOK.out).2 (gt page i0) (gt_mem (by omega))
        rw [hpl, hpn] at hp6
        have HFV := hid fun x hx => forceV_some (bothOk_yes HOK.out).2 (a := i0) (x := x) (by omega) (hpl.symm ▸ hx)
        have HFO := hid fun x hx => both_forced (l := l) (r := r) (a := i0) (x := x) HOK.out (by omega) (hpl.symm ▸ hx)
        have HG := hid fun x hx => G5.out i0 (by omega) x (hpl.symm ▸ hx)
        clear hpl hpn hqp hfq
        obtain ⟨wo, hwo⟩ : ∃ x : World, x = wr := ⟨_, rfl⟩
        subst hwo
        obtain ⟨gko, hgo⟩ : ∃ x : Nat, x = gk := ⟨_, rfl⟩
        subst hgo
        have HBO := HB
        clear HB
        go_wp2_with fail
        go_loopg [12] pn (fun gk i wr => ∃ k : Nat, k + gk = pn ∧ i = .int .i64 k ∧ Below wo.heap.size wo wr)
        case atStart => exact ⟨0, Nat.zero_add _, rfl, Below.refl _ _⟩
        case round =>
          obtain ⟨k, hkg, rfl, hb⟩ := hrel
          have HKG2 := hid hkg
          have HB := hid hb
          have hk : k ≤ pn := by omega
          clear hkg
          have LM2r := hid (LM2.out.bl hb)
          clear LM2
          have LM2 := LM2r
          clear LM2r
          have RFr := hid (RF.out.bl hb)
          clear RF
          have RF := RFr
          clear RFr
          have RXr := hid (RX.out.bl hb)
          clear RX
          have RX := RXr
          clear RXr
          clear hb
          obtain ⟨AX, cX, cx, hRX⟩ := row_at LM2.out.hp hlt
          rw [HPL.out] at cx hRX
          obtain ⟨bx, ox, rfl⟩ := int_some hRX (by rw [HPN.out]; exact hp0)
          have HCX := hid hRX
          rw [HPN.out] at cx
          clear hRX
          by_cases hkl : k < pn
          case neg =>
            obtain rfl : pn = k := by omega
            go_wp2_with fail
            go_roundg (gko - 1)
            case measure => have := HKG.out; omega
            case rel => exact ⟨i0 + 1, by have := HKG.out; omega, by go_num, HBO.out.trans (HB.out.mono HBO.out.size)⟩
          case pos =>
            have hki : (k : Int) < (pn : Int) := by omega
            have ci := int_at HCX.out (k := k) (by rw [HPN.out]; exact hkl)
            obtain ⟨x, hxx⟩ : ∃ x, gt pl k = x := ⟨_, rfl⟩
            have hxin : x ∈ pl := by rw [← hxx]; exact gt_mem (by rw [HPN.out]; exact hkl)
            rw [hxx] at ci
            have HXX := hid hxx
            have HXI := hid hxin
            clear hxx hxin
            have mc0 := LM2.out.at0
            have mc1 := LM2.out.at1
            go_wp2_with fail
            have hfv : forceV (n : Int) page (i0 : Int) x = some (forceL (i0 : Int) x 0 page) := by rw [HLN.out]; exact HFV.out x HXI.out
            have hfl : ((some (forceL (i0 : Int) x 0 page)).getD []).length ≤ 1048576 := by rw [Option.getD_some, forceL_len]; have := HQP.out; have := hq5; omega
            have HFL := hid hfl
            have HFE := hid hfv
            clear hfl hfv
            refine wp_region_invH (by kernel_rfl) (by kernel_rfl) (fun L a X => ∃ v13 v14 v77 v78 v79 v80 v81 v82 v83 v84 v85 v86 v87 v88 v89 v90 v91 v92 : Value, a = { tmps := #[Value.slice A0 n0 c0, undef, u2, Value.pointer (some ⟨M, 0, none⟩), Value.slice (some ⟨bC, off, none⟩) q d, Value.slice (some ⟨bS, oS, none⟩) f.length cRF, Value.bool true, Value.slice ARG f.length cRG, Value.bool true, Value.slice ARX f.length cRX, Value.bool true, Value.int IntKind.i64 ↑i0, Value.int IntKind.i64 ↑k, v13, v14, Value.slice A0 n0 c0, Value.int IntKind.i64 ↑n0, Value.bool false, Value.tuple #[Value.agg #[Value.slice A n c, Value.slice B m e0], Value.slice (some ⟨bC, off, none⟩) q d], Value.slice A0 n0 c0, Value.tuple #[Value.agg #[Value.slice A n c, Value.slice B m e0], Value.slice (some ⟨bC, off, none⟩) q d], Value.agg #[Value.slice A n c, Value.slice B m e0], Value.slice (some ⟨bC, off, none⟩) q d, Value.tuple #[Value.slice (some ⟨bS, oS, none⟩) f.length cRF, Value.bool true], Value.agg #[Value.slice A n c, Value.slice B m e0], Value.slice (some ⟨bC, off, none⟩) q d, Value.tuple #[Value.slice (some ⟨bS, oS, none⟩) f.length cRF, Value.bool true], Value.slice (some ⟨bS, oS, none⟩) f.length cRF, Value.bool true, Value.tuple #[Value.slice ARG f.length cRG, Value.bool true], Value.agg #[Value.slice A n c, Value.slice B m e0], Value.slice (some ⟨bC, off, none⟩) q d, Value.tuple #[Value.slice ARG f.length cRG, Value.bool true], Value.slice ARG f.length cRG, Value.bool true, Value.bool true, Value.bool true, Value.bool false, Value.bool false, Value.slice (some ⟨bS, oS, none⟩) f.length cRF, Value.slice ARG f.length cRG, Value.bool true, Value.bool false, Value.bool false, Value.bool false, Value.bool true, Value.bool false, Value.bool false, undef, undef, undef, undef, undef, undef, undef, undef, Value.tuple #[Value.slice ARX f.length cRX, Value.bool true], Value.agg #[Value.slice A n c, Value.slice B m e0], Value.slice (some ⟨bS, oS, none⟩) f.length cRF, Value.tuple #[Value.slice ARX f.length cRX, Value.bool true], Value.slice ARX f.length cRX, Value.bool true, Value.int IntKind.i64 ↑i0, Value.slice (some ⟨bC, off, none⟩) q d, Value.int IntKind.i64 ↑q, Value.bool true, u66, u67, Value.int IntKind.i64 ↑k, Value.slice (some ⟨bC, off, none⟩) q d, Value.int IntKind.i64 ↑i0, Value.pointer (some ⟨bC, off + i0, none⟩), Value.slice (some ⟨bx, ox, none⟩) pn cX, Value.int IntKind.i64 ↑pn, Value.bool true, u75, u76, v77, v78, v79, v80, v81, v82, v83, v84, v85, v86, v87, v88, v89, v90, v91, v92, u93, u94, u95, u96, u97, u98, u99, u100, u101, u102, u103, u104, u105, u106, u107, u108, u109, u110, u111, u112, u113, undef, undef, undef, undef, undef, undef, undef, undef, undef, undef, undef, undef, undef, undef, undef], defers := [] } ∧
              (Below wr.heap.size wr X) ∧ (L 0 = true → v78 = .pointer (some ⟨M, 0, none⟩)) ∧ (L 1 = true → v79 = .slice A n c) ∧ (L 2 = true → v80 = .int .i64 n) ∧ (L 3 = true → v81 = .slice (some ⟨bC, off, none⟩) q d) ∧ (L 4 = true → v82 = .int .i64 i0) ∧ (L 5 = true → v83 = .slice (some ⟨bC, off, none⟩) q d) ∧ (L 6 = true → v84 = .int .i64 i0) ∧ (L 7 = true → v85 = .pointer (some ⟨bC, off + i0, none⟩)) ∧ (L 8 = true → v86 = .slice (some ⟨bx, ox, none⟩) pn cX) ∧ (L 9 = true → v87 = .int .i64 k) ∧ (L 10 = true → v88 = .pointer (some ⟨bx, ox + k, none⟩)) ∧ (L 11 = true → v89 = .int .i64 x) ∧ (L 12 = true → ∃ (D : Option Addr) (dd : Nat), v90 = .tuple #[.slice D (forceL (i0 : Int) x 0 page).length dd, .bool true] ∧ Rd (sliceS intS) 0 X.heap.size X D (forceL (i0 : Int) x 0 page).length (forceL (i0 : Int) x 0 page)) ∧ (L 13 = true → ∃ (D : Option Addr) (dd : Nat), v77 = .tuple #[.slice D (forceL (i0 : Int) x 0 page).length dd, .bool true] ∧ Rd (sliceS intS) 0 X.heap.size X D (forceL (i0 : Int) x 0 page).length (forceL (i0 : Int) x 0 page)) ∧ (L 14 = true → ∃ (D : Option Addr) (dd : Nat), v91 = .slice D (forceL (i0 : Int) x 0 page).length dd ∧ Rd (sliceS intS) 0 X.heap.size X D (forceL (i0 : Int) x 0 page).length (forceL (i0 : Int) x 0 page)) ∧ (L 15 = true → v92 = .bool true) ∧ (L 16 = true → ∃ (D : Option Addr) (dd : Nat), v13 = .slice D (forceL (i0 : Int) x 0 page).length dd ∧ Rd (sliceS intS) 0 X.heap.size X D (forceL (i0 : Int) x 0 page).length (forceL (i0 : Int) x 0 page)) ∧ (L 17 = true → v14 = .bool true)) ?_ ⟨?_, ?_, ?_, ?_, ?_, ?_, ?_, ?_, ?_, ?_, ?_, ?_, ?_, ?_, ?_, ?_, ?_, ?_, trivial⟩ ?_
            · exact ⟨_, _, _, _, _, _, _, _, _, _, _, _, _, _, _, _, _, _, rfl, bdr _, fun h => (by cases h), fun h => (by cases h), fun h => (by cases h), fun h => (by cases h), fun h => (by cases h), fun h => (by cases h), fun h => (by cases h), fun h => (by cases h), fun h => (by cases h), fun h => (by cases h), fun h => (by cases h), fun h => (by cases h), fun h => (by cases h), fun h => (by cases h), fun h => (by cases h), fun h => (by cases h), fun h => (by cases h), fun h => (by cases h)⟩
            · rintro L a X K0 ⟨v13, v14, v77, v78, v79, v80, v81, v82, v83, v84, v85, v86, v87, v88, v89, v90, v91, v92, rfl, hB, f0, f1, f2, f3, f4, f5, f6, f7, f8, f9, f10, f11, f12, f13, f14, f15, f16, f17⟩ hL hd hK
              clear hd
              refine ⟨rfl, ?_⟩
              go_simp
              exact hK _ _ ⟨_, _, _, _, _, _, _, _, _, _, _, _, _, _, _, _, _, _, rfl, hB, fun _ => rfl, f1, f2, f3, f4, f5, f6, f7, f8, f9, f10, f11, f12, f13, f14, f15, f16, f17⟩
            · rintro L a X K0 ⟨v13, v14, v77, v78, v79, v80, v81, v82, v83, v84, v85, v86, v87, v88, v89, v90, v91, v92, rfl, hB, f0, f1, f2, f3, f4, f5, f6, f7, f8, f9, f10, f11, f12, f13, f14, f15, f16, f17⟩ hL hd hK
              have d0 := hd ⟨0, .data⟩ (by simp) rfl
              obtain rfl := f0 d0
              have q0 := bcl hB mc0
              clear hd
              refine ⟨rfl, ?_⟩
              go_simp
              exact hK _ _ ⟨_, _, _, _, _, _, _, _, _, _, _, _, _, _, _, _, _, _, rfl, hB, f0, fun _ => rfl, f2, f3, f4, f5, f6, f7, f8, f9, f10, f11, f12, f13, f14, f15, f16, f17⟩
            · rintro L a X K0 ⟨v13, v14, v77, v78, v79, v80, v81, v82, v83, v84, v85, v86, v87, v88, v89, v90, v91, v92, rfl, hB, f0, f1, f2, f3, f4, f5, f6, f7, f8, f9, f10, f11, f12, f13, f14, f15, f16, f17⟩ hL hd hK
              have d1 := hd ⟨1, .data⟩ (by simp) rfl
              obtain rfl := f1 d1
              clear hd
              refine ⟨rfl, ?_⟩
              go_simp
              exact hK _ _ ⟨_, _, _, _, _, _, _, _, _, _, _, _, _, _, _, _, _, _, rfl, hB, f0, f1, fun _ => rfl, f3, f4, f5, f6, f7, f8, f9, f10, f11, f12, f13, f14, f15, f16, f17⟩
            · rintro L a X K0 ⟨v13, v14, v77, v78, v79, v80, v81, v82, v83, v84, v85, v86, v87, v88, v89, v90, v91, v92, rfl, hB, f0, f1, f2, f3, f4, f5, f6, f7, f8, f9, f10, f11, f12, f13, f14, f15, f16, f17⟩ hL hd hK
              clear hd
              refine ⟨rfl, ?_⟩
              go_simp
              exact hK _ _ ⟨_, _, _, _, _, _, _, _, _, _, _, _, _, _, _, _, _, _, rfl, hB, f0, f1, f2, fun _ => rfl, f4, f5, f6, f7, f8, f9, f10, f11, f12, f13, f14, f15, f16, f17⟩
            · rintro L a X K0 ⟨v13, v14, v77, v78, v79, v80, v81, v82, v83, v84, v85, v86, v87, v88, v89, v90, v91, v92, rfl, hB, f0, f1, f2, f3, f4, f5, f6, f7, f8, f9, f10, f11, f12, f13, f14, f15, f16, f17⟩ hL hd hK
              clear hd
              refine ⟨rfl, ?_⟩
              go_simp
              exact hK _ _ ⟨_, _, _, _, _, _, _, _, _, _, _, _, _, _, _, _, _, _, rfl, hB, f0, f1, f2, f3, fun _ => rfl, f5, f6, f7, f8, f9, f10, f11, f12, f13, f14, f15, f16, f17⟩
            · rintro L a X K0 ⟨v13, v14, v77, v78, v79, v80, v81, v82, v83, v84, v85, v86, v87, v88, v89, v90, v91, v92, rfl, hB, f0, f1, f2, f3, f4, f5, f6, f7, f8, f9, f10, f11, f12, f13, f14, f15, f16, f17⟩ hL hd hK
              clear hd
              refine ⟨rfl, ?_⟩
              go_simp
              exact hK _ _ ⟨_, _, _, _, _, _, _, _, _, _, _, _, _, _, _, _, _, _, rfl, hB, f0, f1, f2, f3, f4, fun _ => rfl, f6, f7, f8, f9, f10, f11, f12, f13, f14, f15, f16, f17⟩
            · rintro L a X K0 ⟨v13, v14, v77, v78, v79, v80, v81, v82, v83, v84, v85, v86, v87, v88, v89, v90, v91, v92, rfl, hB, f0, f1, f2, f3, f4, f5, f6, f7, f8, f9, f10, f11, f12, f13, f14, f15, f16, f17⟩ hL hd hK
              clear hd
              refine ⟨rfl, ?_⟩
              go_simp
              exact hK _ _ ⟨_, _, _, _, _, _, _, _, _, _, _, _, _, _, _, _, _, _, rfl, hB, f0, f1, f2, f3, f4, f5, fun _ => rfl, f7, f8, f9, f10, f11, f12, f13, f14, f15, f16, f17⟩
            · rintro L a X K0 ⟨v13, v14, v77, v78, v79, v80, v81, v82, v83, v84, v85, v86, v87, v88, v89, v90, v91, v92, rfl, hB, f0, f1, f2, f3, f4, f5, f6, f7, f8, f9, f10, f11, f12, f13, f14, f15, f16, f17⟩ hL hd hK
              have d5 := hd ⟨5, .data⟩ (by simp) rfl
              obtain rfl := f5 d5
              have d6 := hd ⟨6, .data⟩ (by simp) rfl
              obtain rfl := f6 d6
              clear hd
              refine ⟨rfl, ?_⟩
              go_simp
              exact hK _ _ ⟨_, _, _, _, _, _, _, _, _, _, _, _, _, _, _, _, _, _, rfl, hB, f0, f1, f2, f3, f4, f5, f6, fun _ => rfl, f8, f9, f10, f11, f12, f13, f14, f15, f16, f17⟩
            · rintro L a X K0 ⟨v13, v14, v77, v78, v79, v80, v81, v82, v83, v84, v85, v86, v87, v88, v89, v90, v91, v92, rfl, hB, f0, f1, f2, f3, f4, f5, f6, f7, f8, f9, f10, f11, f12, f13, f14, f15, f16, f17⟩ hL hd hK
              have d7 := hd ⟨7, .data⟩ (by simp) rfl
              obtain rfl := f7 d7
              have q0 := bcl hB cx
              clear hd
              refine ⟨rfl, ?_⟩
              go_simp
              exact hK _ _ ⟨_, _, _, _, _, _, _, _, _, _, _, _, _, _, _, _, _, _, rfl, hB, f0, f1, f2, f3, f4, f5, f6, f7, fun _ => rfl, f9, f10, f11, f12, f13, f14, f15, f16, f17⟩
            · rintro L a X K0 ⟨v13, v14, v77, v78, v79, v80, v81, v82, v83, v84, v85, v86, v87, v88, v89, v90, v91, v92, rfl, hB, f0, f1, f2, f3, f4, f5, f6, f7, f8, f9, f10, f11, f12, f13, f14, f15, f16, f17⟩ hL hd hK
              clear hd
              refine ⟨rfl, ?_⟩
              go_simp
              exact hK _ _ ⟨_, _, _, _, _, _, _, _, _, _, _, _, _, _, _, _, _, _, rfl, hB, f0, f1, f2, f3, f4, f5, f6, f7, f8, fun _ => rfl, f10, f11, f12, f13, f14, f15, f16, f17⟩
            · rintro L a X K0 ⟨v13, v14, v77, v78, v79, v80, v81, v82, v83, v84, v85, v86, v87, v88, v89, v90, v91, v92, rfl, hB, f0, f1, f2, f3, f4, f5, f6, f7, f8, f9, f10, f11, f12, f13, f14, f15, f16, f17⟩ hL hd hK
              have d8 := hd ⟨8, .data⟩ (by simp) rfl
              obtain rfl := f8 d8
              have d9 := hd ⟨9, .data⟩ (by simp) rfl
              obtain rfl := f9 d9
              clear hd
              refine ⟨rfl, ?_⟩
              go_simp
              exact hK _ _ ⟨_, _, _, _, _, _, _, _, _, _, _, _, _, _, _, _, _, _, rfl, hB, f0, f1, f2, f3, f4, f5, f6, f7, f8, f9, fun _ => rfl, f11, f12, f13, f14, f15, f16, f17⟩
            · rintro L a X K0 ⟨v13, v14, v77, v78, v79, v80, v81, v82, v83, v84, v85, v86, v87, v88, v89, v90, v91, v92, rfl, hB, f0, f1, f2, f3, f4, f5, f6, f7, f8, f9, f10, f11, f12, f13, f14, f15, f16, f17⟩ hL hd hK
              have d10 := hd ⟨10, .data⟩ (by simp) rfl
              obtain rfl := f10 d10
              have q0 := bcl hB ci
              clear hd
              refine ⟨rfl, ?_⟩
              go_simp
              exact hK _ _ ⟨_, _, _, _, _, _, _, _, _, _, _, _, _, _, _, _, _, _, rfl, hB, f0, f1, f2, f3, f4, f5, f6, f7, f8, f9, f10, fun _ => rfl, f12, f13, f14, f15, f16, f17⟩
            · rintro L a X K0 ⟨v13, v14, v77, v78, v79, v80, v81, v82, v83, v84, v85, v86, v87, v88, v89, v90, v91, v92, rfl, hB, f0, f1, f2, f3, f4, f5, f6, f7, f8, f9, f10, f11, f12, f13, f14, f15, f16, f17⟩ hL hd hK
              have d2 := hd ⟨2, .data⟩ (by simp) rfl
              obtain rfl := f2 d2
              have d3 := hd ⟨3, .data⟩ (by simp) rfl
              obtain rfl := f3 d3
              have d4 := hd ⟨4, .data⟩ (by simp) rfl
              obtain rfl := f4 d4
              have d11 := hd ⟨11, .data⟩ (by simp) rfl
              obtain rfl := f11 d11
              clear hd
              refine ⟨rfl, ?_⟩
              go_simp
              have hres := implPageForce_any (some ⟨bC, off, none⟩) q d 0 (n : Int) (i0 : Int) x page X (LM2.out.hp.bl hB)
              rw [HFE.out] at hres
              refine hres.mono ?_
              clear hres
              intro e X2 hres
              have hres2 := rb_rd hres (HFL.out)
              simp only [Option.getD_some, Option.isSome_some] at hres2
              obtain ⟨A9, c9, rfl, hR9, hb⟩ := hres2
              exact hK _ _ ⟨_, _, _, _, _, _, _, _, _, _, _, _, _, _, _, _, _, _, rfl, btr hB hb, f0, f1, f2, f3, f4, f5, f6, f7, f8, f9, f10, f11, fun _ => ⟨A9, c9, rfl, hR9⟩, fun h => (by obtain ⟨D, dd, e, l⟩ := f13 h; exact ⟨D, dd, e, l.bl hb⟩), fun h => (by obtain ⟨D, dd, e, l⟩ := f14 h; exact ⟨D, dd, e, l.bl hb⟩), f15, fun h => (by obtain ⟨D, dd, e, l⟩ := f16 h; exact ⟨D, dd, e, l.bl hb⟩), f17⟩
            · rintro L a X K0 ⟨v13, v14, v77, v78, v79, v80, v81, v82, v83, v84, v85, v86, v87, v88, v89, v90, v91, v92, rfl, hB, f0, f1, f2, f3, f4, f5, f6, f7, f8, f9, f10, f11, f12, f13, f14, f15, f16, f17⟩ hL hd hK
              have d12 := hd ⟨12, .data⟩ (by simp) rfl
              obtain ⟨D, dd, rfl, hrd⟩ := f12 d12
              clear hd
              refine ⟨rfl, ?_⟩
              go_simp
              exact hK _ _ ⟨_, _, _, _, _, _, _, _, _, _, _, _, _, _, _, _, _, _, rfl, hB, f0, f1, f2, f3, f4, f5, f6, f7, f8, f9, f10, f11, fun _ => ⟨D, dd, rfl, hrd⟩, fun _ => ⟨D, dd, rfl, hrd⟩, f14, f15, f16, f17⟩
            · rintro L a X K0 ⟨v13, v14, v77, v78, v79, v80, v81, v82, v83, v84, v85, v86, v87, v88, v89, v90, v91, v92, rfl, hB, f0, f1, f2, f3, f4, f5, f6, f7, f8, f9, f10, f11, f12, f13, f14, f15, f16, f17⟩ hL hd hK
              have d13 := hd ⟨13, .data⟩ (by simp) rfl
              obtain ⟨D, dd, rfl, hrd⟩ := f13 d13
              clear hd
              refine ⟨rfl, ?_⟩
              go_simp
              exact hK _ _ ⟨_, _, _, _, _, _, _, _, _, _, _, _, _, _, _, _, _, _, rfl, hB, f0, f1, f2, f3, f4, f5, f6, f7, f8, f9, f10, f11, f12, fun _ => ⟨D, dd, rfl, hrd⟩, fun _ => ⟨D, dd, rfl, hrd⟩, f15, f16, f17⟩
            · rintro L a X K0 ⟨v13, v14, v77, v78, v79, v80, v81, v82, v83, v84, v85, v86, v87, v88, v89, v90, v91, v92, rfl, hB, f0, f1, f2, f3, f4, f5, f6, f7, f8, f9, f10, f11, f12, f13, f14, f15, f16, f17⟩ hL hd hK
              have d13 := hd ⟨13, .data⟩ (by simp) rfl
              obtain ⟨D, dd, rfl, hrd⟩ := f13 d13
              clear hd
              refine ⟨rfl, ?_⟩
              go_simp
              exact hK _ _ ⟨_, _, _, _, _, _, _, _, _, _, _, _, _, _, _, _, _, _, rfl, hB, f0, f1, f2, f3, f4, f5, f6, f7, f8, f9, f10, f11, f12, fun _ => ⟨D, dd, rfl, hrd⟩, f14, fun _ => rfl, f16, f17⟩
            · rintro L a X K0 ⟨v13, v14, v77, v78, v79, v80, v81, v82, v83, v84, v85, v86, v87, v88, v89, v90, v91, v92, rfl, hB, f0, f1, f2, f3, f4, f5, f6, f7, f8, f9, f10, f11, f12, f13, f14, f15, f16, f17⟩ hL hd hK
              have d14 := hd ⟨14, .data⟩ (by simp) rfl
              obtain ⟨D, dd, rfl, hrd⟩ := f14 d14
              clear hd
              refine ⟨rfl, ?_⟩
              go_simp
              exact hK _ _ ⟨_, _, _, _, _, _, _, _, _, _, _, _, _, _, _, _, _, _, rfl, hB, f0, f1, f2, f3, f4, f5, f6, f7, f8, f9, f10, f11, f12, f13, fun _ => ⟨D, dd, rfl, hrd⟩, f15, fun _ => ⟨D, dd, rfl, hrd⟩, f17⟩
            · rintro L a X K0 ⟨v13, v14, v77, v78, v79, v80, v81, v82, v83, v84, v85, v86, v87, v88, v89, v90, v91, v92, rfl, hB, f0, f1, f2, f3, f4, f5, f6, f7, f8, f9, f10, f11, f12, f13, f14, f15, f16, f17⟩ hL hd hK
              have d15 := hd ⟨15, .data⟩ (by simp) rfl
              obtain rfl := f15 d15
              clear hd
              refine ⟨rfl, ?_⟩
              go_simp
              exact hK _ _ ⟨_, _, _, _, _, _, _, _, _, _, _, _, _, _, _, _, _, _, rfl, hB, f0, f1, f2, f3, f4, f5, f6, f7, f8, f9, f10, f11, f12, f13, f14, f15, f16, fun _ => rfl⟩
            · rintro L a X hLL ⟨v13, v14, v77, v78, v79, v80, v81, v82, v83, v84, v85, v86, v87, v88, v89, v90, v91, v92, rfl, hB, f0, f1, f2, f3, f4, f5, f6, f7, f8, f9, f10, f11, f12, f13, f14, f15, f16, f17⟩
              obtain ⟨ARP, cRP, rfl, hR⟩ := f16 (hLL 16 (by simp))
              obtain rfl := f17 (hLL 17 (by simp))
              have hb := hB
              clear f0 f1 f2 f3 f4 f5 f6 f7 f8 f9 f10 f11 f12 f13 f14 f15 f16 f17 hB hLL mc0 mc1
              have HB := hid (HB.out.trans (hb.mono HB.out.size))
              have LM2 := hid (LM2.out.bl hb)
              have RF := hid (RF.out.bl hb)
              have RX := hid (RX.out.bl hb)
              clear hb
              have RP := hid hR
              clear hR
              clear cx ci HCX
              obtain ⟨AX, cX, cx, hRX⟩ := row_at LM2.out.hp hlt
              rw [HPL.out] at cx hRX
              obtain ⟨bx, ox, rfl⟩ := int_some hRX (by rw [HPN.out]; exact hp0)
              have ci := int_at hRX (k := k) (by rw [HPN.out]; exact hkl)
              rw [HXX.out] at ci
              rw [HPN.out] at cx
              clear hRX
              obtain ⟨AS, cS, cs, hRS⟩ := row_at RF.out (k := i0) (by have := HFQ.out; omega)
              have HRS := hid hRS
              clear hRS
              have hfi : (i0 : Int) < (f.length : Int) := by have := HFQ.out; omega
              have hfin : i0 < f.length := by have := HFQ.out; omega
              have hdec := HG.out x HXI.out
              obtain ⟨mx, hmx⟩ : ∃ mx, manyV l r (forceL (i0 : Int) x 0 page) = mx := ⟨_, rfl⟩
              rw [hmx] at hdec
              have HMX := hid hmx
              obtain ⟨T, hT⟩ : ∃ T, hasI (gt f i0) x = T := ⟨_, rfl⟩
              rw [hT] at hdec
              have HT := hid hT
              clear hmx hT
              have CALL1 := hid fun X : Aft X.heap.size X => aft_call ((hasInt_any AS _ cS 0 _ x X.val (HRS.out.bl X.prop)).mono fun e w2 h => (show e = .returned (.bool T) ∧ Below X.val.heap.size X.val w2 from ⟨by rw [h.1, HT.out], h.2 ▸ Below.refl _ _⟩)) (Nat.le_refl _)
              have CALL2 := hid fun X : Aft X.heap.size X => aft_call ((implReadingsMany_any A B ARP n c m e0 _ cRP 0 l r (forceL (i0 : Int) x 0 page) X.val (LM2.out.bl X.prop).hl (LM2.out.bl X.prop).hr (RP.out.bl X.prop)).mono fun e w2 h => (show e = .returned (.int .i64 mx) ∧ Below X.val.heap.size X.val w2 from ⟨by rw [h.1, HMX.out], h.2⟩)) (Nat.le_refl _)
              have c1 := aft_cell (block_lt_of_cell LM2.out.at0) LM2.out.at0
              have c2 := aft_cell (block_lt_of_cell LM2.out.at1) LM2.out.at1
              have c3 := aft_cell (block_lt_of_cell cx) cx
              have c4 := aft_cell (block_lt_of_cell ci) ci
              have c5 := aft_cell (block_lt_of_cell cs) cs
              have hneq : (T != decide (0 < mx)) = false := by rw [← hdec]; cases T <;> rfl
              clear hdec
              cases T with
              | true =>
                have hmx0 : 0 < mx := by simpa using hneq
                clear hneq
                go_wp2_with fail
                refine wp_region_aft (Below.refl X.heap.size X) (by kernel_rfl) (by kernel_rfl) ?_
                repeat (go_big_quiet_step (first | (go_at_call 35; exact CALL1.out _) | (go_at_call 14; exact CALL2.out _)))
                refine wpQuiet_nil ?_
                rintro w8 ⟨⟨_, hb⟩, rfl⟩
                have HB := hid (HB.out.trans (hb.mono HB.out.size))
                have LM2 := hid (LM2.out.bl hb)
                have RF := hid (RF.out.bl hb)
                have RX := hid (RX.out.bl hb)
                have RP := hid (RP.out.bl hb)
                clear hb
                clear c1 c2 c3 c4 c5 cx ci cs
                go_wp2_with fail
                go_roundg (gk - 1)
                case measure => have := HKG2.out; omega
                case rel => exact ⟨k + 1, by have := HKG2.out; omega, by go_num, HB.out⟩
              | false =>
                have hmx0 : ¬ 0 < mx := by simpa using hneq
                clear hneq
                go_wp2_with fail
                refine wp_region_aft (Below.refl X.heap.size X) (by kernel_rfl) (by kernel_rfl) ?_
                repeat (go_big_quiet_step (first | (go_at_call 35; exact CALL1.out _) | (go_at_call 14; exact CALL2.out _)))
                refine wpQuiet_nil ?_
                rintro w8 ⟨⟨_, hb⟩, rfl⟩
                have HB := hid (HB.out.trans (hb.mono HB.out.size))
                have LM2 := hid (LM2.out.bl hb)
                have RF := hid (RF.out.bl hb)
                have RX := hid (RX.out.bl hb)
                have RP := hid (RP.out.bl hb)
                clear hb
                clear c1 c2 c3 c4 c5 cx ci cs
                go_wp2_with fail
                go_roundg (gk - 1)
                case measure => have := HKG2.out; omega
                case rel => exact ⟨k + 1, by have := HKG2.out; omega, by go_num, HB.out⟩
end Go.Proofs.Ytfjoininagdlcaa
