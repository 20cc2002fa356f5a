/- The law FnPageForce returns true for all arguments that can be read. -/
import Derived.Test.YteccacnojmilcaaDrawPF
import Derived.Test.YteccacnojmilcaaSame
import Derived.Test.YteccacnojmilcaaForceLaw
import Derived.Test.YteccacnojmilcaaModNest
import Derived.Deep.RegionHeld3
namespace Go.Proofs.Yteccacnojmilcaa
open Go.RowKit
set_option maxRecDepth 100000 in
set_option maxHeartbeats 2000000 in
theorem lawPageForce (A : Option Addr) (n c : Nat) (l : List UInt8) (w : World) (hnc : n ≤ c) (hx : Rd byteS 0 w.heap.size w A n l) :
    Calls Try.prog 4 #[.slice A n c] w fun e w' => e = .returned (.bool true) ∧ Below w.heap.size w w' := by
  have hn63 := hx.2.1
  have HX := hid hx
  clear hx
  by_cases hn : n ≤ 1048576
  case neg =>
    have h1 : (1048576 : Int) < (n : Int) := by omega
    go_enter Try.func4, Try.ntmps4
    go_wp2_with fail
    go_ret
    exact ⟨rfl, Below.refl _ _⟩
  have h1 : ¬ (1048576 : Int) < (n : Int) := by omega
  go_enter Try.func4, Try.ntmps4
  go_wp2_with fail
  refine (DrawPageForce_any A n c l w hnc HX.out).mono ?_
  rintro e w1 ⟨N, D, dd, rows, a, x, rfl, hN1, hN5, hrd, hrl, hr6, ha0, ha5, hx0, hx5, hb1⟩
  have RD1 := hid hrd
  have B1 := hid hb1
  have H6 := hid hr6
  clear hrd hb1 hr6
  go_wp2_with fail
  refine (implPageForce_any D rows.length dd 0 N a x rows w1 RD1.out).mono ?_
  intro e w2 hres
  unfold RetRB at hres
  have SP := hid fun w' (hb : Below w1.heap.size w1 w') => specPageForce_any D rows.length dd 0 N a x rows w' (RD1.out.bl hb)
  obtain ⟨V, hV⟩ : ∃ V, forceV N rows a x = V := ⟨_, rfl⟩
  rw [hV] at hres SP
  have HV := hid hV
  clear hV
  cases V with
  | none =>
    obtain ⟨OB, od, ors, rfl, hN2, hm2, hb2⟩ := hres
    have RO := hid (hN2.rd0 hm2 (by simp))
    have B2 := hid hb2
    clear hN2 hm2 hb2
    go_wp2_with fail
    refine (SP.out _ B2.out).mono ?_
    rintro e w3 ⟨WB, wd, wrs, rfl, hN3, hm3, hb3⟩
    have RW := hid (hN3.rd0 hm3 (by simp))
    have RO3 := hid (RO.out.bl hb3)
    have B3 := hid (btr B2.out hb3)
    clear hN3 hm3 hb3
    go_wp2_with fail
    refine (sameRows_any _ _ _ _ _ _ _ _ _ _ _ RO3.out RW.out).mono ?_
    rintro e w4 ⟨rfl, hb4⟩
    have B4 := hid (btr B3.out hb4)
    have RO4 := hid (RO3.out.bl hb4)
    have RW4 := hid (RW.out.bl hb4)
    clear hb4
    rw [eqD_self]
    go_wp2_with fail
    refine (sameRows_any _ _ _ _ _ _ _ _ _ _ _ RO4.out RW4.out).mono ?_
    rintro e w5 ⟨rfl, hb5⟩
    have B5 := hid (btr B4.out hb5)
    clear hb5
    rw [eqD_self]
    go_wp2_with fail
    go_ret
    exact ⟨rfl, btr B1.out B5.out⟩
  | some F =>
    obtain ⟨OB, od, ors, rfl, hN2, hm2, hb2⟩ := hres
    have hF := force_law HV.out
    obtain ⟨an, rfl⟩ := Int.eq_ofNat_of_zero_le hF.2.2.1
    have hFl : F.length ≤ 5 := by rw [hF.2.2.2.2.2.2.2.1]; exact hrl
    have HF := hid hF
    clear hF
    have RO := hid (hN2.rd0 hm2 (by simp; omega))
    have B2 := hid hb2
    clear hN2 hm2 hb2
    go_wp2_with fail
    refine (SP.out _ B2.out).mono ?_
    rintro e w3 ⟨WB, wd, wrs, rfl, hN3, hm3, hb3⟩
    have RW := hid (hN3.rd0 hm3 (by simp; omega))
    have RO3 := hid (RO.out.bl hb3)
    have B3 := hid (btr B2.out hb3)
    clear hN3 hm3 hb3
    go_wp2_with fail
    refine (sameRows_any _ _ _ _ _ _ _ _ _ _ _ RO3.out RW.out).mono ?_
    rintro e w4 ⟨rfl, hb4⟩
    have B4 := hid (btr B3.out hb4)
    have RO4 := hid (RO3.out.bl hb4)
    clear hb4
    rw [eqD_self]
    go_wp2_with fail
    have c1 := implPageForce_any OB F.length od 0 N an x F w4 RO4.out
    unfold RetRB at c1
    rw [HF.out.2.2.2.2.2.2.2.2.1] at c1
    refine c1.mono ?_
    clear c1
    rintro e w5 ⟨XB, xd, xrs, rfl, hN5', hm5, hb5⟩
    have RX5 := hid (hN5'.rd0 hm5 (by simp; omega))
    have RO5 := hid (RO4.out.bl hb5)
    have B5 := hid (btr B4.out hb5)
    clear hN5' hm5 hb5
    go_wp2_with fail
    have c2 := implPageForce_any OB F.length od 0 N an (x + 1) F w5 RO5.out
    unfold RetRB at c2
    rw [HF.out.2.2.2.2.2.2.2.2.2.1] at c2
    refine c2.mono ?_
    clear c2
    rintro e w6 ⟨YB, yd, yrs, rfl, hN6, hm6, hb6⟩
    have RX6 := hid (RX5.out.bl hb6)
    have RO6 := hid (RO5.out.bl hb6)
    have B6 := hid (btr B5.out hb6)
    clear hN6 hm6 hb6
    have RD6 := hid (RD1.out.bl B6.out)
    go_wp2_with fail
    go_loopg [15] rows.length (fun gk i wr => ∃ k : Nat, k + gk = rows.length ∧ i = .int .i64 k ∧ Below w6.heap.size w6 wr)
    case atStart => exact ⟨0, Nat.zero_add _, rfl, Below.refl _ _⟩
    case round =>
      obtain ⟨k, hkg, rfl, hb⟩ := hrel
      have HKG := hid hkg
      have HB := hid hb
      have hkl : k ≤ rows.length := by omega
      clear hkg hb
      by_cases hlt : k < rows.length
      case neg =>
        obtain rfl : rows.length = k := by omega
        have HBB := hid (btr B6.out HB.out)
        have RXr := hid (RX6.out.bl HB.out)
        have ROr := hid (RO6.out.bl HB.out)
        go_wp2_with fail
        refine (sameRows_any _ _ _ _ _ _ _ _ _ _ _ RXr.out ROr.out).mono ?_
        rintro e w7 ⟨rfl, hb7⟩
        have B7 := hid (btr HBB.out hb7)
        have RO7 := hid (ROr.out.bl hb7)
        clear hb7
        rw [eqD_self]
        have han : an < F.length := by have h1 := HF.out.2.2.2.1; have h2 := HF.out.2.2.2.2.2.2.2.1; omega
        have hrow : gt F an = [x] := by have := HF.out.2.2.2.2.2.2.2.2.2.2.1; rwa [Int.toNat_natCast] at this
        obtain ⟨FL, hFL⟩ : ∃ FL, F.length = FL := ⟨_, rfl⟩
        have hro : Rd (sliceS intS) 0 w7.heap.size w7 OB F.length F := RO7.out
        rw [hFL] at hro han ⊢
        have HFL := hid hFL
        have HRO := hid hro
        obtain ⟨bO, oO, rfl, _, _, hatO⟩ := hro.2.2 (by omega)
        obtain ⟨AX, cX, cx, _, hRX⟩ := hatO.row han
        rw [hrow] at cx hRX
        have HRX := hid hRX
        have hani : (an : Int) < (FL : Int) := by omega
        have hnew := (rowX (w := w7) (e := 3) x).rd (D := rng 0 (w7.alloc (.cells #[.int .i64 x] 3)).heap.size) ⟨Nat.zero_le _, by show w7.heap.size < _; simp⟩
        have HNEW := hid (Rd_iff.2 hnew)
        have HB8 := hid (bnew w7 (.cells #[.int .i64 x] 3))
        clear hatO hRX hro hrow hFL hnew
        go_wp2_with fail
        refine (sameInts_any _ _ _ _ _ _ _ _ [x] [x] _ (HRX.out.bl HB8.out) HNEW.out).mono ?_
        rintro e w8 ⟨rfl, hb8⟩
        have B8 := hid (btr (btr B7.out HB8.out) hb8)
        have RO8 := hid ((HRO.out.bl HB8.out).bl hb8)
        clear hb8 cx
        rw [eqD_self]
        go_wp2_with fail
        refine (implPageValid_any _ _ _ _ _ F _ RO8.out).mono ?_
        rintro e w9 ⟨rfl, rfl⟩
        rw [HF.out.2.2.2.2.2.2.1]
        go_wp2_with fail
        go_ret
        exact ⟨rfl, btr B1.out B8.out⟩
      case pos =>
        have hki : (k : Int) < (rows.length : Int) := by omega
        by_cases hka : (k : Int) = an
        case pos =>
          have hne : ((k : Int) != an) = false := by simp [hka]
          clear hka
          go_wp2_with fail
          refine wp_region_aft (Below.refl wr.heap.size wr) (by kernel_rfl) (by kernel_rfl) ?_
          repeat (go_big_quiet_step (fail))
          refine wpQuiet_nil ?_
          rintro w7 ⟨⟨_, hb7⟩, rfl⟩
          have HB7 := hid (btr HB.out hb7)
          clear hb7
          go_wp2_with fail
          go_roundg (gk - 1)
          case measure => have := HKG.out; omega
          case rel => exact ⟨k + 1, by have := HKG.out; omega, by go_num, HB7.out⟩
        case neg =>
          have hne : ((k : Int) != an) = true := by simp [hka]
          have hkF : k < F.length := by rw [HF.out.2.2.2.2.2.2.2.1]; exact hlt
          have hge := HF.out.2.2.2.2.2.2.2.2.2.2.2 k hlt hka
          have hro : Rd (sliceS intS) 0 wr.heap.size wr OB F.length F := RO6.out.bl HB.out
          have hrd := RD6.out.bl HB.out
          obtain ⟨bO, oO, hOB, _, _, hatO⟩ := hro.2.2 (by omega)
          obtain ⟨bD, oD, hDD, _, _, hatD⟩ := hrd.2.2 (by omega)
          obtain ⟨AX, cX, cx, _, hRX⟩ := hatO.row hkF
          obtain ⟨AY, cY, cy, _, hRY⟩ := hatD.row hlt
          have hkFi : (k : Int) < (F.length : Int) := by omega
          have c1 := aft_cell (block_lt_of_cell cx) cx
          have c2 := aft_cell (block_lt_of_cell cy) cy
          have CALL := hid fun X : Aft wr.heap.size wr => aft_call ((sameInts_any AX AY _ _ cX cY 0 0 _ _ X.val (hRX.bl X.prop) (hRY.bl X.prop)).mono fun e w' h => (show e = .returned (.bool true) ∧ Below X.val.heap.size X.val w' from ⟨by rw [h.1, hge, eqD_self], h.2⟩)) (Nat.le_refl _)
          clear hatO hatD cx cy hRX hRY hge hro hrd
          subst hOB hDD
          go_wp2_with fail
          refine wp_region_aft (Below.refl wr.heap.size wr) (by kernel_rfl) (by kernel_rfl) ?_
          repeat (go_big_quiet_step ((go_at_call 19; exact CALL.out _)))
          refine wpQuiet_nil ?_
          rintro w7 ⟨⟨_, hb7⟩, rfl⟩
          have HB7 := hid (btr HB.out hb7)
          clear hb7 c1 c2 CALL
          go_wp2_with fail
          go_roundg (gk - 1)
          case measure => have := HKG.out; omega
          case rel => exact ⟨k + 1, by have := HKG.out; omega, by go_num, HB7.out⟩
end Go.Proofs.Yteccacnojmilcaa
