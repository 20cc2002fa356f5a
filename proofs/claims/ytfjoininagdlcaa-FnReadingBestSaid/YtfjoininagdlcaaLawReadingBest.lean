/- The law FnReadingBest returns true for all arguments that can be read. -/
import Derived.Test.YtfjoininagdlcaaDrawLs
import Derived.Test.YtfjoininagdlcaaLawFns
import Derived.Test.YtfjoininagdlcaaLawKit
import Derived.Test.YtfjoininagdlcaaKeeper
import Derived.Test.YtfjoininagdlcaaSeenImpl
import Derived.Test.YtfjoininagdlcaaSure
import Derived.Test.YtfjoininagdlcaaWeigh3
import Derived.Deep.RegionHeld3
import Derived.StillTailTactics
namespace Go.Proofs.Ytfjoininagdlcaa
open Go.RowKit
set_option maxRecDepth 100000 in
set_option maxHeartbeats 4000000 in
theorem lawReadingBest (A0 : Option Addr) (n0 c0 : Nat) (bs : List UInt8) (A9 : Option Addr) (n9 c9 : Nat) (bs9 : List UInt8) (w : World) (hnc : n0 ≤ c0) (hx : Rd byteS 0 w.heap.size w A0 n0 bs) (_hnc9 : n9 ≤ c9) (hx9 : Rd byteS 0 w.heap.size w A9 n9 bs9) :
    Calls Try.prog 6 #[.slice A0 n0 c0, .slice A9 n9 c9] w fun e w' => e = .returned (.bool true) ∧ Below w.heap.size w w' := by
  have hn63 := hx.2.1
  have HX := hid hx
  clear hx
  have hn93 := hx9.2.1
  clear hx9
  by_cases hn0 : n0 ≤ 1048576
  case neg =>
    have gn0 : (1048576 : Int) < (n0 : Int) := by omega
    go_enter Try.func6, Try.ntmps6
    go_wp2_with fail
    go_ret
    exact ⟨rfl, Below.refl _ _⟩
  by_cases hn9 : n9 ≤ 1048576
  case neg =>
    have gn9 : (1048576 : Int) < (n9 : Int) := by omega
    have gn0 : ¬ (1048576 : Int) < (n0 : Int) := by omega
    go_enter Try.func6, Try.ntmps6
    go_wp2_with fail
    go_ret
    exact ⟨rfl, Below.refl _ _⟩
  have gn0 : ¬ (1048576 : Int) < (n0 : Int) := by omega
  have gn9 : ¬ (1048576 : Int) < (n9 : Int) := by omega
  go_enter Try.func6, Try.ntmps6
  go_wp2_with fail
  refine (DrawReadingBest_any A0 n0 c0 bs w hnc HX.out).mono ?_
  rintro e w1 ⟨A, n, c, l, B, m, e0, r, C, q, d, page, rfl, a1, a2, hb1⟩
  have LM2 := hid (LM.new (c := c) (e0 := e0) (t := 26) a1.hl a1.hr a2.hp)
  have hqp := a2.hp.1
  have hq5 := a2.q5
  have hln := a1.hl.1
  have hn1 := a1.n1
  have hn4 := a1.n4
  have HQP := hid hqp
  have HLN := hid hln
  have HB2 := hid (bal hb1 (.cells #[.slice A n c, .slice B m e0] 26))
  clear a1 a2 hb1 hqp hln
  go_wp2_with fail
  generalize (w1.alloc (.cells #[.slice A n c, .slice B m e0] 26)) = w2 at *
  obtain ⟨M, hM⟩ : ∃ M, w1.heap.size = M := ⟨_, rfl⟩
  rw [hM] at LM2 ⊢
  clear hM
  have HB := hid HB2.out
  have hlen := bestV_len l r page
  obtain ⟨V, hV⟩ : ∃ V, bestV l r page = V := ⟨_, rfl⟩
  rw [hV] at hlen
  have HV := hid hV
  cases V with
  | none =>
    have mc0 := LM2.out.at0
    have mc1 := LM2.out.at1
    have hres := implReadingBest_any A B C n c m e0 q d l r page w2 LM2.out.hl LM2.out.hr LM2.out.hp
    rw [HV.out] at hres
    refine hres.mono ?_
    clear hres
    clear mc0 mc1
    intro e w3 hres
    have hres2 := ib_rd hres (hlen)
    simp only [Option.getD_none, Option.isSome_none, List.length_nil] at hres2
    obtain ⟨ARF, cRF, rfl, hRF, hR, hb⟩ := hres2
    clear hres
    have HB := hid (HB.out.trans (hb.mono HB.out.size))
    have LM2 := hid (LM2.out.bl hb)
    clear hb
    have RF := hid hR
    clear hR
    have mc0 := LM2.out.at0
    have mc1 := LM2.out.at1
    go_wp2_with fail
    have hres := specReadingBest_any A B C n c m e0 q d 0 l r page w3 LM2.out.hl LM2.out.hr LM2.out.hp
    rw [HV.out] at hres
    refine hres.mono ?_
    clear hres
    clear mc0 mc1
    intro e w4 hres
    have hres2 := ib_rd hres (hlen)
    simp only [Option.getD_none, Option.isSome_none, List.length_nil] at hres2
    obtain ⟨ARG, cRG, rfl, hRG, hR, hb⟩ := hres2
    clear hres
    have HB := hid (HB.out.trans (hb.mono HB.out.size))
    have LM2 := hid (LM2.out.bl hb)
    have RF := hid (RF.out.bl hb)
    clear hb
    have RG := hid hR
    clear hR
    go_wp2_with fail
    refine (sameInts_any _ _ _ _ _ _ _ _ _ _ _ RF.out RG.out).mono ?_
    rintro e w5 ⟨rfl, hb⟩
    have HB := hid (HB.out.trans (hb.mono HB.out.size))
    have LM2 := hid (LM2.out.bl hb)
    have RF := hid (RF.out.bl hb)
    have RG := hid (RG.out.bl hb)
    clear hb
    rw [eqD_self]
    go_wp2_with fail
    refine (sameInts_any _ _ _ _ _ _ _ _ _ _ _ RF.out RG.out).mono ?_
    rintro e w6 ⟨rfl, hb⟩
    have HB := hid (HB.out.trans (hb.mono HB.out.size))
    have LM2 := hid (LM2.out.bl hb)
    have RF := hid (RF.out.bl hb)
    have RG := hid (RG.out.bl hb)
    clear hb
    rw [eqD_self]
    go_wp2_with fail
    go_ret
    exact ⟨rfl, HB.out⟩
  | some f =>
    have mc0 := LM2.out.at0
    have mc1 := LM2.out.at1
    have hres := implReadingBest_any A B C n c m e0 q d l r page w2 LM2.out.hl LM2.out.hr LM2.out.hp
    rw [HV.out] at hres
    refine hres.mono ?_
    clear hres
    clear mc0 mc1
    intro e w3 hres
    have hres2 := ib_rd hres (hlen)
    simp only [Option.getD_some, Option.isSome_some] at hres2
    obtain ⟨ARF, cRF, rfl, hRF, hR, hb⟩ := hres2
    clear hres
    have HB := hid (HB.out.trans (hb.mono HB.out.size))
    have LM2 := hid (LM2.out.bl hb)
    clear hb
    have RF := hid hR
    clear hR
    have mc0 := LM2.out.at0
    have mc1 := LM2.out.at1
    go_wp2_with fail
    have hres := specReadingBest_any A B C n c m e0 q d 0 l r page w3 LM2.out.hl LM2.out.hr LM2.out.hp
    rw [HV.out] at hres
    refine hres.mono ?_
    clear hres
    clear mc0 mc1
    intro e w4 hres
    have hres2 := ib_rd hres (hlen)
    simp only [Option.getD_some, Option.isSome_some] at hres2
    obtain ⟨ARG, cRG, rfl, hRG, hR, hb⟩ := hres2
    clear hres
    have HB := hid (HB.out.trans (hb.mono HB.out.size))
    have LM2 := hid (LM2.out.bl hb)
    have RF := hid (RF.out.bl hb)
    clear hb
    have RG := hid hR
    clear hR
    go_wp2_with fail
    refine (sameInts_any _ _ _ _ _ _ _ _ _ _ _ RF.out RG.out).mono ?_
    rintro e w5 ⟨rfl, hb⟩
    have HB := hid (HB.out.trans (hb.mono HB.out.size))
    have LM2 := hid (LM2.out.bl hb)
    have RF := hid (RF.out.bl hb)
    have RG := hid (RG.out.bl hb)
    clear hb
    rw [eqD_self]
    clear RG
    obtain ⟨S, g1, g2, g3, g4, g5, _, g6, _⟩ := best_law HV.out
    have hSl := seenV_len (l := l) (r := r) (page := page)
    rw [g1] at hSl
    have GL := hid (And.intro g1 (And.intro g2 g4))
    have HOK := hid g5
    have HFA := hid g6
    obtain ⟨W0, hW0⟩ : ∃ W0, weightOf l r page f = W0 := ⟨_, rfl⟩
    rw [hW0] at g3
    have HW0 := hid hW0
    clear g1 g2 g4 g5 g6 hW0
    have mc0 := LM2.out.at0
    have mc1 := LM2.out.at1
    go_wp2_with fail
    have hres := implPageSeen_any A B C n c m e0 q d l r page w5 LM2.out.hl LM2.out.hr LM2.out.hp
    rw [GL.out.1] at hres
    refine hres.mono ?_
    clear hres
    clear mc0 mc1
    intro e w6 hres
    have hres2 := rb_rd hres (hSl)
    simp only [Option.getD_some, Option.isSome_some] at hres2
    obtain ⟨ARS, cRS, rfl, hR, hb⟩ := hres2
    clear hres
    have HB := hid (HB.out.trans (hb.mono HB.out.size))
    have LM2 := hid (LM2.out.bl hb)
    have RF := hid (RF.out.bl hb)
    clear hb
    have RS := hid hR
    clear hR
    have mc0 := LM2.out.at0
    have mc1 := LM2.out.at1
    go_wp2_with fail
    have hres := implReadingBest_any A B ARS n c m e0 S.length cRS l r S w6 LM2.out.hl LM2.out.hr RS.out
    rw [GL.out.2.1] at hres
    refine hres.mono ?_
    clear hres
    clear mc0 mc1
    intro e w7 hres
    have hres2 := ib_rd hres (hlen)
    simp only [Option.getD_some, Option.isSome_some] at hres2
    obtain ⟨ARX, cRX, rfl, hRX, hR, hb⟩ := hres2
    clear hres
    have HB := hid (HB.out.trans (hb.mono HB.out.size))
    have LM2 := hid (LM2.out.bl hb)
    have RF := hid (RF.out.bl hb)
    have RS := hid (RS.out.bl hb)
    clear hb
    have RX := hid hR
    clear hR
    have mc0 := LM2.out.at0
    have mc1 := LM2.out.at1
    go_wp2_with fail
    refine (sameInts_any _ _ _ _ _ _ _ _ _ _ _ RX.out RF.out).mono ?_
    clear mc0 mc1
    rintro e w8 ⟨rfl, hb⟩
    have HB := hid (HB.out.trans (hb.mono HB.out.size))
    have LM2 := hid (LM2.out.bl hb)
    have RF := hid (RF.out.bl hb)
    have RS := hid (RS.out.bl hb)
    have RX := hid (RX.out.bl hb)
    clear hb
    rw [eqD_self]
    have mc0 := LM2.out.at0
    have mc1 := LM2.out.at1
    go_wp2_with fail
    have hres := implReadingWeight_any A B C ARF n c m e0 q d f.length cRF 0 l r page f w8 LM2.out.hl LM2.out.hr LM2.out.hp RF.out hRF
    rw [HW0.out] at hres
    refine hres.mono ?_
    clear hres
    clear mc0 mc1
    rintro e w9 ⟨rfl, hb⟩
    have HB := hid (HB.out.trans (hb.mono HB.out.size))
    have LM2 := hid (LM2.out.bl hb)
    have RF := hid (RF.out.bl hb)
    have RS := hid (RS.out.bl hb)
    have RX := hid (RX.out.bl hb)
    clear hb
    have hqp := HQP.out
    have hfl := GL.out.2.2
    by_cases hq0 : q = 0
    case pos =>
      have hf0 : f.length = 0 := by omega
      have hfe : f = [] := List.length_eq_zero_iff.1 hf0
      clear hf0 hqp hfl
      subst hfe hq0
      go_wp2_with fail
      go_ret
      exact ⟨rfl, HB.out⟩
    have hq0i : ((q : Int) == 0) = false := by rw [beq_eq_false_iff_ne]; omega
    have hq0n : ¬ (q : Int) = 0 := by omega
    obtain ⟨at_, hat⟩ : ∃ a, n9 % q = a := ⟨_, rfl⟩
    have ha1 : (n9 : Int) % (q : Int) = (at_ : Int) := by rw [← hat, Int.natCast_emod]
    have ha2 : Int.tmod (n9 : Int) (q : Int) = (at_ : Int) := by rw [Int.tmod_eq_emod_of_nonneg (by omega)]; exact ha1
    have hatq : at_ < q := by rw [← hat]; exact Nat.mod_lt _ (by omega)
    have hati : (at_ : Int) < (q : Int) := by omega
    clear hat ha1
    obtain ⟨bC, off, rfl, _, _, hatC⟩ := LM2.out.hp.2.2 (by omega)
    clear hatC
    have hin := HFA.out at_ (by omega)
    obtain ⟨x, hxx⟩ : ∃ x, gt f at_ = x := ⟨_, rfl⟩
    rw [hxx] at hin
    obtain ⟨bF, oF, rfl, _, _, hatF⟩ := RF.out.2.2 (by omega)
    have ci := hatF.int (k := at_) (by omega)
    rw [hxx] at ci
    have hafi : (at_ : Int) < (f.length : Int) := by omega
    have hafn : at_ < f.length := by omega
    have hfv : forceV (n : Int) page (at_ : Int) x = some (forceL (at_ : Int) x 0 page) := by rw [HLN.out]; exact forceV_some (bothOk_yes HOK.out).2 (by omega) hin.1
    have hfl2 : ((some (forceL (at_ : Int) x 0 page)).getD []).length ≤ 1048576 := by rw [Option.getD_some, forceL_len]; omega
    have HFL := hid hfl2
    have HFE := hid hfv
    have HIN := hid hin
    clear hfl2 hfv hin hxx hatF hqp hfl
    have mc0 := LM2.out.at0
    have mc1 := LM2.out.at1
    go_wp2_with fail
    refine wp_region_invH (by kernel_rfl) (by kernel_rfl) (fun L a X => ∃ v16 v17 v108 v109 v110 v111 v112 v113 v114 v115 v116 v117 v118 v119 v120 : Value, a = { tmps := #[Value.slice A0 n0 c0, Value.slice A9 n9 c9, undef, undef, Value.bool false, Value.pointer (some ⟨M, 0, none⟩), Value.slice (some ⟨bC, off, none⟩) q d, Value.slice (some ⟨bF, oF, none⟩) f.length cRF, Value.bool true, Value.slice ARG f.length cRG, Value.bool true, Value.slice ARS S.length cRS, Value.bool true, Value.slice ARX f.length cRX, Value.bool true, Value.int IntKind.i64 ↑at_, v16, v17, undef, undef, Value.slice A0 n0 c0, Value.int IntKind.i64 ↑n0, Value.bool false, Value.bool false, Value.slice A9 n9 c9, Value.int IntKind.i64 ↑n9, Value.bool false, Value.bool false, Value.tuple #[Value.agg #[Value.slice A n c, Value.slice B m e0], Value.slice (some ⟨bC, off, none⟩) q d], Value.slice A0 n0 c0, Value.tuple #[Value.agg #[Value.slice A n c, Value.slice B m e0], Value.slice (some ⟨bC, off, none⟩) q d], Value.agg #[Value.slice A n c, Value.slice B m e0], Value.slice (some ⟨bC, off, none⟩) q d, Value.tuple #[Value.slice (some ⟨bF, oF, none⟩) f.length cRF, Value.bool true], Value.agg #[Value.slice A n c, Value.slice B m e0], Value.slice (some ⟨bC, off, none⟩) q d, Value.tuple #[Value.slice (some ⟨bF, oF, none⟩) f.length cRF, Value.bool true], Value.slice (some ⟨bF, oF, none⟩) f.length cRF, Value.bool true, Value.tuple #[Value.slice ARG f.length cRG, Value.bool true], Value.agg #[Value.slice A n c, Value.slice B m e0], Value.slice (some ⟨bC, off, none⟩) q d, Value.tuple #[Value.slice ARG f.length cRG, Value.bool true], Value.slice ARG f.length cRG, Value.bool true, Value.bool true, Value.bool true, Value.bool false, Value.bool false, Value.slice (some ⟨bF, oF, none⟩) f.length cRF, Value.slice ARG f.length cRG, Value.bool true, Value.bool false, Value.bool false, Value.bool false, Value.bool true, Value.bool false, Value.bool false, undef, undef, undef, undef, undef, undef, undef, undef, Value.tuple #[Value.slice ARS S.length cRS, Value.bool true], Value.agg #[Value.slice A n c, Value.slice B m e0], Value.slice (some ⟨bC, off, none⟩) q d, Value.tuple #[Value.slice ARS S.length cRS, Value.bool true], Value.slice ARS S.length cRS, Value.bool true, Value.tuple #[Value.slice ARX f.length cRX, Value.bool true], Value.agg #[Value.slice A n c, Value.slice B m e0], Value.slice ARS S.length cRS, Value.tuple #[Value.slice ARX f.length cRX, Value.bool true], Value.slice ARX f.length cRX, Value.bool true, Value.bool true, Value.bool false, Value.bool false, Value.bool true, Value.bool false, Value.bool false, Value.bool false, Value.slice ARX f.length cRX, Value.slice (some ⟨bF, oF, none⟩) f.length cRF, Value.bool true, Value.bool false, Value.bool false, Value.bool false, Value.agg #[Value.slice A n c, Value.slice B m e0], Value.slice (some ⟨bC, off, none⟩) q d, Value.slice (some ⟨bF, oF, none⟩) f.length cRF, Value.int IntKind.i64 W0, Value.bool (decide (W0 < 0)), Value.bool (decide (W0 < 0)), Value.slice (some ⟨bC, off, none⟩) q d, Value.int IntKind.i64 ↑q, Value.bool false, undef, undef, undef, Value.slice A9 n9 c9, Value.int IntKind.i64 ↑n9, Value.slice (some ⟨bC, off, none⟩) q d, Value.int IntKind.i64 ↑q, Value.int IntKind.i64 ↑at_, v108, v109, v110, v111, v112, v113, v114, v115, v116, v117, v118, v119, v120, undef, undef, undef, undef, undef, undef, undef, undef, undef, undef, undef, undef, undef, undef, undef], defers := [] } ∧
      (Below w9.heap.size w9 X) ∧ (L 0 = true → v109 = .pointer (some ⟨M, 0, none⟩)) ∧ (L 1 = true → v110 = .slice A n c) ∧ (L 2 = true → v111 = .int .i64 n) ∧ (L 3 = true → v112 = .slice (some ⟨bC, off, none⟩) q d) ∧ (L 4 = true → v113 = .int .i64 at_) ∧ (L 5 = true → v114 = .slice (some ⟨bF, oF, none⟩) f.length cRF) ∧ (L 6 = true → v115 = .int .i64 at_) ∧ (L 7 = true → v116 = .pointer (some ⟨bF, oF + at_, none⟩)) ∧ (L 8 = true → v117 = .int .i64 x) ∧ (L 9 = true → ∃ (D : Option Addr) (dd : Nat), v118 = .tuple #[.slice D (forceL (at_ : Int) x 0 page).length dd, .bool true] ∧ Rd (sliceS intS) 0 X.heap.size X D (forceL (at_ : Int) x 0 page).length (forceL (at_ : Int) x 0 page)) ∧ (L 10 = true → ∃ (D : Option Addr) (dd : Nat), v108 = .tuple #[.slice D (forceL (at_ : Int) x 0 page).length dd, .bool true] ∧ Rd (sliceS intS) 0 X.heap.size X D (forceL (at_ : Int) x 0 page).length (forceL (at_ : Int) x 0 page)) ∧ (L 11 = true → ∃ (D : Option Addr) (dd : Nat), v119 = .slice D (forceL (at_ : Int) x 0 page).length dd ∧ Rd (sliceS intS) 0 X.heap.size X D (forceL (at_ : Int) x 0 page).length (forceL (at_ : Int) x 0 page)) ∧ (L 12 = true → v120 = .bool true) ∧ (L 13 = true → ∃ (D : Option Addr) (dd : Nat), v16 = .slice D (forceL (at_ : Int) x 0 page).length dd ∧ Rd (sliceS intS) 0 X.heap.size X D (forceL (at_ : Int) x 0 page).length (forceL (at_ : Int) x 0 page)) ∧ (L 14 = true → v17 = .bool true)) ?_ ⟨?_, ?_, ?_, ?_, ?_, ?_, ?_, ?_, ?_, ?_, ?_, ?_, ?_, ?_, ?_, trivial⟩ ?_
    · exact ⟨_, _, _, _, _, _, _, _, _, _, _, _, _, _, _, rfl, bdr _, fun h => (by cases h), fun h => (by cases h), fun h => (by cases h), fun h => (by cases h), fun h => (by cases h), fun h => (by cases h), fun h => (by cases h), fun h => (by cases h), fun h => (by cases h), fun h => (by cases h), fun h => (by cases h), fun h => (by cases h), fun h => (by cases h), fun h => (by cases h), fun h => (by cases h)⟩
    · rintro L a X K0 ⟨v16, v17, v108, v109, v110, v111, v112, v113, v114, v115, v116, v117, v118, v119, v120, rfl, hB, f0, f1, f2, f3, f4, f5, f6, f7, f8, f9, f10, f11, f12, f13, f14⟩ hL hd hK
      clear hd
      refine ⟨rfl, ?_⟩
      go_simp
      exact hK _ _ ⟨_, _, _, _, _, _, _, _, _, _, _, _, _, _, _, rfl, hB, fun _ => rfl, f1, f2, f3, f4, f5, f6, f7, f8, f9, f10, f11, f12, f13, f14⟩
    · rintro L a X K0 ⟨v16, v17, v108, v109, v110, v111, v112, v113, v114, v115, v116, v117, v118, v119, v120, rfl, hB, f0, f1, f2, f3, f4, f5, f6, f7, f8, f9, f10, f11, f12, f13, f14⟩ hL hd hK
      have d0 := hd ⟨0, .data⟩ (by simp) rfl
      obtain rfl := f0 d0
      have q0 := bcl hB mc0
      clear hd
      refine ⟨rfl, ?_⟩
      go_simp
      exact hK _ _ ⟨_, _, _, _, _, _, _, _, _, _, _, _, _, _, _, rfl, hB, f0, fun _ => rfl, f2, f3, f4, f5, f6, f7, f8, f9, f10, f11, f12, f13, f14⟩
    · rintro L a X K0 ⟨v16, v17, v108, v109, v110, v111, v112, v113, v114, v115, v116, v117, v118, v119, v120, rfl, hB, f0, f1, f2, f3, f4, f5, f6, f7, f8, f9, f10, f11, f12, f13, f14⟩ hL hd hK
      have d1 := hd ⟨1, .data⟩ (by simp) rfl
      obtain rfl := f1 d1
      clear hd
      refine ⟨rfl, ?_⟩
      go_simp
      exact hK _ _ ⟨_, _, _, _, _, _, _, _, _, _, _, _, _, _, _, rfl, hB, f0, f1, fun _ => rfl, f3, f4, f5, f6, f7, f8, f9, f10, f11, f12, f13, f14⟩
    · rintro L a X K0 ⟨v16, v17, v108, v109, v110, v111, v112, v113, v114, v115, v116, v117, v118, v119, v120, rfl, hB, f0, f1, f2, f3, f4, f5, f6, f7, f8, f9, f10, f11, f12, f13, f14⟩ hL hd hK
      clear hd
      refine ⟨rfl, ?_⟩
      go_simp
      exact hK _ _ ⟨_, _, _, _, _, _, _, _, _, _, _, _, _, _, _, rfl, hB, f0, f1, f2, fun _ => rfl, f4, f5, f6, f7, f8, f9, f10, f11, f12, f13, f14⟩
    · rintro L a X K0 ⟨v16, v17, v108, v109, v110, v111, v112, v113, v114, v115, v116, v117, v118, v119, v120, rfl, hB, f0, f1, f2, f3, f4, f5, f6, f7, f8, f9, f10, f11, f12, f13, f14⟩ hL hd hK
      clear hd
      refine ⟨rfl, ?_⟩
      go_simp
      exact hK _ _ ⟨_, _, _, _, _, _, _, _, _, _, _, _, _, _, _, rfl, hB, f0, f1, f2, f3, fun _ => rfl, f5, f6, f7, f8, f9, f10, f11, f12, f13, f14⟩
    · rintro L a X K0 ⟨v16, v17, v108, v109, v110, v111, v112, v113, v114, v115, v116, v117, v118, v119, v120, rfl, hB, f0, f1, f2, f3, f4, f5, f6, f7, f8, f9, f10, f11, f12, f13, f14⟩ hL hd hK
      clear hd
      refine ⟨rfl, ?_⟩
      go_simp
      exact hK _ _ ⟨_, _, _, _, _, _, _, _, _, _, _, _, _, _, _, rfl, hB, f0, f1, f2, f3, f4, fun _ => rfl, f6, f7, f8, f9, f10, f11, f12, f13, f14⟩
    · rintro L a X K0 ⟨v16, v17, v108, v109, v110, v111, v112, v113, v114, v115, v116, v117, v118, v119, v120, rfl, hB, f0, f1, f2, f3, f4, f5, f6, f7, f8, f9, f10, f11, f12, f13, f14⟩ hL hd hK
      clear hd
      refine ⟨rfl, ?_⟩
      go_simp
      exact hK _ _ ⟨_, _, _, _, _, _, _, _, _, _, _, _, _, _, _, rfl, hB, f0, f1, f2, f3, f4, f5, fun _ => rfl, f7, f8, f9, f10, f11, f12, f13, f14⟩
    · rintro L a X K0 ⟨v16, v17, v108, v109, v110, v111, v112, v113, v114, v115, v116, v117, v118, v119, v120, rfl, hB, f0, f1, f2, f3, f4, f5, f6, f7, f8, f9, f10, f11, f12, f13, f14⟩ hL hd hK
      have d5 := hd ⟨5, .data⟩ (by simp) rfl
      obtain rfl := f5 d5
      have d6 := hd ⟨6, .data⟩ (by simp) rfl
      obtain rfl := f6 d6
      clear hd
      refine ⟨rfl, ?_⟩
      go_simp
      exact hK _ _ ⟨_, _, _, _, _, _, _, _, _, _, _, _, _, _, _, rfl, hB, f0, f1, f2, f3, f4, f5, f6, fun _ => rfl, f8, f9, f10, f11, f12, f13, f14⟩
    · rintro L a X K0 ⟨v16, v17, v108, v109, v110, v111, v112, v113, v114, v115, v116, v117, v118, v119, v120, rfl, hB, f0, f1, f2, f3, f4, f5, f6, f7, f8, f9, f10, f11, f12, f13, f14⟩ hL hd hK
      have d7 := hd ⟨7, .data⟩ (by simp) rfl
      obtain rfl := f7 d7
      have q0 := bcl hB ci
      clear hd
      refine ⟨rfl, ?_⟩
      go_simp
      exact hK _ _ ⟨_, _, _, _, _, _, _, _, _, _, _, _, _, _, _, rfl, hB, f0, f1, f2, f3, f4, f5, f6, f7, fun _ => rfl, f9, f10, f11, f12, f13, f14⟩
    · rintro L a X K0 ⟨v16, v17, v108, v109, v110, v111, v112, v113, v114, v115, v116, v117, v118, v119, v120, rfl, hB, f0, f1, f2, f3, f4, f5, f6, f7, f8, f9, f10, f11, f12, f13, f14⟩ hL hd hK
      have d2 := hd ⟨2, .data⟩ (by simp) rfl
      obtain rfl := f2 d2
      have d3 := hd ⟨3, .data⟩ (by simp) rfl
      obtain rfl := f3 d3
      have d4 := hd ⟨4, .data⟩ (by simp) rfl
      obtain rfl := f4 d4
      have d8 := hd ⟨8, .data⟩ (by simp) rfl
      obtain rfl := f8 d8
      clear hd
      refine ⟨rfl, ?_⟩
      go_simp
      have hres := implPageForce_any (some ⟨bC, off, none⟩) q d 0 (n : Int) (at_ : Int) x page X (LM2.out.hp.bl hB)
      rw [HFE.out] at hres
      refine hres.mono ?_
      clear hres
      intro e X2 hres
      have hres2 := rb_rd hres (HFL.out)
      simp only [Option.getD_some, Option.isSome_some] at hres2
      obtain ⟨A9, c9, rfl, hR9, hb⟩ := hres2
      exact hK _ _ ⟨_, _, _, _, _, _, _, _, _, _, _, _, _, _, _, rfl, btr hB hb, f0, f1, f2, f3, f4, f5, f6, f7, f8, fun _ => ⟨A9, c9, rfl, hR9⟩, fun h => (by obtain ⟨D, dd, e, l⟩ := f10 h; exact ⟨D, dd, e, l.bl hb⟩), fun h => (by obtain ⟨D, dd, e, l⟩ := f11 h; exact ⟨D, dd, e, l.bl hb⟩), f12, fun h => (by obtain ⟨D, dd, e, l⟩ := f13 h; exact ⟨D, dd, e, l.bl hb⟩), f14⟩
    · rintro L a X K0 ⟨v16, v17, v108, v109, v110, v111, v112, v113, v114, v115, v116, v117, v118, v119, v120, rfl, hB, f0, f1, f2, f3, f4, f5, f6, f7, f8, f9, f10, f11, f12, f13, f14⟩ hL hd hK
      have d9 := hd ⟨9, .data⟩ (by simp) rfl
      obtain ⟨D, dd, rfl, hrd⟩ := f9 d9
      clear hd
      refine ⟨rfl, ?_⟩
      go_simp
      exact hK _ _ ⟨_, _, _, _, _, _, _, _, _, _, _, _, _, _, _, rfl, hB, f0, f1, f2, f3, f4, f5, f6, f7, f8, fun _ => ⟨D, dd, rfl, hrd⟩, fun _ => ⟨D, dd, rfl, hrd⟩, f11, f12, f13, f14⟩
    · rintro L a X K0 ⟨v16, v17, v108, v109, v110, v111, v112, v113, v114, v115, v116, v117, v118, v119, v120, rfl, hB, f0, f1, f2, f3, f4, f5, f6, f7, f8, f9, f10, f11, f12, f13, f14⟩ hL hd hK
      have d10 := hd ⟨10, .data⟩ (by simp) rfl
      obtain ⟨D, dd, rfl, hrd⟩ := f10 d10
      clear hd
      refine ⟨rfl, ?_⟩
      go_simp
      exact hK _ _ ⟨_, _, _, _, _, _, _, _, _, _, _, _, _, _, _, rfl, hB, f0, f1, f2, f3, f4, f5, f6, f7, f8, f9, fun _ => ⟨D, dd, rfl, hrd⟩, fun _ => ⟨D, dd, rfl, hrd⟩, f12, f13, f14⟩
    · rintro L a X K0 ⟨v16, v17, v108, v109, v110, v111, v112, v113, v114, v115, v116, v117, v118, v119, v120, rfl, hB, f0, f1, f2, f3, f4, f5, f6, f7, f8, f9, f10, f11, f12, f13, f14⟩ hL hd hK
      have d10 := hd ⟨10, .data⟩ (by simp) rfl
      obtain ⟨D, dd, rfl, hrd⟩ := f10 d10
      clear hd
      refine ⟨rfl, ?_⟩
      go_simp
      exact hK _ _ ⟨_, _, _, _, _, _, _, _, _, _, _, _, _, _, _, rfl, hB, f0, f1, f2, f3, f4, f5, f6, f7, f8, f9, fun _ => ⟨D, dd, rfl, hrd⟩, f11, fun _ => rfl, f13, f14⟩
    · rintro L a X K0 ⟨v16, v17, v108, v109, v110, v111, v112, v113, v114, v115, v116, v117, v118, v119, v120, rfl, hB, f0, f1, f2, f3, f4, f5, f6, f7, f8, f9, f10, f11, f12, f13, f14⟩ hL hd hK
      have d11 := hd ⟨11, .data⟩ (by simp) rfl
      obtain ⟨D, dd, rfl, hrd⟩ := f11 d11
      clear hd
      refine ⟨rfl, ?_⟩
      go_simp
      exact hK _ _ ⟨_, _, _, _, _, _, _, _, _, _, _, _, _, _, _, rfl, hB, f0, f1, f2, f3, f4, f5, f6, f7, f8, f9, f10, fun _ => ⟨D, dd, rfl, hrd⟩, f12, fun _ => ⟨D, dd, rfl, hrd⟩, f14⟩
    · rintro L a X K0 ⟨v16, v17, v108, v109, v110, v111, v112, v113, v114, v115, v116, v117, v118, v119, v120, rfl, hB, f0, f1, f2, f3, f4, f5, f6, f7, f8, f9, f10, f11, f12, f13, f14⟩ hL hd hK
      have d12 := hd ⟨12, .data⟩ (by simp) rfl
      obtain rfl := f12 d12
      clear hd
      refine ⟨rfl, ?_⟩
      go_simp
      exact hK _ _ ⟨_, _, _, _, _, _, _, _, _, _, _, _, _, _, _, rfl, hB, f0, f1, f2, f3, f4, f5, f6, f7, f8, f9, f10, f11, f12, f13, fun _ => rfl⟩
    · rintro L a X hLL ⟨v16, v17, v108, v109, v110, v111, v112, v113, v114, v115, v116, v117, v118, v119, v120, rfl, hB, f0, f1, f2, f3, f4, f5, f6, f7, f8, f9, f10, f11, f12, f13, f14⟩
      obtain ⟨ARP, cRP, rfl, hR⟩ := f13 (hLL 13 (by simp))
      obtain rfl := f14 (hLL 14 (by simp))
      have hb := hB
      clear f0 f1 f2 f3 f4 f5 f6 f7 f8 f9 f10 f11 f12 f13 f14 hB hLL mc0 mc1
      have HB := hid (HB.out.trans (hb.mono HB.out.size))
      have LM2 := hid (LM2.out.bl hb)
      have RF := hid (RF.out.bl hb)
      have RS := hid (RS.out.bl hb)
      have RX := hid (RX.out.bl hb)
      clear hb
      have RP := hid hR
      clear hR
      clear ci
      have mc0 := LM2.out.at0
      have mc1 := LM2.out.at1
      go_wp2_with fail
      have hres := implReadingBest_any A B ARP n c m e0 _ cRP l r (forceL (at_ : Int) x 0 page) X LM2.out.hl LM2.out.hr RP.out
      rw [HIN.out.2] at hres
      refine hres.mono ?_
      clear hres
      clear mc0 mc1
      intro e w11 hres
      have hres2 := ib_rd hres (hlen)
      simp only [Option.getD_some, Option.isSome_some] at hres2
      obtain ⟨ARY, cRY, rfl, hRY, hR, hb⟩ := hres2
      clear hres
      have HB := hid (HB.out.trans (hb.mono HB.out.size))
      have LM2 := hid (LM2.out.bl hb)
      have RF := hid (RF.out.bl hb)
      have RS := hid (RS.out.bl hb)
      have RX := hid (RX.out.bl hb)
      have RP := hid (RP.out.bl hb)
      clear hb
      have RY := hid hR
      clear hR
      go_wp2_with fail
      refine (sameInts_any _ _ _ _ _ _ _ _ _ _ _ RY.out RF.out).mono ?_
      rintro e w12 ⟨rfl, hb⟩
      have HB := hid (HB.out.trans (hb.mono HB.out.size))
      have LM2 := hid (LM2.out.bl hb)
      have RF := hid (RF.out.bl hb)
      have RS := hid (RS.out.bl hb)
      have RX := hid (RX.out.bl hb)
      have RP := hid (RP.out.bl hb)
      have RY := hid (RY.out.bl hb)
      clear hb
      rw [eqD_self]
      go_wp2_with fail
      go_ret
      exact ⟨rfl, HB.out⟩
end Go.Proofs.Ytfjoininagdlcaa
