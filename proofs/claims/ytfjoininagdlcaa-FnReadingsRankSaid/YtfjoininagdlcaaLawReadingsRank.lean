/- The law FnReadingsRank returns true for all arguments that can be read. -/
import Derived.Test.YtfjoininagdlcaaDrawLs
import Derived.Test.YtfjoininagdlcaaLawFns
import Derived.Test.YtfjoininagdlcaaLawKit
import Derived.Test.YtfjoininagdlcaaKeeper
import Derived.Test.YtfjoininagdlcaaWeigh3
import Derived.Test.YtfjoininagdlcaaRank
import Derived.Deep.RegionHeld3
import Derived.StillTailTactics
namespace Go.Proofs.Ytfjoininagdlcaa
open Go.RowKit
set_option maxRecDepth 100000 in
set_option maxHeartbeats 4000000 in
theorem lawReadingsRank (A0 : Option Addr) (n0 c0 : Nat) (bs : List UInt8) (w : World) (hnc : n0 ≤ c0) (hx : Rd byteS 0 w.heap.size w A0 n0 bs) :
    Calls Try.prog 7 #[.slice A0 n0 c0] w fun e w' => e = .returned (.bool true) ∧ Below w.heap.size w w' := by
  have hn63 := hx.2.1
  have HX := hid hx
  clear hx
  by_cases hn0 : n0 ≤ 1048576
  case neg =>
    have gn0 : (1048576 : Int) < (n0 : Int) := by omega
    go_enter Try.func7, Try.ntmps7
    go_wp2_with fail
    go_ret
    exact ⟨rfl, Below.refl _ _⟩
  have gn0 : ¬ (1048576 : Int) < (n0 : Int) := by omega
  go_enter Try.func7, Try.ntmps7
  go_wp2_with fail
  refine (DrawReadingsRank_any A0 n0 c0 bs w hnc HX.out).mono ?_
  rintro e w1 ⟨A, n, c, l, B, m, e0, r, C, q, d, page, E, xs, d2, rfl, a1, a2, a3, hxd, hx5, hb1⟩
  have RL := hid (a3.bl (bnew w1 (.cells #[.slice A n c, .slice B m e0] 26)))
  have LM2 := hid (LM.new (c := c) (e0 := e0) (t := 26) a1.hl a1.hr a2.hp)
  have hqp := a2.hp.1
  have hq5 := a2.q5
  have hln := a1.hl.1
  have hn1 := a1.n1
  have hn4 := a1.n4
  have HQP := hid hqp
  have HLN := hid hln
  have HB2 := hid (bal hb1 (.cells #[.slice A n c, .slice B m e0] 26))
  clear a1 a2 hb1 hqp hln a3
  go_wp2_with fail
  generalize (w1.alloc (.cells #[.slice A n c, .slice B m e0] 26)) = w2 at *
  obtain ⟨M, hM⟩ : ∃ M, w1.heap.size = M := ⟨_, rfl⟩
  rw [hM] at LM2 ⊢
  clear hM
  have HB := hid HB2.out
  obtain ⟨K, hK⟩ : ∃ K, rankV l r page xs = K := ⟨_, rfl⟩
  have mc0 := LM2.out.at0
  have mc1 := LM2.out.at1
  have hres := implReadingsRank_any A B C E n c m e0 q d xs.length d2 l r page xs w2 LM2.out.hl LM2.out.hr LM2.out.hp RL.out hxd
  rw [hK] at hres
  refine hres.mono ?_
  clear hres
  clear mc0 mc1
  rintro e w3 ⟨rfl, hb⟩
  have HB := hid (HB.out.trans (hb.mono HB.out.size))
  have LM2 := hid (LM2.out.bl hb)
  have RL := hid (RL.out.bl hb)
  clear hb
  have mc0 := LM2.out.at0
  have mc1 := LM2.out.at1
  go_wp2_with fail
  have hres := specReadingsRank_any A B C E n c m e0 q d xs.length d2 0 l r page xs w3 LM2.out.hl LM2.out.hr LM2.out.hp RL.out
  rw [hK] at hres
  refine hres.mono ?_
  clear hres
  clear mc0 mc1
  rintro e w4 ⟨rfl, hb⟩
  have HB := hid (HB.out.trans (hb.mono HB.out.size))
  have LM2 := hid (LM2.out.bl hb)
  have RL := hid (RL.out.bl hb)
  clear hb
  by_cases hneg : K < 0
  case pos =>
    go_wp2_with fail
    go_ret
    exact ⟨rfl, HB.out⟩
  obtain ⟨f, g1, g2, g3, g4, g5, g6, g7⟩ := rank_law (l := l) (r := r) (page := page) (xs := xs) (by omega)
  rw [hK] at g4 g5 g6 g7
  have HOK := hid g2
  have G1 := hid g1
  have G6 := hid g6
  have G7 := hid g7
  obtain ⟨mn, hmn⟩ : ∃ mn, manyV l r page = mn := ⟨_, rfl⟩
  rw [hmn] at g4
  have HMN := hid hmn
  have hmm : mn ≤ 1679616 := by rw [← hmn, manyV_ok g2]; have := many_max l r page (-1) g2; omega
  have hfb := firstV_len8 (l := l) (r := r) (page := page)
  rw [g1] at hfb
  obtain ⟨T, hT⟩ : ∃ T, eqD f xs = T := ⟨_, rfl⟩
  rw [hT] at g5
  have HT := hid hT
  have G5 := hid g5
  have G3 := hid g3
  clear g1 g2 g3 g5 g6 g7 hmn hT hK
  have mc0 := LM2.out.at0
  have mc1 := LM2.out.at1
  go_wp2_with fail
  have hres := implReadingFirst_any A B C n c m e0 q d l r page w4 LM2.out.hl LM2.out.hr LM2.out.hp
  rw [G1.out] at hres
  refine hres.mono ?_
  clear hres
  clear mc0 mc1
  intro e w5 hres
  have hres2 := ib_rd hres (hfb)
  simp only [Option.getD_some, Option.isSome_some] at hres2
  obtain ⟨ARF, cRF, rfl, hRF, hR, hb⟩ := hres2
  clear hres
  have HB := hid (HB.out.trans (hb.mono HB.out.size))
  have LM2 := hid (LM2.out.bl hb)
  have RL := hid (RL.out.bl hb)
  clear hb
  have RF := hid hR
  clear hR
  have mc0 := LM2.out.at0
  have mc1 := LM2.out.at1
  go_wp2_with fail
  have hres := implReadingsMany_any A B C n c m e0 q d 0 l r page w5 LM2.out.hl LM2.out.hr LM2.out.hp
  rw [HMN.out] at hres
  refine hres.mono ?_
  clear hres
  clear mc0 mc1
  rintro e w6 ⟨rfl, hb⟩
  have HB := hid (HB.out.trans (hb.mono HB.out.size))
  have LM2 := hid (LM2.out.bl hb)
  have RL := hid (RL.out.bl hb)
  have RF := hid (RF.out.bl hb)
  clear hb
  have hK0b : (K == 0) = T := by rw [← G5.out, Bool.eq_iff_iff]; simp
  go_wp2_with fail
  refine (sameInts_any _ _ _ _ _ _ _ _ _ _ _ RF.out RL.out).mono ?_
  rintro e w7 ⟨rfl, hb⟩
  have HB := hid (HB.out.trans (hb.mono HB.out.size))
  have LM2 := hid (LM2.out.bl hb)
  have RL := hid (RL.out.bl hb)
  have RF := hid (RF.out.bl hb)
  clear hb
  rw [HT.out]
  have hneq : ((K == 0) != T) = false := by rw [hK0b]; cases T <;> rfl
  clear hK0b
  have hqp := HQP.out
  by_cases hq0 : q = 0
  case pos =>
    have hK1 : K = 0 := G6.out (by omega)
    clear hqp
    subst hq0
    go_wp2_with fail
    go_ret
    exact ⟨rfl, HB.out⟩
  have hq0i : ((q : Int) == 0) = false := by rw [beq_eq_false_iff_ne]; omega
  have hg3 := G3.out
  obtain ⟨hin, hsum⟩ := G7.out (by omega)
  obtain ⟨bE, oE, rfl, _, _, hatE⟩ := RL.out.2.2 (by omega)
  have ce := hatE.int (k := 0) (by omega)
  rw [Nat.add_zero] at ce
  obtain ⟨x0, hx0⟩ : ∃ x, gt xs 0 = x := ⟨_, rfl⟩
  rw [hx0] at ce hin hsum
  have hE0 : (0 : Int) < (xs.length : Int) := by omega
  have hE0n : 0 < xs.length := by omega
  have HX0 := hid hx0
  clear hatE hx0
  obtain ⟨bC, off, rfl, _, _, hatC⟩ := LM2.out.hp.2.2 (by omega)
  obtain ⟨AX, cX, cx, _, hRX⟩ := hatC.row (k := 0) (by omega)
  obtain ⟨pl, hpl⟩ : ∃ pl, gt page 0 = pl := ⟨_, rfl⟩
  have hpl2 := hid hpl
  rw [hpl] at cx hRX hin hsum
  have hp0 : 0 < pl.length := List.length_pos_of_mem hin
  have hp6 := pageOk_len (bothOk_yes HOK.out).2 (gt page 0) (gt_mem (by omega))
  rw [hpl] at hp6
  obtain ⟨bx, ox, rfl, _, _, hatx⟩ := hRX.2.2 hp0
  have HCI := hid fun z (hz : z < pl.length) => hatx.int hz
  obtain ⟨pn, hpn⟩ : ∃ pn, pl.length = pn := ⟨_, rfl⟩
  have HPN := hid hpn
  rw [hpn] at cx hp0 hp6
  have HFV := hid fun x hx => forceV_some (bothOk_yes HOK.out).2 (a := 0) (x := x) (by omega) (hpl.symm ▸ hx)
  have HFO := hid fun x hx => both_forced (l := l) (r := r) (a := 0) (x := x) HOK.out (by omega) (hpl.symm ▸ hx)
  have hmany := many_force l r page 0 0 (-1) (by omega)
  rw [Nat.zero_add, hpl] at hmany
  have HMY := hid hmany
  have HCX := hid cx
  have HCE := hid ce
  have HIN := hid hin
  have HSUM := hid hsum
  have hq0l : (0 : Int) < (q : Int) := by omega
  have hq0n : 0 < q := by omega
  have hfv : forceV (n : Int) page 0 x0 = some (forceL ((0 : Nat) : Int) x0 0 page) := by rw [HLN.out]; exact HFV.out x0 hin
  have hfl2 : ((some (forceL ((0 : Nat) : Int) x0 0 page)).getD []).length ≤ 1048576 := by rw [Option.getD_some, forceL_len]; omega
  have HFL := hid hfl2
  have HFE := hid hfv
  clear hfl2 hfv hin hsum hmany hpl hRX hatx hpn hatC cx hqp hg3
  have mc0 := LM2.out.at0
  have mc1 := LM2.out.at1
  go_wp2_with fail
  refine wp_region_invH (by kernel_rfl) (by kernel_rfl) (fun L a X => ∃ v10 v11 v71 v72 v73 v74 v75 v76 v77 v78 v79 v80 v81 : Value, a = { tmps := #[Value.slice A0 n0 c0, undef, Value.bool false, Value.pointer (some ⟨M, 0, none⟩), Value.slice (some ⟨bC, off, none⟩) q d, Value.slice (some ⟨bE, oE, none⟩) xs.length d2, Value.int IntKind.i64 K, Value.int IntKind.i64 K, Value.slice ARF f.length cRF, Value.bool true, v10, v11, undef, undef, undef, undef, Value.slice A0 n0 c0, Value.int IntKind.i64 ↑n0, Value.bool false, Value.tuple #[Value.agg #[Value.slice A n c, Value.slice B m e0], Value.slice (some ⟨bC, off, none⟩) q d, Value.slice (some ⟨bE, oE, none⟩) xs.length d2], Value.slice A0 n0 c0, Value.tuple #[Value.agg #[Value.slice A n c, Value.slice B m e0], Value.slice (some ⟨bC, off, none⟩) q d, Value.slice (some ⟨bE, oE, none⟩) xs.length d2], Value.agg #[Value.slice A n c, Value.slice B m e0], Value.slice (some ⟨bC, off, none⟩) q d, Value.slice (some ⟨bE, oE, none⟩) xs.length d2, Value.agg #[Value.slice A n c, Value.slice B m e0], Value.slice (some ⟨bC, off, none⟩) q d, Value.slice (some ⟨bE, oE, none⟩) xs.length d2, Value.int IntKind.i64 K, Value.agg #[Value.slice A n c, Value.slice B m e0], Value.slice (some ⟨bC, off, none⟩) q d, Value.slice (some ⟨bE, oE, none⟩) xs.length d2, Value.int IntKind.i64 K, Value.int IntKind.i64 K, Value.int IntKind.i64 K, Value.bool false, Value.bool false, Value.int IntKind.i64 K, Value.bool (decide (K < 0)), Value.bool (decide (K < 0)), undef, undef, undef, Value.tuple #[Value.slice ARF f.length cRF, Value.bool true], Value.agg #[Value.slice A n c, Value.slice B m e0], Value.slice (some ⟨bC, off, none⟩) q d, Value.tuple #[Value.slice ARF f.length cRF, Value.bool true], Value.slice ARF f.length cRF, Value.bool true, Value.bool true, Value.bool false, Value.bool false, Value.int IntKind.i64 K, Value.agg #[Value.slice A n c, Value.slice B m e0], Value.slice (some ⟨bC, off, none⟩) q d, Value.int IntKind.i64 mn, Value.bool (decide (mn ≤ K)), Value.bool (decide (mn ≤ K)), Value.bool (decide (mn ≤ K)), Value.int IntKind.i64 K, Value.bool T, Value.slice ARF f.length cRF, Value.slice (some ⟨bE, oE, none⟩) xs.length d2, Value.bool T, Value.bool false, Value.bool (decide (mn ≤ K)), Value.slice (some ⟨bC, off, none⟩) q d, Value.int IntKind.i64 ↑q, Value.bool false, undef, undef, v71, v72, v73, v74, v75, v76, v77, v78, v79, v80, v81, undef, undef, undef, undef, undef, undef, undef, undef, undef, undef, undef, undef, undef, undef, undef, undef, undef, undef, undef, undef, undef, undef, undef, undef, undef, undef, undef, undef, undef, undef, undef, undef, undef, undef, undef, undef, undef, undef, undef, undef, undef, undef, undef, undef, undef, undef, undef, undef, undef, undef, undef, undef], defers := [] } ∧
    (Below w7.heap.size w7 X) ∧ (L 0 = true → v72 = .pointer (some ⟨M, 0, none⟩)) ∧ (L 1 = true → v73 = .slice A n c) ∧ (L 2 = true → v74 = .int .i64 n) ∧ (L 3 = true → v75 = .slice (some ⟨bC, off, none⟩) q d) ∧ (L 4 = true → v76 = .slice (some ⟨bE, oE, none⟩) xs.length d2) ∧ (L 5 = true → v77 = .pointer (some ⟨bE, oE, none⟩)) ∧ (L 6 = true → v78 = .int .i64 x0) ∧ (L 7 = true → ∃ (D : Option Addr) (dd : Nat), v79 = .tuple #[.slice D (forceL ((0 : Nat) : Int) x0 0 page).length dd, .bool true] ∧ Rd (sliceS intS) 0 X.heap.size X D (forceL ((0 : Nat) : Int) x0 0 page).length (forceL ((0 : Nat) : Int) x0 0 page)) ∧ (L 8 = true → ∃ (D : Option Addr) (dd : Nat), v71 = .tuple #[.slice D (forceL ((0 : Nat) : Int) x0 0 page).length dd, .bool true] ∧ Rd (sliceS intS) 0 X.heap.size X D (forceL ((0 : Nat) : Int) x0 0 page).length (forceL ((0 : Nat) : Int) x0 0 page)) ∧ (L 9 = true → ∃ (D : Option Addr) (dd : Nat), v80 = .slice D (forceL ((0 : Nat) : Int) x0 0 page).length dd ∧ Rd (sliceS intS) 0 X.heap.size X D (forceL ((0 : Nat) : Int) x0 0 page).length (forceL ((0 : Nat) : Int) x0 0 page)) ∧ (L 10 = true → v81 = .bool true) ∧ (L 11 = true → ∃ (D : Option Addr) (dd : Nat), v10 = .slice D (forceL ((0 : Nat) : Int) x0 0 page).length dd ∧ Rd (sliceS intS) 0 X.heap.size X D (forceL ((0 : Nat) : Int) x0 0 page).length (forceL ((0 : Nat) : Int) x0 0 page)) ∧ (L 12 = true → v11 = .bool true)) ?_ ⟨?_, ?_, ?_, ?_, ?_, ?_, ?_, ?_, ?_, ?_, ?_, ?_, ?_, trivial⟩ ?_
  · exact ⟨_, _, _, _, _, _, _, _, _, _, _, _, _, rfl, bdr _, fun h => (by cases h), fun h => (by cases h), fun h => (by cases h), fun h => (by cases h), fun h => (by cases h), fun h => (by cases h), fun h => (by cases h), fun h => (by cases h), fun h => (by cases h), fun h => (by cases h), fun h => (by cases h), fun h => (by cases h), fun h => (by cases h)⟩
  · rintro L a X K0 ⟨v10, v11, v71, v72, v73, v74, v75, v76, v77, v78, v79, v80, v81, rfl, hB, f0, f1, f2, f3, f4, f5, f6, f7, f8, f9, f10, f11, f12⟩ hL hd hK
    clear hd
    refine ⟨rfl, ?_⟩
    go_simp
    exact hK _ _ ⟨_, _, _, _, _, _, _, _, _, _, _, _, _, rfl, hB, fun _ => rfl, f1, f2, f3, f4, f5, f6, f7, f8, f9, f10, f11, f12⟩
  · rintro L a X K0 ⟨v10, v11, v71, v72, v73, v74, v75, v76, v77, v78, v79, v80, v81, rfl, hB, f0, f1, f2, f3, f4, f5, f6, f7, f8, f9, f10, f11, f12⟩ hL hd hK
    have d0 := hd ⟨0, .data⟩ (by simp) rfl
    obtain rfl := f0 d0
    have q0 := bcl hB mc0
    clear hd
    refine ⟨rfl, ?_⟩
    go_simp
    exact hK _ _ ⟨_, _, _, _, _, _, _, _, _, _, _, _, _, rfl, hB, f0, fun _ => rfl, f2, f3, f4, f5, f6, f7, f8, f9, f10, f11, f12⟩
  · rintro L a X K0 ⟨v10, v11, v71, v72, v73, v74, v75, v76, v77, v78, v79, v80, v81, rfl, hB, f0, f1, f2, f3, f4, f5, f6, f7, f8, f9, f10, f11, f12⟩ hL hd hK
    have d1 := hd ⟨1, .data⟩ (by simp) rfl
    obtain rfl := f1 d1
    clear hd
    refine ⟨rfl, ?_⟩
    go_simp
    exact hK _ _ ⟨_, _, _, _, _, _, _, _, _, _, _, _, _, rfl, hB, f0, f1, fun _ => rfl, f3, f4, f5, f6, f7, f8, f9, f10, f11, f12⟩
  · rintro L a X K0 ⟨v10, v11, v71, v72, v73, v74, v75, v76, v77, v78, v79, v80, v81, rfl, hB, f0, f1, f2, f3, f4, f5, f6, f7, f8, f9, f10, f11, f12⟩ hL hd hK
    clear hd
    refine ⟨rfl, ?_⟩
    go_simp
    exact hK _ _ ⟨_, _, _, _, _, _, _, _, _, _, _, _, _, rfl, hB, f0, f1, f2, fun _ => rfl, f4, f5, f6, f7, f8, f9, f10, f11, f12⟩
  · rintro L a X K0 ⟨v10, v11, v71, v72, v73, v74, v75, v76, v77, v78, v79, v80, v81, rfl, hB, f0, f1, f2, f3, f4, f5, f6, f7, f8, f9, f10, f11, f12⟩ hL hd hK
    clear hd
    refine ⟨rfl, ?_⟩
    go_simp
    exact hK _ _ ⟨_, _, _, _, _, _, _, _, _, _, _, _, _, rfl, hB, f0, f1, f2, f3, fun _ => rfl, f5, f6, f7, f8, f9, f10, f11, f12⟩
  · rintro L a X K0 ⟨v10, v11, v71, v72, v73, v74, v75, v76, v77, v78, v79, v80, v81, rfl, hB, f0, f1, f2, f3, f4, f5, f6, f7, f8, f9, f10, f11, f12⟩ hL hd hK
    have d4 := hd ⟨4, .data⟩ (by simp) rfl
    obtain rfl := f4 d4
    clear hd
    refine ⟨rfl, ?_⟩
    go_simp
    exact hK _ _ ⟨_, _, _, _, _, _, _, _, _, _, _, _, _, rfl, hB, f0, f1, f2, f3, f4, fun _ => rfl, f6, f7, f8, f9, f10, f11, f12⟩
  · rintro L a X K0 ⟨v10, v11, v71, v72, v73, v74, v75, v76, v77, v78, v79, v80, v81, rfl, hB, f0, f1, f2, f3, f4, f5, f6, f7, f8, f9, f10, f11, f12⟩ hL hd hK
    have d5 := hd ⟨5, .data⟩ (by simp) rfl
    obtain rfl := f5 d5
    have q0 := bcl hB ce
    clear hd
    refine ⟨rfl, ?_⟩
    go_simp
    exact hK _ _ ⟨_, _, _, _, _, _, _, _, _, _, _, _, _, rfl, hB, f0, f1, f2, f3, f4, f5, fun _ => rfl, f7, f8, f9, f10, f11, f12⟩
  · rintro L a X K0 ⟨v10, v11, v71, v72, v73, v74, v75, v76, v77, v78, v79, v80, v81, rfl, hB, f0, f1, f2, f3, f4, f5, f6, f7, f8, f9, f10, f11, f12⟩ hL hd hK
    have d2 := hd ⟨2, .data⟩ (by simp) rfl
    obtain rfl := f2 d2
    have d3 := hd ⟨3, .data⟩ (by simp) rfl
    obtain rfl := f3 d3
    have d6 := hd ⟨6, .data⟩ (by simp) rfl
    obtain rfl := f6 d6
    clear hd
    refine ⟨rfl, ?_⟩
    go_simp
    have hres := implPageForce_any (some ⟨bC, off, none⟩) q d 0 (n : Int) 0 x0 page X (LM2.out.hp.bl hB)
    rw [HFE.out] at hres
    refine hres.mono ?_
    clear hres
    intro e X2 hres
    have hres2 := rb_rd hres (HFL.out)
    simp only [Option.getD_some, Option.isSome_some] at hres2
    obtain ⟨A9, c9, rfl, hR9, hb⟩ := hres2
    exact hK _ _ ⟨_, _, _, _, _, _, _, _, _, _, _, _, _, rfl, btr hB hb, f0, f1, f2, f3, f4, f5, f6, fun _ => ⟨A9, c9, rfl, hR9⟩, fun h => (by obtain ⟨D, dd, e, l⟩ := f8 h; exact ⟨D, dd, e, l.bl hb⟩), fun h => (by obtain ⟨D, dd, e, l⟩ := f9 h; exact ⟨D, dd, e, l.bl hb⟩), f10, fun h => (by obtain ⟨D, dd, e, l⟩ := f11 h; exact ⟨D, dd, e, l.bl hb⟩), f12⟩
  · rintro L a X K0 ⟨v10, v11, v71, v72, v73, v74, v75, v76, v77, v78, v79, v80, v81, rfl, hB, f0, f1, f2, f3, f4, f5, f6, f7, f8, f9, f10, f11, f12⟩ hL hd hK
    have d7 := hd ⟨7, .data⟩ (by simp) rfl
    obtain ⟨D, dd, rfl, hrd⟩ := f7 d7
    clear hd
    refine ⟨rfl, ?_⟩
    go_simp
    exact hK _ _ ⟨_, _, _, _, _, _, _, _, _, _, _, _, _, rfl, hB, f0, f1, f2, f3, f4, f5, f6, fun _ => ⟨D, dd, rfl, hrd⟩, fun _ => ⟨D, dd, rfl, hrd⟩, f9, f10, f11, f12⟩
  · rintro L a X K0 ⟨v10, v11, v71, v72, v73, v74, v75, v76, v77, v78, v79, v80, v81, rfl, hB, f0, f1, f2, f3, f4, f5, f6, f7, f8, f9, f10, f11, f12⟩ hL hd hK
    have d8 := hd ⟨8, .data⟩ (by simp) rfl
    obtain ⟨D, dd, rfl, hrd⟩ := f8 d8
    clear hd
    refine ⟨rfl, ?_⟩
    go_simp
    exact hK _ _ ⟨_, _, _, _, _, _, _, _, _, _, _, _, _, rfl, hB, f0, f1, f2, f3, f4, f5, f6, f7, fun _ => ⟨D, dd, rfl, hrd⟩, fun _ => ⟨D, dd, rfl, hrd⟩, f10, f11, f12⟩
  · rintro L a X K0 ⟨v10, v11, v71, v72, v73, v74, v75, v76, v77, v78, v79, v80, v81, rfl, hB, f0, f1, f2, f3, f4, f5, f6, f7, f8, f9, f10, f11, f12⟩ hL hd hK
    have d8 := hd ⟨8, .data⟩ (by simp) rfl
    obtain ⟨D, dd, rfl, hrd⟩ := f8 d8
    clear hd
    refine ⟨rfl, ?_⟩
    go_simp
    exact hK _ _ ⟨_, _, _, _, _, _, _, _, _, _, _, _, _, rfl, hB, f0, f1, f2, f3, f4, f5, f6, f7, fun _ => ⟨D, dd, rfl, hrd⟩, f9, fun _ => rfl, f11, f12⟩
  · rintro L a X K0 ⟨v10, v11, v71, v72, v73, v74, v75, v76, v77, v78, v79, v80, v81, rfl, hB, f0, f1, f2, f3, f4, f5, f6, f7, f8, f9, f10, f11, f12⟩ hL hd hK
    have d9 := hd ⟨9, .data⟩ (by simp) rfl
    obtain ⟨D, dd, rfl, hrd⟩ := f9 d9
    clear hd
    refine ⟨rfl, ?_⟩
    go_simp
    exact hK _ _ ⟨_, _, _, _, _, _, _, _, _, _, _, _, _, rfl, hB, f0, f1, f2, f3, f4, f5, f6, f7, f8, fun _ => ⟨D, dd, rfl, hrd⟩, f10, fun _ => ⟨D, dd, rfl, hrd⟩, f12⟩
  · rintro L a X K0 ⟨v10, v11, v71, v72, v73, v74, v75, v76, v77, v78, v79, v80, v81, rfl, hB, f0, f1, f2, f3, f4, f5, f6, f7, f8, f9, f10, f11, f12⟩ hL hd hK
    have d10 := hd ⟨10, .data⟩ (by simp) rfl
    obtain rfl := f10 d10
    clear hd
    refine ⟨rfl, ?_⟩
    go_simp
    exact hK _ _ ⟨_, _, _, _, _, _, _, _, _, _, _, _, _, rfl, hB, f0, f1, f2, f3, f4, f5, f6, f7, f8, f9, f10, f11, fun _ => rfl⟩
  · rintro L a X hLL ⟨v10, v11, v71, v72, v73, v74, v75, v76, v77, v78, v79, v80, v81, rfl, hB, f0, f1, f2, f3, f4, f5, f6, f7, f8, f9, f10, f11, f12⟩
    obtain ⟨ARF0, cRF0, rfl, hR⟩ := f11 (hLL 11 (by simp))
    obtain rfl := f12 (hLL 12 (by simp))
    have hb := hB
    clear f0 f1 f2 f3 f4 f5 f6 f7 f8 f9 f10 f11 f12 hB hLL mc0 mc1
    have HB := hid (HB.out.trans (hb.mono HB.out.size))
    have LM2 := hid (LM2.out.bl hb)
    have RL := hid (RL.out.bl hb)
    have RF := hid (RF.out.bl hb)
    clear hb
    have RF0 := hid hR
    clear hR
    clear ce
    go_wp2_with fail
    have HB1 := HB
    clear HB HCX HCE
    go_loopg [12, 13] pn (fun gk less i wr => ∃ k : Nat, k + gk = pn ∧ i = .int .i64 k ∧ less = .int .i64 (((pl.take k).map fun x => manyOf l r (forceL ((0 : Nat) : Int) x 0 page) (-1)).sum : Nat) ∧ (∀ j, j < k → gt pl j < x0) ∧ Below X.heap.size X wr)
    case atStart => exact ⟨0, Nat.zero_add _, rfl, rfl, (fun j hj => by omega), Below.refl _ _⟩
    case round =>
      obtain ⟨k, hkg, rfl, rfl, hall, hb⟩ := hrel
      have HKG := hid hkg
      have HB := hid hb
      have hk : k ≤ pn := by omega
      have HALL := hid hall
      obtain ⟨sm, hsm⟩ : ∃ sm, ((pl.take k).map fun x => manyOf l r (forceL ((0 : Nat) : Int) x 0 page) (-1)).sum = sm := ⟨_, rfl⟩
      rw [hsm]
      have HSM := hid hsm
      have hsm3 : sm ≤ 1679616 := by have h1 := many_max l r page (-1) HOK.out; rw [← HMY.out, ← List.take_append_drop k pl, List.map_append, List.sum_append, hsm] at h1; omega
      clear hkg hsm hall
      have LM2r := hid (LM2.out.bl hb)
      clear LM2
      have LM2 := LM2r
      clear LM2r
      have RLr := hid (RL.out.bl hb)
      clear RL
      have RL := RLr
      clear RLr
      have RF0r := hid (RF0.out.bl hb)
      clear RF0
      have RF0 := RF0r
      clear RF0r
      clear hb RF
      have hp1 := LM2.out.hp
      obtain ⟨AX2, cX2, cx, hRX2⟩ := row_at hp1 (k := 0) (by omega)
      rw [hpl2.out] at cx hRX2
      obtain ⟨bx2, ox2, rfl⟩ := int_some hRX2 (by rw [HPN.out]; exact hp0)
      have HCX2 := hid hRX2
      rw [HPN.out, Nat.add_zero] at cx
      have ce := int_at RL.out (k := 0) (by omega)
      rw [HX0.out, Nat.add_zero] at ce
      have c1 := aft_cell (block_lt_of_cell cx) cx
      have c2 := aft_cell (block_lt_of_cell ce) ce
      clear hp1 hRX2
      by_cases hlt : k < pn
      case neg =>
        obtain rfl : pn = k := by omega
        have hwt : (pl.takeWhile fun y => decide (y < x0)) = pl.take pn := while_take (by rw [HPN.out]; exact Nat.le_refl _) HALL.out (fun h => absurd h (by rw [HPN.out]; omega))
        go_wp2_with fail
        refine wp_region_aft (Below.refl wr.heap.size wr) (by kernel_rfl) (by kernel_rfl) ?_
        repeat (go_big_quiet_step (fail))
        refine wpQuiet_nil ?_
        rintro w9 ⟨⟨_, hb⟩, rfl⟩
        have HB := hid (HB.out.trans (hb.mono HB.out.size))
        have LM2 := hid (LM2.out.bl hb)
        have RL := hid (RL.out.bl hb)
        have RF0 := hid (RF0.out.bl hb)
        clear hb
        clear cx ce c1 c2
        have hsum := HSUM.out
        rw [hwt, HSM.out] at hsum
        obtain ⟨R2, hR2⟩ : ∃ R2, rankV l r (forceL ((0 : Nat) : Int) x0 0 page) xs = R2 := ⟨_, rfl⟩
        rw [hR2] at hsum
        have HR2 := hid hR2
        clear hR2 hwt
        have mc0 := LM2.out.at0
        have mc1 := LM2.out.at1
        go_wp2_with fail
        have hres := implReadingsRank_any A B ARF0 (some ⟨bE, oE, none⟩) n c m e0 _ cRF0 xs.length d2 l r (forceL ((0 : Nat) : Int) x0 0 page) xs w9 LM2.out.hl LM2.out.hr RF0.out RL.out hxd
        rw [HR2.out] at hres
        refine hres.mono ?_
        clear hres
        clear mc0 mc1
        rintro e w10 ⟨rfl, hb⟩
        have HB := hid (HB.out.trans (hb.mono HB.out.size))
        have LM2 := hid (LM2.out.bl hb)
        have RL := hid (RL.out.bl hb)
        have RF0 := hid (RF0.out.bl hb)
        clear hb
        have hKe : R2 + (sm : Int) = K := hsum
        clear hsum
        go_wp2_with fail
        go_ret
        exact ⟨rfl, HB1.out.trans (HB.out.mono HB1.out.size)⟩
      case pos =>
        have hki : (k : Int) < (pn : Int) := by omega
        have ci := int_at HCX2.out (k := k) (by rw [HPN.out]; exact hlt)
        obtain ⟨x, hxx⟩ : ∃ x, gt pl k = x := ⟨_, rfl⟩
        have hxin : x ∈ pl := by rw [← hxx]; exact gt_mem (by rw [HPN.out]; exact hlt)
        have HTK := hid (take_gt (l := pl) (k := k) (by rw [HPN.out]; exact hlt))
        rw [hxx] at ci
        have HXX := hid hxx
        have HXI := hid hxin
        have c3 := aft_cell (block_lt_of_cell ci) ci
        clear hxin
        by_cases hxl : x < x0
        case neg =>
          have hwt : (pl.takeWhile fun y => decide (y < x0)) = pl.take k := while_take (by rw [HPN.out]; exact hk) HALL.out (fun _ => by rw [hxx]; exact hxl)
          clear hxx
          go_wp2_with fail
          refine wp_region_aft (Below.refl wr.heap.size wr) (by kernel_rfl) (by kernel_rfl) ?_
          repeat (go_big_quiet_step (fail))
          refine wpQuiet_nil ?_
          rintro w9 ⟨⟨_, hb⟩, rfl⟩
          have HB := hid (HB.out.trans (hb.mono HB.out.size))
          have LM2 := hid (LM2.out.bl hb)
          have RL := hid (RL.out.bl hb)
          have RF0 := hid (RF0.out.bl hb)
          clear hb
          clear cx ce ci c1 c2 c3
          have hsum := HSUM.out
          rw [hwt, HSM.out] at hsum
          obtain ⟨R2, hR2⟩ : ∃ R2, rankV l r (forceL ((0 : Nat) : Int) x0 0 page) xs = R2 := ⟨_, rfl⟩
          rw [hR2] at hsum
          have HR2 := hid hR2
          clear hR2 hwt
          have mc0 := LM2.out.at0
          have mc1 := LM2.out.at1
          go_wp2_with fail
          have hres := implReadingsRank_any A B ARF0 (some ⟨bE, oE, none⟩) n c m e0 _ cRF0 xs.length d2 l r (forceL ((0 : Nat) : Int) x0 0 page) xs w9 LM2.out.hl LM2.out.hr RF0.out RL.out hxd
          rw [HR2.out] at hres
          refine hres.mono ?_
          clear hres
          clear mc0 mc1
          rintro e w10 ⟨rfl, hb⟩
          have HB := hid (HB.out.trans (hb.mono HB.out.size))
          have LM2 := hid (LM2.out.bl hb)
          have RL := hid (RL.out.bl hb)
          have RF0 := hid (RF0.out.bl hb)
          clear hb
          have hKe : R2 + (sm : Int) = K := hsum
          clear hsum
          go_wp2_with fail
          go_ret
          exact ⟨rfl, HB1.out.trans (HB.out.mono HB1.out.size)⟩
        case pos =>
          clear hxx
          go_wp2_with fail
          refine wp_region_aft (Below.refl wr.heap.size wr) (by kernel_rfl) (by kernel_rfl) ?_
          repeat (go_big_quiet_step (fail))
          refine wpQuiet_nil ?_
          rintro w9 ⟨⟨_, hb⟩, rfl⟩
          have HB := hid (HB.out.trans (hb.mono HB.out.size))
          have LM2 := hid (LM2.out.bl hb)
          have RL := hid (RL.out.bl hb)
          have RF0 := hid (RF0.out.bl hb)
          clear hb
          clear cx ce ci c1 c2 c3
          have hp1 := LM2.out.hp
          obtain ⟨AX3, cX3, cx, hRX3⟩ := row_at hp1 (k := 0) (by omega)
          rw [hpl2.out] at cx hRX3
          obtain ⟨bx3, ox3, rfl⟩ := int_some hRX3 (by rw [HPN.out]; exact hp0)
          have ci := int_at hRX3 (k := k) (by rw [HPN.out]; exact hlt)
          rw [HPN.out, Nat.add_zero] at cx
          rw [HXX.out] at ci
          clear hp1 hRX3
          have mc0 := LM2.out.at0
          have mc1 := LM2.out.at1
          go_wp2_with fail
          have hfv : forceV (n : Int) page 0 x = some (forceL ((0 : Nat) : Int) x 0 page) := by rw [HLN.out]; exact HFV.out x HXI.out
          have hfl : ((some (forceL ((0 : Nat) : Int) x 0 page)).getD []).length ≤ 1048576 := by rw [Option.getD_some, forceL_len]; have := HQP.out; omega
          have HFL2 := hid hfl
          have HFE2 := hid hfv
          clear hfl hfv
          refine wp_region_invH (by kernel_rfl) (by kernel_rfl) (fun L a X => ∃ v14 v15 v102 v103 v104 v105 v106 v107 v108 v109 v110 v111 v112 v113 v114 v115 : Value, a = { tmps := #[Value.slice A0 n0 c0, undef, u2, Value.pointer (some ⟨M, 0, none⟩), Value.slice (some ⟨bC, off, none⟩) q d, Value.slice (some ⟨bE, oE, none⟩) xs.length d2, Value.int IntKind.i64 K, Value.int IntKind.i64 K, Value.slice ARF f.length cRF, Value.bool true, Value.slice ARF0 (forceL 0 x0 0 page).length cRF0, Value.bool true, Value.int IntKind.i64 ↑sm, Value.int IntKind.i64 ↑k, v14, v15, Value.slice A0 n0 c0, Value.int IntKind.i64 ↑n0, Value.bool false, Value.tuple #[Value.agg #[Value.slice A n c, Value.slice B m e0], Value.slice (some ⟨bC, off, none⟩) q d, Value.slice (some ⟨bE, oE, none⟩) xs.length d2], Value.slice A0 n0 c0, Value.tuple #[Value.agg #[Value.slice A n c, Value.slice B m e0], Value.slice (some ⟨bC, off, none⟩) q d, Value.slice (some ⟨bE, oE, none⟩) xs.length d2], Value.agg #[Value.slice A n c, Value.slice B m e0], Value.slice (some ⟨bC, off, none⟩) q d, Value.slice (some ⟨bE, oE, none⟩) xs.length d2, Value.agg #[Value.slice A n c, Value.slice B m e0], Value.slice (some ⟨bC, off, none⟩) q d, Value.slice (some ⟨bE, oE, none⟩) xs.length d2, Value.int IntKind.i64 K, Value.agg #[Value.slice A n c, Value.slice B m e0], Value.slice (some ⟨bC, off, none⟩) q d, Value.slice (some ⟨bE, oE, none⟩) xs.length d2, Value.int IntKind.i64 K, Value.int IntKind.i64 K, Value.int IntKind.i64 K, Value.bool false, Value.bool false, Value.int IntKind.i64 K, Value.bool (decide (K < 0)), Value.bool (decide (K < 0)), undef, undef, undef, Value.tuple #[Value.slice ARF f.length cRF, Value.bool true], Value.agg #[Value.slice A n c, Value.slice B m e0], Value.slice (some ⟨bC, off, none⟩) q d, Value.tuple #[Value.slice ARF f.length cRF, Value.bool true], Value.slice ARF f.length cRF, Value.bool true, Value.bool true, Value.bool false, Value.bool false, Value.int IntKind.i64 K, Value.agg #[Value.slice A n c, Value.slice B m e0], Value.slice (some ⟨bC, off, none⟩) q d, Value.int IntKind.i64 mn, Value.bool (decide (mn ≤ K)), Value.bool (decide (mn ≤ K)), Value.bool (decide (mn ≤ K)), Value.int IntKind.i64 K, Value.bool T, Value.slice ARF f.length cRF, Value.slice (some ⟨bE, oE, none⟩) xs.length d2, Value.bool T, Value.bool false, Value.bool (decide (mn ≤ K)), Value.slice (some ⟨bC, off, none⟩) q d, Value.int IntKind.i64 ↑q, Value.bool false, undef, undef, v71, v72, v73, v74, v75, v76, v77, v78, v79, v80, v81, Value.int IntKind.i64 ↑k, Value.slice (some ⟨bC, off, none⟩) q d, Value.pointer (some ⟨bC, off, none⟩), Value.slice (some ⟨bx2, ox2, none⟩) pn cX2, Value.int IntKind.i64 ↑pn, Value.bool true, Value.bool true, Value.slice (some ⟨bC, off, none⟩) q d, Value.pointer (some ⟨bC, off, none⟩), Value.slice (some ⟨bx2, ox2, none⟩) pn cX2, Value.int IntKind.i64 ↑k, Value.pointer (some ⟨bx2, ox2 + k, none⟩), Value.int IntKind.i64 x, Value.slice (some ⟨bE, oE, none⟩) xs.length d2, Value.pointer (some ⟨bE, oE, none⟩), Value.int IntKind.i64 x0, Value.bool true, Value.bool true, u100, u101, v102, v103, v104, v105, v106, v107, v108, v109, v110, v111, v112, v113, v114, v115, u116, u117, u118, u119, u120, u121, u122, undef, undef, undef, undef, undef, undef, undef, undef, undef, undef, undef], defers := [] } ∧
            (Below w9.heap.size w9 X) ∧ (L 0 = true → v103 = .pointer (some ⟨M, 0, none⟩)) ∧ (L 1 = true → v104 = .slice A n c) ∧ (L 2 = true → v105 = .int .i64 n) ∧ (L 3 = true → v106 = .slice (some ⟨bC, off, none⟩) q d) ∧ (L 4 = true → v107 = .slice (some ⟨bC, off, none⟩) q d) ∧ (L 5 = true → v108 = .pointer (some ⟨bC, off, none⟩)) ∧ (L 6 = true → v109 = .slice (some ⟨bx3, ox3, none⟩) pn cX3) ∧ (L 7 = true → v110 = .int .i64 k) ∧ (L 8 = true → v111 = .pointer (some ⟨bx3, ox3 + k, none⟩)) ∧ (L 9 = true → v112 = .int .i64 x) ∧ (L 10 = true → ∃ (D : Option Addr) (dd : Nat), v113 = .tuple #[.slice D (forceL ((0 : Nat) : Int) x 0 page).length dd, .bool true] ∧ Rd (sliceS intS) 0 X.heap.size X D (forceL ((0 : Nat) : Int) x 0 page).length (forceL ((0 : Nat) : Int) x 0 page)) ∧ (L 11 = true → ∃ (D : Option Addr) (dd : Nat), v102 = .tuple #[.slice D (forceL ((0 : Nat) : Int) x 0 page).length dd, .bool true] ∧ Rd (sliceS intS) 0 X.heap.size X D (forceL ((0 : Nat) : Int) x 0 page).length (forceL ((0 : Nat) : Int) x 0 page)) ∧ (L 12 = true → ∃ (D : Option Addr) (dd : Nat), v114 = .slice D (forceL ((0 : Nat) : Int) x 0 page).length dd ∧ Rd (sliceS intS) 0 X.heap.size X D (forceL ((0 : Nat) : Int) x 0 page).length (forceL ((0 : Nat) : Int) x 0 page)) ∧ (L 13 = true → v115 = .bool true) ∧ (L 14 = true → ∃ (D : Option Addr) (dd : Nat), v14 = .slice D (forceL ((0 : Nat) : Int) x 0 page).length dd ∧ Rd (sliceS intS) 0 X.heap.size X D (forceL ((0 : Nat) : Int) x 0 page).length (forceL ((0 : Nat) : Int) x 0 page)) ∧ (L 15 = true → v15 = .bool true)) ?_ ⟨?_, ?_, ?_, ?_, ?_, ?_, ?_, ?_, ?_, ?_, ?_, ?_, ?_, ?_, ?_, ?_, trivial⟩ ?_
          · exact ⟨_, _, _, _, _, _, _, _, _, _, _, _, _, _, _, _, rfl, bdr _, fun h => (by cases h), fun h => (by cases h), fun h => (by cases h), fun h => (by cases h), fun h => (by cases h), fun h => (by cases h), fun h => (by cases h), fun h => (by cases h), fun h => (by cases h), fun h => (by cases h), fun h => (by cases h), fun h => (by cases h), fun h => (by cases h), fun h => (by cases h), fun h => (by cases h), fun h => (by cases h)⟩
          · rintro L a X K0 ⟨v14, v15, v102, v103, v104, v105, v106, v107, v108, v109, v110, v111, v112, v113, v114, v115, rfl, hB, f0, f1, f2, f3, f4, f5, f6, f7, f8, f9, f10, f11, f12, f13, f14, f15⟩ hL hd hK
            clear hd
            refine ⟨rfl, ?_⟩
            go_simp
            exact hK _ _ ⟨_, _, _, _, _, _, _, _, _, _, _, _, _, _, _, _, rfl, hB, fun _ => rfl, f1, f2, f3, f4, f5, f6, f7, f8, f9, f10, f11, f12, f13, f14, f15⟩
          · rintro L a X K0 ⟨v14, v15, v102, v103, v104, v105, v106, v107, v108, v109, v110, v111, v112, v113, v114, v115, rfl, hB, f0, f1, f2, f3, f4, f5, f6, f7, f8, f9, f10, f11, f12, f13, f14, f15⟩ hL hd hK
            have d0 := hd ⟨0, .data⟩ (by simp) rfl
            obtain rfl := f0 d0
            have q0 := bcl hB mc0
            clear hd
            refine ⟨rfl, ?_⟩
            go_simp
            exact hK _ _ ⟨_, _, _, _, _, _, _, _, _, _, _, _, _, _, _, _, rfl, hB, f0, fun _ => rfl, f2, f3, f4, f5, f6, f7, f8, f9, f10, f11, f12, f13, f14, f15⟩
          · rintro L a X K0 ⟨v14, v15, v102, v103, v104, v105, v106, v107, v108, v109, v110, v111, v112, v113, v114, v115, rfl, hB, f0, f1, f2, f3, f4, f5, f6, f7, f8, f9, f10, f11, f12, f13, f14, f15⟩ hL hd hK
            have d1 := hd ⟨1, .data⟩ (by simp) rfl
            obtain rfl := f1 d1
            clear hd
            refine ⟨rfl, ?_⟩
            go_simp
            exact hK _ _ ⟨_, _, _, _, _, _, _, _, _, _, _, _, _, _, _, _, rfl, hB, f0, f1, fun _ => rfl, f3, f4, f5, f6, f7, f8, f9, f10, f11, f12, f13, f14, f15⟩
          · rintro L a X K0 ⟨v14, v15, v102, v103, v104, v105, v106, v107, v108, v109, v110, v111, v112, v113, v114, v115, rfl, hB, f0, f1, f2, f3, f4, f5, f6, f7, f8, f9, f10, f11, f12, f13, f14, f15⟩ hL hd hK
            clear hd
            refine ⟨rfl, ?_⟩
            go_simp
            exact hK _ _ ⟨_, _, _, _, _, _, _, _, _, _, _, _, _, _, _, _, rfl, hB, f0, f1, f2, fun _ => rfl, f4, f5, f6, f7, f8, f9, f10, f11, f12, f13, f14, f15⟩
          · rintro L a X K0 ⟨v14, v15, v102, v103, v104, v105, v106, v107, v108, v109, v110, v111, v112, v113, v114, v115, rfl, hB, f0, f1, f2, f3, f4, f5, f6, f7, f8, f9, f10, f11, f12, f13, f14, f15⟩ hL hd hK
            clear hd
            refine ⟨rfl, ?_⟩
            go_simp
            exact hK _ _ ⟨_, _, _, _, _, _, _, _, _, _, _, _, _, _, _, _, rfl, hB, f0, f1, f2, f3, fun _ => rfl, f5, f6, f7, f8, f9, f10, f11, f12, f13, f14, f15⟩
          · rintro L a X K0 ⟨v14, v15, v102, v103, v104, v105, v106, v107, v108, v109, v110, v111, v112, v113, v114, v115, rfl, hB, f0, f1, f2, f3, f4, f5, f6, f7, f8, f9, f10, f11, f12, f13, f14, f15⟩ hL hd hK
            have d4 := hd ⟨4, .data⟩ (by simp) rfl
            obtain rfl := f4 d4
            clear hd
            refine ⟨rfl, ?_⟩
            go_simp
            exact hK _ _ ⟨_, _, _, _, _, _, _, _, _, _, _, _, _, _, _, _, rfl, hB, f0, f1, f2, f3, f4, fun _ => rfl, f6, f7, f8, f9, f10, f11, f12, f13, f14, f15⟩
          · rintro L a X K0 ⟨v14, v15, v102, v103, v104, v105, v106, v107, v108, v109, v110, v111, v112, v113, v114, v115, rfl, hB, f0, f1, f2, f3, f4, f5, f6, f7, f8, f9, f10, f11, f12, f13, f14, f15⟩ hL hd hK
            have d5 := hd ⟨5, .data⟩ (by simp) rfl
            obtain rfl := f5 d5
            have q0 := bcl hB cx
            clear hd
            refine ⟨rfl, ?_⟩
            go_simp
            exact hK _ _ ⟨_, _, _, _, _, _, _, _, _, _, _, _, _, _, _, _, rfl, hB, f0, f1, f2, f3, f4, f5, fun _ => rfl, f7, f8, f9, f10, f11, f12, f13, f14, f15⟩
          · rintro L a X K0 ⟨v14, v15, v102, v103, v104, v105, v106, v107, v108, v109, v110, v111, v112, v113, v114, v115, rfl, hB, f0, f1, f2, f3, f4, f5, f6, f7, f8, f9, f10, f11, f12, f13, f14, f15⟩ hL hd hK
            clear hd
            refine ⟨rfl, ?_⟩
            go_simp
            exact hK _ _ ⟨_, _, _, _, _, _, _, _, _, _, _, _, _, _, _, _, rfl, hB, f0, f1, f2, f3, f4, f5, f6, fun _ => rfl, f8, f9, f10, f11, f12, f13, f14, f15⟩
          · rintro L a X K0 ⟨v14, v15, v102, v103, v104, v105, v106, v107, v108, v109, v110, v111, v112, v113, v114, v115, rfl, hB, f0, f1, f2, f3, f4, f5, f6, f7, f8, f9, f10, f11, f12, f13, f14, f15⟩ hL hd hK
            have d6 := hd ⟨6, .data⟩ (by simp) rfl
            obtain rfl := f6 d6
            have d7 := hd ⟨7, .data⟩ (by simp) rfl
            obtain rfl := f7 d7
            clear hd
            refine ⟨rfl, ?_⟩
            go_simp
            exact hK _ _ ⟨_, _, _, _, _, _, _, _, _, _, _, _, _, _, _, _, rfl, hB, f0, f1, f2, f3, f4, f5, f6, f7, fun _ => rfl, f9, f10, f11, f12, f13, f14, f15⟩
          · rintro L a X K0 ⟨v14, v15, v102, v103, v104, v105, v106, v107, v108, v109, v110, v111, v112, v113, v114, v115, rfl, hB, f0, f1, f2, f3, f4, f5, f6, f7, f8, f9, f10, f11, f12, f13, f14, f15⟩ hL hd hK
            have d8 := hd ⟨8, .data⟩ (by simp) rfl
            obtain rfl := f8 d8
            have q0 := bcl hB ci
            clear hd
            refine ⟨rfl, ?_⟩
            go_simp
            exact hK _ _ ⟨_, _, _, _, _, _, _, _, _, _, _, _, _, _, _, _, rfl, hB, f0, f1, f2, f3, f4, f5, f6, f7, f8, fun _ => rfl, f10, f11, f12, f13, f14, f15⟩
          · rintro L a X K0 ⟨v14, v15, v102, v103, v104, v105, v106, v107, v108, v109, v110, v111, v112, v113, v114, v115, rfl, hB, f0, f1, f2, f3, f4, f5, f6, f7, f8, f9, f10, f11, f12, f13, f14, f15⟩ hL hd hK
            have d2 := hd ⟨2, .data⟩ (by simp) rfl
            obtain rfl := f2 d2
            have d3 := hd ⟨3, .data⟩ (by simp) rfl
            obtain rfl := f3 d3
            have d9 := hd ⟨9, .data⟩ (by simp) rfl
            obtain rfl := f9 d9
            clear hd
            refine ⟨rfl, ?_⟩
            go_simp
            have hres := implPageForce_any (some ⟨bC, off, none⟩) q d 0 (n : Int) 0 x page X (LM2.out.hp.bl hB)
            rw [HFE2.out] at hres
            refine hres.mono ?_
            clear hres
            intro e X2 hres
            have hres2 := rb_rd hres (HFL2.out)
            simp only [Option.getD_some, Option.isSome_some] at hres2
            obtain ⟨A9, c9, rfl, hR9, hb⟩ := hres2
            exact hK _ _ ⟨_, _, _, _, _, _, _, _, _, _, _, _, _, _, _, _, rfl, btr hB hb, f0, f1, f2, f3, f4, f5, f6, f7, f8, f9, fun _ => ⟨A9, c9, rfl, hR9⟩, fun h => (by obtain ⟨D, dd, e, l⟩ := f11 h; exact ⟨D, dd, e, l.bl hb⟩), fun h => (by obtain ⟨D, dd, e, l⟩ := f12 h; exact ⟨D, dd, e, l.bl hb⟩), f13, fun h => (by obtain ⟨D, dd, e, l⟩ := f14 h; exact ⟨D, dd, e, l.bl hb⟩), f15⟩
          · rintro L a X K0 ⟨v14, v15, v102, v103, v104, v105, v106, v107, v108, v109, v110, v111, v112, v113, v114, v115, rfl, hB, f0, f1, f2, f3, f4, f5, f6, f7, f8, f9, f10, f11, f12, f13, f14, f15⟩ hL hd hK
            have d10 := hd ⟨10, .data⟩ (by simp) rfl
            obtain ⟨D, dd, rfl, hrd⟩ := f10 d10
            clear hd
            refine ⟨rfl, ?_⟩
            go_simp
            exact hK _ _ ⟨_, _, _, _, _, _, _, _, _, _, _, _, _, _, _, _, rfl, hB, f0, f1, f2, f3, f4, f5, f6, f7, f8, f9, fun _ => ⟨D, dd, rfl, hrd⟩, fun _ => ⟨D, dd, rfl, hrd⟩, f12, f13, f14, f15⟩
          · rintro L a X K0 ⟨v14, v15, v102, v103, v104, v105, v106, v107, v108, v109, v110, v111, v112, v113, v114, v115, rfl, hB, f0, f1, f2, f3, f4, f5, f6, f7, f8, f9, f10, f11, f12, f13, f14, f15⟩ hL hd hK
            have d11 := hd ⟨11, .data⟩ (by simp) rfl
            obtain ⟨D, dd, rfl, hrd⟩ := f11 d11
            clear hd
            refine ⟨rfl, ?_⟩
            go_simp
            exact hK _ _ ⟨_, _, _, _, _, _, _, _, _, _, _, _, _, _, _, _, rfl, hB, f0, f1, f2, f3, f4, f5, f6, f7, f8, f9, f10, fun _ => ⟨D, dd, rfl, hrd⟩, fun _ => ⟨D, dd, rfl, hrd⟩, f13, f14, f15⟩
          · rintro L a X K0 ⟨v14, v15, v102, v103, v104, v105, v106, v107, v108, v109, v110, v111, v112, v113, v114, v115, rfl, hB, f0, f1, f2, f3, f4, f5, f6, f7, f8, f9, f10, f11, f12, f13, f14, f15⟩ hL hd hK
            have d11 := hd ⟨11, .data⟩ (by simp) rfl
            obtain ⟨D, dd, rfl, hrd⟩ := f11 d11
            clear hd
            refine ⟨rfl, ?_⟩
            go_simp
            exact hK _ _ ⟨_, _, _, _, _, _, _, _, _, _, _, _, _, _, _, _, rfl, hB, f0, f1, f2, f3, f4, f5, f6, f7, f8, f9, f10, fun _ => ⟨D, dd, rfl, hrd⟩, f12, fun _ => rfl, f14, f15⟩
          · rintro L a X K0 ⟨v14, v15, v102, v103, v104, v105, v106, v107, v108, v109, v110, v111, v112, v113, v114, v115, rfl, hB, f0, f1, f2, f3, f4, f5, f6, f7, f8, f9, f10, f11, f12, f13, f14, f15⟩ hL hd hK
            have d12 := hd ⟨12, .data⟩ (by simp) rfl
            obtain ⟨D, dd, rfl, hrd⟩ := f12 d12
            clear hd
            refine ⟨rfl, ?_⟩
            go_simp
            exact hK _ _ ⟨_, _, _, _, _, _, _, _, _, _, _, _, _, _, _, _, rfl, hB, f0, f1, f2, f3, f4, f5, f6, f7, f8, f9, f10, f11, fun _ => ⟨D, dd, rfl, hrd⟩, f13, fun _ => ⟨D, dd, rfl, hrd⟩, f15⟩
          · rintro L a X K0 ⟨v14, v15, v102, v103, v104, v105, v106, v107, v108, v109, v110, v111, v112, v113, v114, v115, rfl, hB, f0, f1, f2, f3, f4, f5, f6, f7, f8, f9, f10, f11, f12, f13, f14, f15⟩ hL hd hK
            have d13 := hd ⟨13, .data⟩ (by simp) rfl
            obtain rfl := f13 d13
            clear hd
            refine ⟨rfl, ?_⟩
            go_simp
            exact hK _ _ ⟨_, _, _, _, _, _, _, _, _, _, _, _, _, _, _, _, rfl, hB, f0, f1, f2, f3, f4, f5, f6, f7, f8, f9, f10, f11, f12, f13, f14, fun _ => rfl⟩
          · rintro L a X hLL ⟨v14, v15, v102, v103, v104, v105, v106, v107, v108, v109, v110, v111, v112, v113, v114, v115, rfl, hB, f0, f1, f2, f3, f4, f5, f6, f7, f8, f9, f10, f11, f12, f13, f14, f15⟩
            obtain ⟨ARP, cRP, rfl, hR⟩ := f14 (hLL 14 (by simp))
            obtain rfl := f15 (hLL 15 (by simp))
            have hb := hB
            clear f0 f1 f2 f3 f4 f5 f6 f7 f8 f9 f10 f11 f12 f13 f14 f15 hB hLL mc0 mc1
            have HB := hid (HB.out.trans (hb.mono HB.out.size))
            have LM2 := hid (LM2.out.bl hb)
            have RL := hid (RL.out.bl hb)
            have RF0 := hid (RF0.out.bl hb)
            clear hb
            have RP := hid hR
            clear hR
            clear cx ci
            have mc0 := LM2.out.at0
            have mc1 := LM2.out.at1
            go_wp2_with fail
            obtain ⟨mx, hmx⟩ : ∃ mx, manyOf l r (forceL ((0 : Nat) : Int) x 0 page) (-1) = mx := ⟨_, rfl⟩
            have hmv : manyV l r (forceL ((0 : Nat) : Int) x 0 page) = (mx : Int) := by rw [manyV_ok (HFO.out x HXI.out), hmx]
            have hmmx := many_max l r _ (-1) (HFO.out x HXI.out)
            rw [hmx] at hmmx
            have HMX := hid hmx
            have HMV := hid hmv
            clear hmx hmv
            have hres := implReadingsMany_any A B ARP n c m e0 _ cRP 0 l r (forceL ((0 : Nat) : Int) x 0 page) X LM2.out.hl LM2.out.hr RP.out
            rw [HMV.out] at hres
            refine hres.mono ?_
            clear hres
            clear mc0 mc1
            rintro e w11 ⟨rfl, hb⟩
            have HB := hid (HB.out.trans (hb.mono HB.out.size))
            have LM2 := hid (LM2.out.bl hb)
            have RL := hid (RL.out.bl hb)
            have RF0 := hid (RF0.out.bl hb)
            have RP := hid (RP.out.bl hb)
            clear hb
            have hsum2 : ((pl.take (k + 1)).map fun x => manyOf l r (forceL ((0 : Nat) : Int) x 0 page) (-1)).sum = sm + mx := by rw [HTK.out, List.map_append, List.sum_append, HSM.out, List.map_cons, List.map_nil, HXX.out, HMX.out]; simp
            have HSUM2 := hid hsum2
            clear hsum2
            go_wp2_with fail
            go_roundg (gk - 1)
            case measure => have := HKG.out; omega
            case rel => exact ⟨k + 1, by have := HKG.out; omega, by go_num, by rw [HSUM2.out]; simp, (fun j hj => by
              by_cases e : j = k
              · subst e; rw [HXX.out]; exact hxl
              · exact HALL.out j (by omega)), HB.out⟩
end Go.Proofs.Ytfjoininagdlcaa
