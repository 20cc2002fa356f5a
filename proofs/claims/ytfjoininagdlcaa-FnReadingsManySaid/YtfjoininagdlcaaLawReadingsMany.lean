/- The law FnReadingsMany returns true for all arguments that can be read. -/
import Derived.Test.YtfjoininagdlcaaDrawLs
import Derived.Test.YtfjoininagdlcaaLawFns
import Derived.Test.YtfjoininagdlcaaLawKit
import Derived.Deep.RegionHeld3
import Derived.StillTailTactics
namespace Go.Proofs.Ytfjoininagdlcaa
open Go.RowKit
set_option maxRecDepth 100000 in
set_option maxHeartbeats 4000000 in
theorem lawReadingsMany (A0 : Option Addr) (n0 c0 : Nat) (bs : List UInt8) (A9 : Option Addr) (n9 c9 : Nat) (bs9 : List UInt8) (w : World) (hnc : n0 ≤ c0) (hx : Rd byteS 0 w.heap.size w A0 n0 bs) (_hnc9 : n9 ≤ c9) (hx9 : Rd byteS 0 w.heap.size w A9 n9 bs9) :
    Calls Try.prog 3 #[.slice A0 n0 c0, .slice A9 n9 c9] w fun e w' => e = .returned (.bool true) ∧ Below w.heap.size w w' := by
  have hn63 := hx.2.1
  have HX := hid hx
  clear hx
  have hn93 := hx9.2.1
  clear hx9
  by_cases hn0 : n0 ≤ 1048576
  case neg =>
    have gn0 : (1048576 : Int) < (n0 : Int) := by omega
    go_enter Try.func3, Try.ntmps3
    go_wp2_with fail
    go_ret
    exact ⟨rfl, Below.refl _ _⟩
  by_cases hn9 : n9 ≤ 1048576
  case neg =>
    have gn9 : (1048576 : Int) < (n9 : Int) := by omega
    have gn0 : ¬ (1048576 : Int) < (n0 : Int) := by omega
    go_enter Try.func3, Try.ntmps3
    go_wp2_with fail
    go_ret
    exact ⟨rfl, Below.refl _ _⟩
  have gn0 : ¬ (1048576 : Int) < (n0 : Int) := by omega
  have gn9 : ¬ (1048576 : Int) < (n9 : Int) := by omega
  go_enter Try.func3, Try.ntmps3
  go_wp2_with fail
  refine (DrawReadingsMany_any A0 n0 c0 bs w hnc HX.out).mono ?_
  rintro e w1 ⟨A, n, c, l, B, m, e0, r, C, q, d, page, rfl, a1, a2, hb1⟩
  have LM2 := hid (LM.new (c := c) (e0 := e0) (t := 26) a1.hl a1.hr a2.hp)
  have hqp := a2.hp.1
  have hq5 := a2.q5
  have hln := a1.hl.1
  have hn1 := a1.n1
  have hn4 := a1.n4
  have HQP := hid hqp
  have HLN := hid hln
  have HB2 := hid (bal hb1 (.cells #[.slice A n c, .slice B m e0] 26))
  clear a1 a2 hb1 hqp hln
  go_wp2_with fail
  generalize (w1.alloc (.cells #[.slice A n c, .slice B m e0] 26)) = w2 at *
  obtain ⟨M, hM⟩ : ∃ M, w1.heap.size = M := ⟨_, rfl⟩
  rw [hM] at LM2 ⊢
  clear hM
  have HB := hid HB2.out
  obtain ⟨K, hK⟩ : ∃ K, manyV l r page = K := ⟨_, rfl⟩
  have mc0 := LM2.out.at0
  have mc1 := LM2.out.at1
  have hres := implReadingsMany_any A B C n c m e0 q d 0 l r page w2 LM2.out.hl LM2.out.hr LM2.out.hp
  rw [hK] at hres
  refine hres.mono ?_
  clear hres
  clear mc0 mc1
  rintro e w3 ⟨rfl, hb⟩
  have HB := hid (HB.out.trans (hb.mono HB.out.size))
  have LM2 := hid (LM2.out.bl hb)
  clear hb
  have mc0 := LM2.out.at0
  have mc1 := LM2.out.at1
  go_wp2_with fail
  have hres := specReadingsMany_any A B C n c m e0 q d 0 l r page w3 LM2.out.hl LM2.out.hr LM2.out.hp
  rw [hK] at hres
  refine hres.mono ?_
  clear hres
  clear mc0 mc1
  rintro e w4 ⟨rfl, hb⟩
  have HB := hid (HB.out.trans (hb.mono HB.out.size))
  have LM2 := hid (LM2.out.bl hb)
  clear hb
  by_cases hneg : K < 0
  case pos =>
    go_wp2_with fail
    go_ret
    exact ⟨rfl, HB.out⟩
  have HOK := hid (manyV_yes (l := l) (r := r) (page := page) (by omega))
  have hqp := HQP.out
  by_cases hq0 : q = 0
  case pos =>
    have hpe : page = [] := List.length_eq_zero_iff.1 (by omega)
    have hK1 : K = 1 := by rw [← hK, manyV_ok HOK.out, hpe]; rfl
    clear hK hqp
    subst hK1 hq0
    go_wp2_with fail
    go_ret
    exact ⟨rfl, HB.out⟩
  have hq0i : ((q : Int) == 0) = false := by rw [beq_eq_false_iff_ne]; omega
  have hq0n : ¬ (q : Int) = 0 := by omega
  obtain ⟨at_, hat⟩ : ∃ a, n9 % q = a := ⟨_, rfl⟩
  have ha1 : (n9 : Int) % (q : Int) = (at_ : Int) := by rw [← hat, Int.natCast_emod]
  have ha2 : Int.tmod (n9 : Int) (q : Int) = (at_ : Int) := by rw [Int.tmod_eq_emod_of_nonneg (by omega)]; exact ha1
  have hatq : at_ < q := by rw [← hat]; exact Nat.mod_lt _ (by omega)
  have hati : (at_ : Int) < (q : Int) := by omega
  clear hat ha1
  have hKn := hK
  rw [manyV_ok HOK.out] at hKn
  have hmany := many_force l r page 0 at_ (-1) (by omega)
  rw [Nat.zero_add] at hmany
  obtain ⟨bC, off, rfl, _, hhi, hatC⟩ := LM2.out.hp.2.2 (by omega)
  obtain ⟨AX, cX, cx, _, hRX⟩ := hatC.row hatq
  obtain ⟨pl, hpl⟩ : ∃ pl, gt page at_ = pl := ⟨_, rfl⟩
  rw [hpl] at cx hRX hmany
  have hpk := (pageOk_yes (bothOk_yes HOK.out).2).2 (gt page at_) (gt_mem (by omega))
  rw [hpl] at hpk
  have hp0 : 0 < pl.length := List.length_pos_iff.2 hpk.1
  have hp6 := pageOk_len (bothOk_yes HOK.out).2 (gt page at_) (gt_mem (by omega))
  rw [hpl] at hp6
  obtain ⟨bx, ox, rfl, _, _, hatx⟩ := hRX.2.2 hp0
  have HCI := hid fun z (hz : z < pl.length) => hatx.int hz
  obtain ⟨pn, hpn⟩ : ∃ pn, pl.length = pn := ⟨_, rfl⟩
  have HPN := hid hpn
  rw [hpn] at cx hp0 hp6
  have HFV := hid fun x hx => forceV_some (bothOk_yes HOK.out).2 (a := at_) (x := x) (by omega) (hpl.symm ▸ hx)
  have HFO := hid fun x hx => both_forced (l := l) (r := r) (a := at_) (x := x) HOK.out (by omega) (hpl.symm ▸ hx)
  have HMY := hid hmany
  have HKN := hid hKn
  have HCX := hid cx
  clear hpl hpk hRX hatx hpn hmany hK hKn hatC cx hqp
  go_wp2_with fail
  go_loopg [10, 11] pn (fun gk sum i wr => ∃ k : Nat, k + gk = pn ∧ i = .int .i64 k ∧ sum = .int .i64 (((pl.take k).map fun x => manyOf l r (forceL (at_ : Int) x 0 page) (-1)).sum : Nat) ∧ Below w4.heap.size w4 wr)
  case atStart => exact ⟨0, Nat.zero_add _, rfl, rfl, Below.refl _ _⟩
  case round =>
    obtain ⟨k, hkg, rfl, rfl, hb⟩ := hrel
    have HKG := hid hkg
    have HBW := hid hb
    have hk : k ≤ pn := by omega
    obtain ⟨sm, hsm⟩ : ∃ sm, ((pl.take k).map fun x => manyOf l r (forceL (at_ : Int) x 0 page) (-1)).sum = sm := ⟨_, rfl⟩
    rw [hsm]
    have HSM := hid hsm
    have cx := bcl hb HCX.out
    clear hkg hb hsm
    by_cases hlt : k < pn
    case neg =>
      obtain rfl : pn = k := by omega
      have hfin : (sm : Int) = K := by rw [← HSM.out, List.take_of_length_le (by rw [HPN.out]; exact Nat.le_refl _), HMY.out, HKN.out]
      subst hfin
      go_wp2_with fail
      go_ret
      exact ⟨rfl, HB.out.trans (HBW.out.mono HB.out.size)⟩
    case pos =>
      have hki : (k : Int) < (pn : Int) := by omega
      have ci := bcl HBW.out (HCI.out k (by rw [HPN.out]; exact hlt))
      obtain ⟨x, hxx⟩ : ∃ x, gt pl k = x := ⟨_, rfl⟩
      have hxin : x ∈ pl := by rw [← hxx]; exact gt_mem (by rw [HPN.out]; exact hlt)
      have HTK := hid (take_gt (l := pl) (k := k) (by rw [HPN.out]; exact hlt))
      rw [hxx] at ci
      have HXX := hid hxx
      have HXI := hid hxin
      have LM3 := hid (LM2.out.bl HBW.out)
      have mc0 := LM3.out.at0
      have mc1 := LM3.out.at1
      clear hxx hxin
      go_wp2_with fail
      clear LM2
      have LM2 := LM3
      clear LM3
      have HB1 := HB
      have HB := HBW
      clear HBW
      have hfv : forceV (n : Int) page (at_ : Int) x = some (forceL (at_ : Int) x 0 page) := by rw [HLN.out]; exact HFV.out x HXI.out
      have hfl : ((some (forceL (at_ : Int) x 0 page)).getD []).length ≤ 1048576 := by rw [Option.getD_some, forceL_len]; have := HQP.out; omega
      have HFL := hid hfl
      have HFE := hid hfv
      clear hfl hfv
      refine wp_region_invH (by kernel_rfl) (by kernel_rfl) (fun L a X => ∃ v12 v13 v62 v63 v64 v65 v66 v67 v68 v69 v70 v71 v72 v73 v74 v75 v76 v77 : Value, a = { tmps := #[Value.slice A0 n0 c0, Value.slice A9 n9 c9, undef, undef, u4, Value.pointer (some ⟨M, 0, none⟩), Value.slice (some ⟨bC, off, none⟩) q d, Value.int IntKind.i64 K, Value.int IntKind.i64 K, Value.int IntKind.i64 ↑at_, Value.int IntKind.i64 ↑sm, Value.int IntKind.i64 ↑k, v12, v13, Value.slice A0 n0 c0, Value.int IntKind.i64 ↑n0, Value.bool false, Value.bool false, Value.slice A9 n9 c9, Value.int IntKind.i64 ↑n9, Value.bool false, Value.bool false, Value.tuple #[Value.agg #[Value.slice A n c, Value.slice B m e0], Value.slice (some ⟨bC, off, none⟩) q d], Value.slice A0 n0 c0, Value.tuple #[Value.agg #[Value.slice A n c, Value.slice B m e0], Value.slice (some ⟨bC, off, none⟩) q d], Value.agg #[Value.slice A n c, Value.slice B m e0], Value.slice (some ⟨bC, off, none⟩) q d, Value.agg #[Value.slice A n c, Value.slice B m e0], Value.slice (some ⟨bC, off, none⟩) q d, Value.int IntKind.i64 K, Value.agg #[Value.slice A n c, Value.slice B m e0], Value.slice (some ⟨bC, off, none⟩) q d, Value.int IntKind.i64 K, Value.int IntKind.i64 K, Value.int IntKind.i64 K, Value.bool false, Value.bool false, Value.int IntKind.i64 K, Value.bool (decide (K < 0)), Value.bool (decide (K < 0)), undef, undef, undef, Value.slice (some ⟨bC, off, none⟩) q d, Value.int IntKind.i64 ↑q, Value.bool false, undef, undef, Value.slice A9 n9 c9, Value.int IntKind.i64 ↑n9, Value.slice (some ⟨bC, off, none⟩) q d, Value.int IntKind.i64 ↑q, Value.int IntKind.i64 ↑at_, Value.int IntKind.i64 ↑k, Value.slice (some ⟨bC, off, none⟩) q d, Value.int IntKind.i64 ↑at_, Value.pointer (some ⟨bC, off + at_, none⟩), Value.slice (some ⟨bx, ox, none⟩) pn cX, Value.int IntKind.i64 ↑pn, Value.bool true, u60, u61, v62, v63, v64, v65, v66, v67, v68, v69, v70, v71, v72, v73, v74, v75, v76, v77, u78, u79, u80, u81, u82, u83, u84, undef, undef, undef], defers := [] } ∧
        (Below wr.heap.size wr X) ∧ (L 0 = true → v63 = .pointer (some ⟨M, 0, none⟩)) ∧ (L 1 = true → v64 = .slice A n c) ∧ (L 2 = true → v65 = .int .i64 n) ∧ (L 3 = true → v66 = .slice (some ⟨bC, off, none⟩) q d) ∧ (L 4 = true → v67 = .int .i64 at_) ∧ (L 5 = true → v68 = .slice (some ⟨bC, off, none⟩) q d) ∧ (L 6 = true → v69 = .int .i64 at_) ∧ (L 7 = true → v70 = .pointer (some ⟨bC, off + at_, none⟩)) ∧ (L 8 = true → v71 = .slice (some ⟨bx, ox, none⟩) pn cX) ∧ (L 9 = true → v72 = .int .i64 k) ∧ (L 10 = true → v73 = .pointer (some ⟨bx, ox + k, none⟩)) ∧ (L 11 = true → v74 = .int .i64 x) ∧ (L 12 = true → ∃ (D : Option Addr) (dd : Nat), v75 = .tuple #[.slice D (forceL (at_ : Int) x 0 page).length dd, .bool true] ∧ Rd (sliceS intS) 0 X.heap.size X D (forceL (at_ : Int) x 0 page).length (forceL (at_ : Int) x 0 page)) ∧ (L 13 = true → ∃ (D : Option Addr) (dd : Nat), v62 = .tuple #[.slice D (forceL (at_ : Int) x 0 page).length dd, .bool true] ∧ Rd (sliceS intS) 0 X.heap.size X D (forceL (at_ : Int) x 0 page).length (forceL (at_ : Int) x 0 page)) ∧ (L 14 = true → ∃ (D : Option Addr) (dd : Nat), v76 = .slice D (forceL (at_ : Int) x 0 page).length dd ∧ Rd (sliceS intS) 0 X.heap.size X D (forceL (at_ : Int) x 0 page).length (forceL (at_ : Int) x 0 page)) ∧ (L 15 = true → v77 = .bool true) ∧ (L 16 = true → ∃ (D : Option Addr) (dd : Nat), v12 = .slice D (forceL (at_ : Int) x 0 page).length dd ∧ Rd (sliceS intS) 0 X.heap.size X D (forceL (at_ : Int) x 0 page).length (forceL (at_ : Int) x 0 page)) ∧ (L 17 = true → v13 = .bool true)) ?_ ⟨?_, ?_, ?_, ?_, ?_, ?_, ?_, ?_, ?_, ?_, ?_, ?_, ?_, ?_, ?_, ?_, ?_, ?_, trivial⟩ ?_
      · exact ⟨_, _, _, _, _, _, _, _, _, _, _, _, _, _, _, _, _, _, rfl, bdr _, fun h => (by cases h), fun h => (by cases h), fun h => (by cases h), fun h => (by cases h), fun h => (by cases h), fun h => (by cases h), fun h => (by cases h), fun h => (by cases h), fun h => (by cases h), fun h => (by cases h), fun h => (by cases h), fun h => (by cases h), fun h => (by cases h), fun h => (by cases h), fun h => (by cases h), fun h => (by cases h), fun h => (by cases h), fun h => (by cases h)⟩
      · rintro L a X K0 ⟨v12, v13, v62, v63, v64, v65, v66, v67, v68, v69, v70, v71, v72, v73, v74, v75, v76, v77, rfl, hB, f0, f1, f2, f3, f4, f5, f6, f7, f8, f9, f10, f11, f12, f13, f14, f15, f16, f17⟩ hL hd hK
        clear hd
        refine ⟨rfl, ?_⟩
        go_simp
        exact hK _ _ ⟨_, _, _, _, _, _, _, _, _, _, _, _, _, _, _, _, _, _, rfl, hB, fun _ => rfl, f1, f2, f3, f4, f5, f6, f7, f8, f9, f10, f11, f12, f13, f14, f15, f16, f17⟩
      · rintro L a X K0 ⟨v12, v13, v62, v63, v64, v65, v66, v67, v68, v69, v70, v71, v72, v73, v74, v75, v76, v77, rfl, hB, f0, f1, f2, f3, f4, f5, f6, f7, f8, f9, f10, f11, f12, f13, f14, f15, f16, f17⟩ hL hd hK
        have d0 := hd ⟨0, .data⟩ (by simp) rfl
        obtain rfl := f0 d0
        have q0 := bcl hB mc0
        clear hd
        refine ⟨rfl, ?_⟩
        go_simp
        exact hK _ _ ⟨_, _, _, _, _, _, _, _, _, _, _, _, _, _, _, _, _, _, rfl, hB, f0, fun _ => rfl, f2, f3, f4, f5, f6, f7, f8, f9, f10, f11, f12, f13, f14, f15, f16, f17⟩
      · rintro L a X K0 ⟨v12, v13, v62, v63, v64, v65, v66, v67, v68, v69, v70, v71, v72, v73, v74, v75, v76, v77, rfl, hB, f0, f1, f2, f3, f4, f5, f6, f7, f8, f9, f10, f11, f12, f13, f14, f15, f16, f17⟩ hL hd hK
        have d1 := hd ⟨1, .data⟩ (by simp) rfl
        obtain rfl := f1 d1
        clear hd
        refine ⟨rfl, ?_⟩
        go_simp
        exact hK _ _ ⟨_, _, _, _, _, _, _, _, _, _, _, _, _, _, _, _, _, _, rfl, hB, f0, f1, fun _ => rfl, f3, f4, f5, f6, f7, f8, f9, f10, f11, f12, f13, f14, f15, f16, f17⟩
      · rintro L a X K0 ⟨v12, v13, v62, v63, v64, v65, v66, v67, v68, v69, v70, v71, v72, v73, v74, v75, v76, v77, rfl, hB, f0, f1, f2, f3, f4, f5, f6, f7, f8, f9, f10, f11, f12, f13, f14, f15, f16, f17⟩ hL hd hK
        clear hd
        refine ⟨rfl, ?_⟩
        go_simp
        exact hK _ _ ⟨_, _, _, _, _, _, _, _, _, _, _, _, _, _, _, _, _, _, rfl, hB, f0, f1, f2, fun _ => rfl, f4, f5, f6, f7, f8, f9, f10, f11, f12, f13, f14, f15, f16, f17⟩
      · rintro L a X K0 ⟨v12, v13, v62, v63, v64, v65, v66, v67, v68, v69, v70, v71, v72, v73, v74, v75, v76, v77, rfl, hB, f0, f1, f2, f3, f4, f5, f6, f7, f8, f9, f10, f11, f12, f13, f14, f15, f16, f17⟩ hL hd hK
        clear hd
        refine ⟨rfl, ?_⟩
        go_simp
        exact hK _ _ ⟨_, _, _, _, _, _, _, _, _, _, _, _, _, _, _, _, _, _, rfl, hB, f0, f1, f2, f3, fun _ => rfl, f5, f6, f7, f8, f9, f10, f11, f12, f13, f14, f15, f16, f17⟩
      · rintro L a X K0 ⟨v12, v13, v62, v63, v64, v65, v66, v67, v68, v69, v70, v71, v72, v73, v74, v75, v76, v77, rfl, hB, f0, f1, f2, f3, f4, f5, f6, f7, f8, f9, f10, f11, f12, f13, f14, f15, f16, f17⟩ hL hd hK
        clear hd
        refine ⟨rfl, ?_⟩
        go_simp
        exact hK _ _ ⟨_, _, _, _, _, _, _, _, _, _, _, _, _, _, _, _, _, _, rfl, hB, f0, f1, f2, f3, f4, fun _ => rfl, f6, f7, f8, f9, f10, f11, f12, f13, f14, f15, f16, f17⟩
      · rintro L a X K0 ⟨v12, v13, v62, v63, v64, v65, v66, v67, v68, v69, v70, v71, v72, v73, v74, v75, v76, v77, rfl, hB, f0, f1, f2, f3, f4, f5, f6, f7, f8, f9, f10, f11, f12, f13, f14, f15, f16, f17⟩ hL hd hK
        clear hd
        refine ⟨rfl, ?_⟩
        go_simp
        exact hK _ _ ⟨_, _, _, _, _, _, _, _, _, _, _, _, _, _, _, _, _, _, rfl, hB, f0, f1, f2, f3, f4, f5, fun _ => rfl, f7, f8, f9, f10, f11, f12, f13, f14, f15, f16, f17⟩
      · rintro L a X K0 ⟨v12, v13, v62, v63, v64, v65, v66, v67, v68, v69, v70, v71, v72, v73, v74, v75, v76, v77, rfl, hB, f0, f1, f2, f3, f4, f5, f6, f7, f8, f9, f10, f11, f12, f13, f14, f15, f16, f17⟩ hL hd hK
        have d5 := hd ⟨5, .data⟩ (by simp) rfl
        obtain rfl := f5 d5
        have d6 := hd ⟨6, .data⟩ (by simp) rfl
        obtain rfl := f6 d6
        clear hd
        refine ⟨rfl, ?_⟩
        go_simp
        exact hK _ _ ⟨_, _, _, _, _, _, _, _, _, _, _, _, _, _, _, _, _, _, rfl, hB, f0, f1, f2, f3, f4, f5, f6, fun _ => rfl, f8, f9, f10, f11, f12, f13, f14, f15, f16, f17⟩
      · rintro L a X K0 ⟨v12, v13, v62, v63, v64, v65, v66, v67, v68, v69, v70, v71, v72, v73, v74, v75, v76, v77, rfl, hB, f0, f1, f2, f3, f4, f5, f6, f7, f8, f9, f10, f11, f12, f13, f14, f15, f16, f17⟩ hL hd hK
        have d7 := hd ⟨7, .data⟩ (by simp) rfl
        obtain rfl := f7 d7
        have q0 := bcl hB cx
        clear hd
        refine ⟨rfl, ?_⟩
        go_simp
        exact hK _ _ ⟨_, _, _, _, _, _, _, _, _, _, _, _, _, _, _, _, _, _, rfl, hB, f0, f1, f2, f3, f4, f5, f6, f7, fun _ => rfl, f9, f10, f11, f12, f13, f14, f15, f16, f17⟩
      · rintro L a X K0 ⟨v12, v13, v62, v63, v64, v65, v66, v67, v68, v69, v70, v71, v72, v73, v74, v75, v76, v77, rfl, hB, f0, f1, f2, f3, f4, f5, f6, f7, f8, f9, f10, f11, f12, f13, f14, f15, f16, f17⟩ hL hd hK
        clear hd
        refine ⟨rfl, ?_⟩
        go_simp
        exact hK _ _ ⟨_, _, _, _, _, _, _, _, _, _, _, _, _, _, _, _, _, _, rfl, hB, f0, f1, f2, f3, f4, f5, f6, f7, f8, fun _ => rfl, f10, f11, f12, f13, f14, f15, f16, f17⟩
      · rintro L a X K0 ⟨v12, v13, v62, v63, v64, v65, v66, v67, v68, v69, v70, v71, v72, v73, v74, v75, v76, v77, rfl, hB, f0, f1, f2, f3, f4, f5, f6, f7, f8, f9, f10, f11, f12, f13, f14, f15, f16, f17⟩ hL hd hK
        have d8 := hd ⟨8, .data⟩ (by simp) rfl
        obtain rfl := f8 d8
        have d9 := hd ⟨9, .data⟩ (by simp) rfl
        obtain rfl := f9 d9
        clear hd
        refine ⟨rfl, ?_⟩
        go_simp
        exact hK _ _ ⟨_, _, _, _, _, _, _, _, _, _, _, _, _, _, _, _, _, _, rfl, hB, f0, f1, f2, f3, f4, f5, f6, f7, f8, f9, fun _ => rfl, f11, f12, f13, f14, f15, f16, f17⟩
      · rintro L a X K0 ⟨v12, v13, v62, v63, v64, v65, v66, v67, v68, v69, v70, v71, v72, v73, v74, v75, v76, v77, rfl, hB, f0, f1, f2, f3, f4, f5, f6, f7, f8, f9, f10, f11, f12, f13, f14, f15, f16, f17⟩ hL hd hK
        have d10 := hd ⟨10, .data⟩ (by simp) rfl
        obtain rfl := f10 d10
        have q0 := bcl hB ci
        clear hd
        refine ⟨rfl, ?_⟩
        go_simp
        exact hK _ _ ⟨_, _, _, _, _, _, _, _, _, _, _, _, _, _, _, _, _, _, rfl, hB, f0, f1, f2, f3, f4, f5, f6, f7, f8, f9, f10, fun _ => rfl, f12, f13, f14, f15, f16, f17⟩
      · rintro L a X K0 ⟨v12, v13, v62, v63, v64, v65, v66, v67, v68, v69, v70, v71, v72, v73, v74, v75, v76, v77, rfl, hB, f0, f1, f2, f3, f4, f5, f6, f7, f8, f9, f10, f11, f12, f13, f14, f15, f16, f17⟩ hL hd hK
        have d2 := hd ⟨2, .data⟩ (by simp) rfl
        obtain rfl := f2 d2
        have d3 := hd ⟨3, .data⟩ (by simp) rfl
        obtain rfl := f3 d3
        have d4 := hd ⟨4, .data⟩ (by simp) rfl
        obtain rfl := f4 d4
        have d11 := hd ⟨11, .data⟩ (by simp) rfl
        obtain rfl := f11 d11
        clear hd
        refine ⟨rfl, ?_⟩
        go_simp
        have hres := implPageForce_any (some ⟨bC, off, none⟩) q d 0 (n : Int) (at_ : Int) x page X (LM2.out.hp.bl hB)
        rw [HFE.out] at hres
        refine hres.mono ?_
        clear hres
        intro e X2 hres
        have hres2 := rb_rd hres (HFL.out)
        simp only [Option.getD_some, Option.isSome_some] at hres2
        obtain ⟨A9, c9, rfl, hR9, hb⟩ := hres2
        exact hK _ _ ⟨_, _, _, _, _, _, _, _, _, _, _, _, _, _, _, _, _, _, rfl, btr hB hb, f0, f1, f2, f3, f4, f5, f6, f7, f8, f9, f10, f11, fun _ => ⟨A9, c9, rfl, hR9⟩, fun h => (by obtain ⟨D, dd, e, l⟩ := f13 h; exact ⟨D, dd, e, l.bl hb⟩), fun h => (by obtain ⟨D, dd, e, l⟩ := f14 h; exact ⟨D, dd, e, l.bl hb⟩), f15, fun h => (by obtain ⟨D, dd, e, l⟩ := f16 h; exact ⟨D, dd, e, l.bl hb⟩), f17⟩
      · rintro L a X K0 ⟨v12, v13, v62, v63, v64, v65, v66, v67, v68, v69, v70, v71, v72, v73, v74, v75, v76, v77, rfl, hB, f0, f1, f2, f3, f4, f5, f6, f7, f8, f9, f10, f11, f12, f13, f14, f15, f16, f17⟩ hL hd hK
        have d12 := hd ⟨12, .data⟩ (by simp) rfl
        obtain ⟨D, dd, rfl, hrd⟩ := f12 d12
        clear hd
        refine ⟨rfl, ?_⟩
        go_simp
        exact hK _ _ ⟨_, _, _, _, _, _, _, _, _, _, _, _, _, _, _, _, _, _, rfl, hB, f0, f1, f2, f3, f4, f5, f6, f7, f8, f9, f10, f11, fun _ => ⟨D, dd, rfl, hrd⟩, fun _ => ⟨D, dd, rfl, hrd⟩, f14, f15, f16, f17⟩
      · rintro L a X K0 ⟨v12, v13, v62, v63, v64, v65, v66, v67, v68, v69, v70, v71, v72, v73, v74, v75, v76, v77, rfl, hB, f0, f1, f2, f3, f4, f5, f6, f7, f8, f9, f10, f11, f12, f13, f14, f15, f16, f17⟩ hL hd hK
        have d13 := hd ⟨13, .data⟩ (by simp) rfl
        obtain ⟨D, dd, rfl, hrd⟩ := f13 d13
        clear hd
        refine ⟨rfl, ?_⟩
        go_simp
        exact hK _ _ ⟨_, _, _, _, _, _, _, _, _, _, _, _, _, _, _, _, _, _, rfl, hB, f0, f1, f2, f3, f4, f5, f6, f7, f8, f9, f10, f11, f12, fun _ => ⟨D, dd, rfl, hrd⟩, fun _ => ⟨D, dd, rfl, hrd⟩, f15, f16, f17⟩
      · rintro L a X K0 ⟨v12, v13, v62, v63, v64, v65, v66, v67, v68, v69, v70, v71, v72, v73, v74, v75, v76, v77, rfl, hB, f0, f1, f2, f3, f4, f5, f6, f7, f8, f9, f10, f11, f12, f13, f14, f15, f16, f17⟩ hL hd hK
        have d13 := hd ⟨13, .data⟩ (by simp) rfl
        obtain ⟨D, dd, rfl, hrd⟩ := f13 d13
        clear hd
        refine ⟨rfl, ?_⟩
        go_simp
        exact hK _ _ ⟨_, _, _, _, _, _, _, _, _, _, _, _, _, _, _, _, _, _, rfl, hB, f0, f1, f2, f3, f4, f5, f6, f7, f8, f9, f10, f11, f12, fun _ => ⟨D, dd, rfl, hrd⟩, f14, fun _ => rfl, f16, f17⟩
      · rintro L a X K0 ⟨v12, v13, v62, v63, v64, v65, v66, v67, v68, v69, v70, v71, v72, v73, v74, v75, v76, v77, rfl, hB, f0, f1, f2, f3, f4, f5, f6, f7, f8, f9, f10, f11, f12, f13, f14, f15, f16, f17⟩ hL hd hK
        have d14 := hd ⟨14, .data⟩ (by simp) rfl
        obtain ⟨D, dd, rfl, hrd⟩ := f14 d14
        clear hd
        refine ⟨rfl, ?_⟩
        go_simp
        exact hK _ _ ⟨_, _, _, _, _, _, _, _, _, _, _, _, _, _, _, _, _, _, rfl, hB, f0, f1, f2, f3, f4, f5, f6, f7, f8, f9, f10, f11, f12, f13, fun _ => ⟨D, dd, rfl, hrd⟩, f15, fun _ => ⟨D, dd, rfl, hrd⟩, f17⟩
      · rintro L a X K0 ⟨v12, v13, v62, v63, v64, v65, v66, v67, v68, v69, v70, v71, v72, v73, v74, v75, v76, v77, rfl, hB, f0, f1, f2, f3, f4, f5, f6, f7, f8, f9, f10, f11, f12, f13, f14, f15, f16, f17⟩ hL hd hK
        have d15 := hd ⟨15, .data⟩ (by simp) rfl
        obtain rfl := f15 d15
        clear hd
        refine ⟨rfl, ?_⟩
        go_simp
        exact hK _ _ ⟨_, _, _, _, _, _, _, _, _, _, _, _, _, _, _, _, _, _, rfl, hB, f0, f1, f2, f3, f4, f5, f6, f7, f8, f9, f10, f11, f12, f13, f14, f15, f16, fun _ => rfl⟩
      · rintro L a X hLL ⟨v12, v13, v62, v63, v64, v65, v66, v67, v68, v69, v70, v71, v72, v73, v74, v75, v76, v77, rfl, hB, f0, f1, f2, f3, f4, f5, f6, f7, f8, f9, f10, f11, f12, f13, f14, f15, f16, f17⟩
        obtain ⟨ARP, cRP, rfl, hR⟩ := f16 (hLL 16 (by simp))
        obtain rfl := f17 (hLL 17 (by simp))
        have hb := hB
        clear f0 f1 f2 f3 f4 f5 f6 f7 f8 f9 f10 f11 f12 f13 f14 f15 f16 f17 hB hLL mc0 mc1
        have HB := hid (HB.out.trans (hb.mono HB.out.size))
        have LM2 := hid (LM2.out.bl hb)
        clear hb
        have RP := hid hR
        clear hR
        have mc0 := LM2.out.at0
        have mc1 := LM2.out.at1
        go_wp2_with fail
        obtain ⟨mx, hmx⟩ : ∃ mx, manyOf l r (forceL (at_ : Int) x 0 page) (-1) = mx := ⟨_, rfl⟩
        have hmv : manyV l r (forceL (at_ : Int) x 0 page) = (mx : Int) := by rw [manyV_ok (HFO.out x HXI.out), hmx]
        have hmm := many_max l r _ (-1) (HFO.out x HXI.out)
        rw [hmx] at hmm
        have HMX := hid hmx
        have HMV := hid hmv
        clear hmx hmv
        have hres := implReadingsMany_any A B ARP n c m e0 _ cRP 0 l r (forceL (at_ : Int) x 0 page) X LM2.out.hl LM2.out.hr RP.out
        rw [HMV.out] at hres
        refine hres.mono ?_
        clear hres
        clear mc0 mc1
        rintro e w6 ⟨rfl, hb⟩
        have HB := hid (HB.out.trans (hb.mono HB.out.size))
        have LM2 := hid (LM2.out.bl hb)
        have RP := hid (RP.out.bl hb)
        clear hb
        have hsum : ((pl.take (k + 1)).map fun x => manyOf l r (forceL (at_ : Int) x 0 page) (-1)).sum = sm + mx := by rw [HTK.out, List.map_append, List.sum_append, HSM.out, List.map_cons, List.map_nil, HXX.out, HMX.out]; simp
        have HSUM := hid hsum
        have hsm3 : sm ≤ 1679616 := by have h1 := many_max l r page (-1) HOK.out; rw [← HMY.out, ← List.take_append_drop k pl, List.map_append, List.sum_append, HSM.out] at h1; omega
        clear hsum
        go_wp2_with fail
        go_roundg (gk - 1)
        case measure => have := HKG.out; omega
        case rel => exact ⟨k + 1, by have := HKG.out; omega, by go_num, by rw [HSUM.out]; simp, HB.out⟩
end Go.Proofs.Ytfjoininagdlcaa
