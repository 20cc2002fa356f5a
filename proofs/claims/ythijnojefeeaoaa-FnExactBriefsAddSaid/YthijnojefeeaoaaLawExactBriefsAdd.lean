/- The law FnExactBriefsAdd returns true for all arguments that can be read. -/
import Derived.Test.YthijnojefeeaoaaMarkBB
import Derived.Test.YthijnojefeeaoaaHeldB
import Derived.Deep.RegionHeld3
namespace Go.Proofs.Ythijnojefeeaoaa
open Go.RowKit
attribute [local go_sem] Oper.semAt_some
set_option maxRecDepth 100000 in
set_option maxHeartbeats 4000000 in
theorem lawExactBriefsAdd (A0 : Option Addr) (n0 c0 : Nat) (l0 : List BriefT) (t1 : ByteArray) (A1 : Option Addr) (n1 c1 : Nat) (l1 : List ByteArray) (w : World)
    (h0 : Rd briefS 0 w.heap.size w A0 n0 l0) (ht1 : t1.size ≤ 9223372036854775807) (h1 : Rd strS 0 w.heap.size w A1 n1 l1) :
    Calls Try.prog 6 #[.slice A0 n0 c0, .agg #[.string t1, .slice A1 n1 c1]] w fun e w' => e = .returned (.bool true) ∧ Below w.heap.size w w' := by
  have HN0 := hid h0.1
  have h63_0 := h0.2.1
  have HN1 := hid h1.1
  have h63_1 := h1.2.1
  have hb := bnew w (.cells #[.string t1, .slice A1 n1 c1] 48)
  have kx := heap_alloc_new w (.cells #[.string t1, .slice A1 n1 c1] 48)
  have zx := World.size_alloc w (.cells #[.string t1, .slice A1 n1 c1] 48)
  obtain ⟨wz, hwz⟩ : ∃ wz, w.alloc (.cells #[.string t1, .slice A1 n1 c1] 48) = wz := ⟨_, rfl⟩
  rw [hwz] at hb kx zx
  have HWZ := hid hwz
  have zl : w.heap.size < wz.heap.size := by omega
  have L0 := hid (h0.bl hb)
  have L1 := hid (h1.bl hb)
  have BW0 := hid hb
  have BZ0 := hid (Below.refl wz.heap.size wz)
  have KA0 := hid kx
  clear hb kx zx hwz h0 h1
  obtain ⟨V, hV⟩ : ∃ V, addB l0 (t1, l1) = V := ⟨_, rfl⟩
  obtain ⟨xs, hXS⟩ : ∃ xs : List BriefT, V.getD [] = xs := ⟨_, rfl⟩
  obtain ⟨ok, hVO⟩ : ∃ ok : Bool, V.isSome = ok := ⟨_, rfl⟩
  have hxl := addB_bd l0 (t1, l1)
  rw [hV, hXS] at hxl
  have hx8 := hxl.1
  have HX3 := hid hxl.2
  have hokk : (ok != ok) = false := by simp
  have HV := hid hV
  have HXS := hid hXS
  have HVO := hid hVO
  clear hxl hV hXS hVO
  go_enter Try.func6, Try.ntmps6
  go_wp2_with fail
  rw [HWZ.out]
  refine (szBriefS_any _ _ _ _ _ _ _ L0.out (by omega) (by omega)).mono ?_
  rintro e w1 ⟨rfl, hb⟩
  have B_1 := hid (btr BZ0.out hb)
  have hz_1 := hb.size
  have KA_1 := hid ((hb.block _ (Array.getElem?_eq_some_iff.1 KA0.out).1).trans KA0.out)
  clear hb
  obtain ⟨s0, es0⟩ : ∃ s, szBS l0 1048576 = s := ⟨_, rfl⟩
  have su0 := szBS_ub (bs := l0) (l := 1048576) (by omega)
  rw [es0] at su0 ⊢
  have ES0 := hid es0
  clear es0
  by_cases sn0 : s0 < 0
  case pos =>
    go_wp2_with fail
    go_ret
    exact ⟨rfl, btr BW0.out B_1.out⟩
  case neg =>
  obtain ⟨t8, t9⟩ := szBS_len (bs := l0) (l := 1048576) (by omega) (by have := ES0.out; omega)
  have hn0 : n0 ≤ 1048576 := by have := HN0.out; omega
  have S0 := hid (show ∀ b ∈ l0, b.2.length ≤ 1048576 from fun b hb => by have := t9 b hb; omega)
  have Q0 := hid (szBS_sum (bs := l0) (l := 1048576) (by omega) (by have := ES0.out; omega))
  clear t8 t9
  have ka1 := (at_get KA_1.out).1
  have ka2 := (at_get KA_1.out).2.1
  go_wp2_with fail
  refine (szBrief_any _ _ _ _ _ t1 _ _ (L1.out.bl B_1.out) ht1 (by omega) (by omega)).mono ?_
  rintro e w2 ⟨rfl, hb⟩
  clear ka1 ka2
  have B_2 := hid (btr B_1.out hb)
  have hz_2 := hb.size
  have KA_2 := hid ((hb.block _ (Array.getElem?_eq_some_iff.1 KA_1.out).1).trans KA_1.out)
  clear hb
  obtain ⟨s1, es1⟩ : ∃ s, szB (t1, l1) s0 = s := ⟨_, rfl⟩
  have su1 := szB_ub (b := (t1, l1)) (l := s0) (by omega)
  rw [es1] at su1 ⊢
  have ES1 := hid es1
  clear es1
  by_cases sn1 : s1 < 0
  case pos =>
    go_wp2_with fail
    go_ret
    exact ⟨rfl, btr BW0.out B_2.out⟩
  case neg =>
  have hn1 : n1 ≤ 1048576 := by
    have h1 := ES1.out
    unfold szB at h1
    dsimp only at h1
    split at h1
    · omega
    · have := szStr_len (ws := l1) (l := s0 - t1.size) (by omega) (by omega)
      have := HN1.out
      omega
  go_wp2_with fail
  refine wp_region_invH (by kernel_rfl) (by kernel_rfl) (fun L act X => ∃ v6 v7 v27 v28 v29 v30 v31 v32 v33 v34 : Value, act = { tmps := #[.slice A0 n0 c0, .agg #[.string t1, .slice A1 n1 c1], undef, .pointer (some ⟨w.heap.size, 0, none⟩), .bool false, .int .i64 s1, v6, v7, undef, undef, undef, undef, undef, undef, undef, undef, undef, .slice A0 n0 c0, .int .i64 1048576, .int .i64 s0, .int .i64 s0, .bool (decide (s0 < 0)), .agg #[.string t1, .slice A1 n1 c1], .int .i64 s0, .int .i64 s1, .int .i64 s1, .bool (decide (s1 < 0)), v27, v28, v29, v30, v31, v32, v33, v34, undef, undef, undef, undef, undef, undef, undef, undef, undef, undef, undef, undef, undef, undef, undef, undef, undef, undef, undef, undef, undef, undef, undef, undef, undef, undef, undef, undef, undef, undef, undef, undef, undef, undef, undef, undef, undef, undef, undef, undef, undef, undef, undef, undef, undef, undef, undef, undef, undef, undef, undef, undef, undef, undef, undef, undef, undef, undef, undef, undef, undef, undef, undef, undef, undef, undef, undef, undef, undef, undef, undef, undef, undef, undef, undef, undef, undef, undef, undef, undef, undef, undef, undef, undef], defers := [] } ∧
    (Below w2.heap.size w2 X) ∧ (L 0 = true → v28 = .slice A0 n0 c0) ∧ (L 1 = true → ∃ g : Nat, v29 = .slice (some ⟨g, 0, none⟩) n0 n0 ∧ Rd briefS 0 X.heap.size X (some ⟨g, 0, none⟩) n0 l0) ∧ (L 2 = true → v30 = .agg #[.string t1, .slice A1 n1 c1]) ∧ (L 3 = true → ∃ g : Nat, v31 = .agg #[.string t1, .slice (some ⟨g, 0, none⟩) n1 n1] ∧ Rd strS 0 X.heap.size X (some ⟨g, 0, none⟩) n1 l1) ∧ (L 4 = true → ∃ (D : Option Addr) (d : Nat), v32 = .tuple #[.slice D xs.length d, .bool ok] ∧ Rd briefS 0 X.heap.size X D xs.length xs) ∧ (L 5 = true → ∃ (D : Option Addr) (d : Nat), v27 = .tuple #[.slice D xs.length d, .bool ok] ∧ Rd briefS 0 X.heap.size X D xs.length xs) ∧ (L 6 = true → ∃ (D : Option Addr) (d : Nat), v33 = .slice D xs.length d ∧ Rd briefS 0 X.heap.size X D xs.length xs) ∧ (L 7 = true → v34 = .bool ok) ∧ (L 8 = true → ∃ (D : Option Addr) (d : Nat), v6 = .slice D xs.length d ∧ Rd briefS 0 X.heap.size X D xs.length xs) ∧ (L 9 = true → v7 = .bool ok)) ?_ ⟨?_, ?_, ?_, ?_, ?_, ?_, ?_, ?_, ?_, ?_, trivial⟩ ?_
  · exact ⟨_, _, _, _, _, _, _, _, _, _, rfl, (Below.refl _ _).drew, fun h => (by cases h), fun h => (by cases h), fun h => (by cases h), fun h => (by cases h), fun h => (by cases h), fun h => (by cases h), fun h => (by cases h), fun h => (by cases h), fun h => (by cases h), fun h => (by cases h)⟩
  · rintro L act X K0 ⟨v6, v7, v27, v28, v29, v30, v31, v32, v33, v34, rfl, hB, f0, f1, f2, f3, f4, f5, f6, f7, f8, f9⟩ hL hd hK
    clear hd
    refine ⟨rfl, ?_⟩
    go_simp
    exact hK _ _ ⟨_, _, _, _, _, _, _, _, _, _, rfl, hB, fun _ => rfl, f1, f2, f3, f4, f5, f6, f7, f8, f9⟩
  · rintro L act X K0 ⟨v6, v7, v27, v28, v29, v30, v31, v32, v33, v34, rfl, hB, f0, f1, f2, f3, f4, f5, f6, f7, f8, f9⟩ hL hd hK
    have d0 := hd ⟨0, .data⟩ (by simp) rfl
    obtain rfl := f0 d0
    clear hd
    refine ⟨rfl, ?_⟩
    go_simp
    refine (toBriefS_any _ _ _ _ _ _ ((L0.out.bl B_2.out).bl hB) hn0 S0.out).mono ?_
    rintro e X2 ⟨g, rfl, y1, hc⟩
    exact hK _ _ ⟨_, _, _, _, _, _, _, _, _, _, rfl, btr hB hc, f0, fun _ => ⟨g, rfl, y1.wide (Nat.zero_le _) (Nat.le_refl _)⟩, f2, fun h => (by obtain ⟨g, e, r⟩ := f3 h; exact ⟨g, e, r.bl hc⟩), fun h => (by obtain ⟨D, d, e, r⟩ := f4 h; exact ⟨D, d, e, r.bl hc⟩), fun h => (by obtain ⟨D, d, e, r⟩ := f5 h; exact ⟨D, d, e, r.bl hc⟩), fun h => (by obtain ⟨D, d, e, r⟩ := f6 h; exact ⟨D, d, e, r.bl hc⟩), f7, fun h => (by obtain ⟨D, d, e, r⟩ := f8 h; exact ⟨D, d, e, r.bl hc⟩), f9⟩
  · rintro L act X K0 ⟨v6, v7, v27, v28, v29, v30, v31, v32, v33, v34, rfl, hB, f0, f1, f2, f3, f4, f5, f6, f7, f8, f9⟩ hL hd hK
    have q1 := (at_get ((hB.block _ (Array.getElem?_eq_some_iff.1 KA_2.out).1).trans KA_2.out)).1
    have q2 := (at_get ((hB.block _ (Array.getElem?_eq_some_iff.1 KA_2.out).1).trans KA_2.out)).2.1
    clear hd
    refine ⟨rfl, ?_⟩
    go_simp
    exact hK _ _ ⟨_, _, _, _, _, _, _, _, _, _, rfl, hB, f0, f1, fun _ => rfl, f3, f4, f5, f6, f7, f8, f9⟩
  · rintro L act X K0 ⟨v6, v7, v27, v28, v29, v30, v31, v32, v33, v34, rfl, hB, f0, f1, f2, f3, f4, f5, f6, f7, f8, f9⟩ hL hd hK
    have d2 := hd ⟨2, .data⟩ (by simp) rfl
    obtain rfl := f2 d2
    clear hd
    refine ⟨rfl, ?_⟩
    go_simp
    refine (toBrief_any _ _ _ _ t1 _ _ ((L1.out.bl B_2.out).bl hB) hn1).mono ?_
    rintro e X2 ⟨g, rfl, y1, hc⟩
    exact hK _ _ ⟨_, _, _, _, _, _, _, _, _, _, rfl, btr hB hc, f0, fun h => (by obtain ⟨g, e, r⟩ := f1 h; exact ⟨g, e, r.bl hc⟩), f2, fun _ => ⟨g, rfl, y1.wide (Nat.zero_le _) (Nat.le_refl _)⟩, fun h => (by obtain ⟨D, d, e, r⟩ := f4 h; exact ⟨D, d, e, r.bl hc⟩), fun h => (by obtain ⟨D, d, e, r⟩ := f5 h; exact ⟨D, d, e, r.bl hc⟩), fun h => (by obtain ⟨D, d, e, r⟩ := f6 h; exact ⟨D, d, e, r.bl hc⟩), f7, fun h => (by obtain ⟨D, d, e, r⟩ := f8 h; exact ⟨D, d, e, r.bl hc⟩), f9⟩
  · rintro L act X K0 ⟨v6, v7, v27, v28, v29, v30, v31, v32, v33, v34, rfl, hB, f0, f1, f2, f3, f4, f5, f6, f7, f8, f9⟩ hL hd hK
    have d1 := hd ⟨1, .data⟩ (by simp) rfl
    obtain ⟨g, rfl, r1⟩ := f1 d1
    have d3 := hd ⟨3, .data⟩ (by simp) rfl
    obtain ⟨g2, rfl, r3⟩ := f3 d3
    clear hd
    refine ⟨rfl, ?_⟩
    go_simp
    refine (specBriefsAdd_any _ _ _ _ _ _ _ _ _ _ r1 r3 ht1 hn0 S0.out hn1).mono ?_
    intro e X2 hres
    unfold RetBB at hres
    rw [HV.out, HXS.out, HVO.out] at hres
    obtain ⟨D, d, m9, ds, rfl, hN, hm9, hds, hc⟩ := hres
    obtain rfl : d = xs.length := by rw [hm9, ← hds, List.length_map]
    have hRD := hN.rd0 hds (by omega)
    exact hK _ _ ⟨_, _, _, _, _, _, _, _, _, _, rfl, btr hB hc, f0, fun _ => ⟨g, rfl, r1.bl hc⟩, f2, fun _ => ⟨g2, rfl, r3.bl hc⟩, fun _ => ⟨D, m9, rfl, hRD⟩, fun h => (by obtain ⟨D, d, e, r⟩ := f5 h; exact ⟨D, d, e, r.bl hc⟩), fun h => (by obtain ⟨D, d, e, r⟩ := f6 h; exact ⟨D, d, e, r.bl hc⟩), f7, fun h => (by obtain ⟨D, d, e, r⟩ := f8 h; exact ⟨D, d, e, r.bl hc⟩), f9⟩
  · rintro L act X K0 ⟨v6, v7, v27, v28, v29, v30, v31, v32, v33, v34, rfl, hB, f0, f1, f2, f3, f4, f5, f6, f7, f8, f9⟩ hL hd hK
    have d4 := hd ⟨4, .data⟩ (by simp) rfl
    obtain ⟨D, d, rfl, r4⟩ := f4 d4
    clear hd
    refine ⟨rfl, ?_⟩
    go_simp
    exact hK _ _ ⟨_, _, _, _, _, _, _, _, _, _, rfl, hB, f0, f1, f2, f3, fun _ => ⟨D, d, rfl, r4⟩, fun _ => ⟨D, d, rfl, r4⟩, f6, f7, f8, f9⟩
  · rintro L act X K0 ⟨v6, v7, v27, v28, v29, v30, v31, v32, v33, v34, rfl, hB, f0, f1, f2, f3, f4, f5, f6, f7, f8, f9⟩ hL hd hK
    have d5 := hd ⟨5, .data⟩ (by simp) rfl
    obtain ⟨D, d, rfl, r4⟩ := f5 d5
    clear hd
    refine ⟨rfl, ?_⟩
    go_simp
    exact hK _ _ ⟨_, _, _, _, _, _, _, _, _, _, rfl, hB, f0, f1, f2, f3, f4, fun _ => ⟨D, d, rfl, r4⟩, fun _ => ⟨D, d, rfl, r4⟩, f7, f8, f9⟩
  · rintro L act X K0 ⟨v6, v7, v27, v28, v29, v30, v31, v32, v33, v34, rfl, hB, f0, f1, f2, f3, f4, f5, f6, f7, f8, f9⟩ hL hd hK
    have d5 := hd ⟨5, .data⟩ (by simp) rfl
    obtain ⟨D, d, rfl, r4⟩ := f5 d5
    clear hd
    refine ⟨rfl, ?_⟩
    go_simp
    exact hK _ _ ⟨_, _, _, _, _, _, _, _, _, _, rfl, hB, f0, f1, f2, f3, f4, fun _ => ⟨D, d, rfl, r4⟩, f6, fun _ => rfl, f8, f9⟩
  · rintro L act X K0 ⟨v6, v7, v27, v28, v29, v30, v31, v32, v33, v34, rfl, hB, f0, f1, f2, f3, f4, f5, f6, f7, f8, f9⟩ hL hd hK
    have d6 := hd ⟨6, .data⟩ (by simp) rfl
    obtain ⟨D, d, rfl, r4⟩ := f6 d6
    clear hd
    refine ⟨rfl, ?_⟩
    go_simp
    exact hK _ _ ⟨_, _, _, _, _, _, _, _, _, _, rfl, hB, f0, f1, f2, f3, f4, f5, fun _ => ⟨D, d, rfl, r4⟩, f7, fun _ => ⟨D, d, rfl, r4⟩, f9⟩
  · rintro L act X K0 ⟨v6, v7, v27, v28, v29, v30, v31, v32, v33, v34, rfl, hB, f0, f1, f2, f3, f4, f5, f6, f7, f8, f9⟩ hL hd hK
    have d7 := hd ⟨7, .data⟩ (by simp) rfl
    obtain rfl := f7 d7
    clear hd
    refine ⟨rfl, ?_⟩
    go_simp
    exact hK _ _ ⟨_, _, _, _, _, _, _, _, _, _, rfl, hB, f0, f1, f2, f3, f4, f5, f6, f7, f8, fun _ => rfl⟩
  · rintro L act X hLL ⟨v6, v7, v27, v28, v29, v30, v31, v32, v33, v34, rfl, hB, f0, f1, f2, f3, f4, f5, f6, f7, f8, f9⟩
    obtain ⟨DS, dS, ea, y1⟩ := f8 (hLL 8 (by simp))
    subst ea
    obtain rfl := f9 (hLL 9 (by simp))
    have hb := hB
    clear f0 f1 f2 f3 f4 f5 f6 f7 f8 f9 hLL hB
    have YS := hid y1
    clear y1
    have B_3 := hid (btr B_2.out hb)
    have hz_3 := hb.size
    have KA_3 := hid ((hb.block _ (Array.getElem?_eq_some_iff.1 KA_2.out).1).trans KA_2.out)
    clear hb
    have BX0 := hid (Below.refl X.heap.size X)
    have ka1 := (at_get KA_3.out).1
    have ka2 := (at_get KA_3.out).2.1
    go_wp2_with fail
    refine (toBriefS_nest _ _ _ _ _ _ (L0.out.bl B_3.out) hn0 S0.out).mono ?_
    rintro e w3 ⟨g0, rs0, rfl, y2, y3, hb⟩
    clear ka1 ka2
    have B_4 := hid (btr B_3.out hb)
    have BX_4 := hid (btr BX0.out hb)
    have hz_4 := hb.size
    have KA_4 := hid ((hb.block _ (Array.getElem?_eq_some_iff.1 KA_3.out).1).trans KA_3.out)
    have N0 := hid y2
    have E0 := hid y3
    have hgl0 : g0 < w3.heap.size := (y2.own.own_lt rfl).2
    clear hb y2 y3
    have ka1 := (at_get KA_4.out).1
    have ka2 := (at_get KA_4.out).2.1
    go_wp2_with fail
    refine (toBrief_row _ _ _ _ t1 _ _ (L1.out.bl B_4.out) hn1).mono ?_
    rintro e w4 ⟨g1, rfl, y1, hg1, hb⟩
    clear ka1 ka2
    have B_5 := hid (btr B_4.out hb)
    have BX_5 := hid (btr BX_4.out hb)
    have hz_5 := hb.size
    have KA_5 := hid ((hb.block _ (Array.getElem?_eq_some_iff.1 KA_4.out).1).trans KA_4.out)
    have N0_5 := hid (N0.out.bl hb)
    have G1 := hid y1
    have hgl1 : g1 < w4.heap.size := y1.lt
    clear hb y1
    have hb := bnew w4 (.cells #[.string t1, .slice (some ⟨g1, 0, none⟩) n1 n1] 31)
    have kx := heap_alloc_new w4 (.cells #[.string t1, .slice (some ⟨g1, 0, none⟩) n1 n1] 31)
    have zx := World.size_alloc w4 (.cells #[.string t1, .slice (some ⟨g1, 0, none⟩) n1 n1] 31)
    obtain ⟨w5, hwx⟩ : ∃ x, w4.alloc (.cells #[.string t1, .slice (some ⟨g1, 0, none⟩) n1 n1] 31) = x := ⟨_, rfl⟩
    rw [hwx] at hb kx zx
    have HWX := hid hwx
    have zlx : w4.heap.size < w5.heap.size := by omega
    have B_6 := hid (btr B_5.out hb)
    have BX_6 := hid (btr BX_5.out hb)
    have hz_6 := hb.size
    have KA_6 := hid ((hb.block _ (Array.getElem?_eq_some_iff.1 KA_5.out).1).trans KA_5.out)
    have N0_6 := hid (N0_5.out.bl hb)
    have G1_6 := hid (G1.out.chg (chgW (D := fun _ => False) hb) (fun h => h))
    have KX := hid kx
    clear hb kx zx hwx
    go_wp2_with fail
    rw [HWX.out]
    refine (implBriefsAdd_any _ _ _ _ _ _ _ _ _ _ _ (N0_6.out.rd0 E0.out (by have := HN0.out; omega)) (Nat.le_refl _) (G1_6.out.rd0 HN1.out) ht1 hn1).mono ?_
    intro e w6 hres
    unfold RetBB at hres
    rw [HV.out, HXS.out, HVO.out] at hres
    obtain ⟨DG, dn, dG, rsG, rfl, y1, hm9, y2, hb⟩ := hres
    obtain rfl : dn = xs.length := by rw [hm9, ← y2, List.length_map]
    have B_7 := hid (btr B_6.out hb)
    have BX_7 := hid (btr BX_6.out hb)
    have hz_7 := hb.size
    have KA_7 := hid ((hb.block _ (Array.getElem?_eq_some_iff.1 KA_6.out).1).trans KA_6.out)
    have KX_7 := hid ((hb.block _ (Array.getElem?_eq_some_iff.1 KX.out).1).trans KX.out)
    have N0_7 := hid (N0_6.out.bl hb)
    have G1_7 := hid (G1_6.out.chg (chgW (D := fun _ => False) hb) (fun h => h))
    have OG := hid y1
    have EG := hid y2
    clear hb y1 y2 hm9
    have ka1 := (at_get KA_7.out).1
    have ka2 := (at_get KA_7.out).2.1
    have kx1 := (at_get KX_7.out).1
    have kx2 := (at_get KX_7.out).2.1
    go_wp2_with fail
    refine (eqBriefS_any _ _ _ _ _ _ _ _ _ _ _ (OG.out.rd0 EG.out (by omega)) (YS.out.bl BX_7.out)).mono ?_
    rintro e w7 ⟨rfl, hb⟩
    clear ka1 ka2 kx1 kx2
    rw [eqD_self]
    have B_8 := hid (btr B_7.out hb)
    have BX_8 := hid (btr BX_7.out hb)
    have hz_8 := hb.size
    have KA_8 := hid ((hb.block _ (Array.getElem?_eq_some_iff.1 KA_7.out).1).trans KA_7.out)
    have KX_8 := hid ((hb.block _ (Array.getElem?_eq_some_iff.1 KX_7.out).1).trans KX_7.out)
    have N0_8 := hid (N0_7.out.bl hb)
    have G1_8 := hid (G1_7.out.chg (chgW (D := fun _ => False) hb) (fun h => h))
    have OG_8 := hid (OG.out.bl hb)
    clear hb
    have ka1 := (at_get KA_8.out).1
    have ka2 := (at_get KA_8.out).2.1
    have kx1 := (at_get KX_8.out).1
    have kx2 := (at_get KX_8.out).2.1
    go_wp2_with fail
    refine (toBriefS_any _ _ _ _ _ _ (L0.out.bl B_8.out) hn0 S0.out).mono ?_
    rintro e w8 ⟨gz0, rfl, y1, hb⟩
    clear ka1 ka2 kx1 kx2
    have B_9 := hid (btr B_8.out hb)
    have BX_9 := hid (btr BX_8.out hb)
    have hz_9 := hb.size
    have KA_9 := hid ((hb.block _ (Array.getElem?_eq_some_iff.1 KA_8.out).1).trans KA_8.out)
    have KX_9 := hid ((hb.block _ (Array.getElem?_eq_some_iff.1 KX_8.out).1).trans KX_8.out)
    have N0_9 := hid (N0_8.out.bl hb)
    have G1_9 := hid (G1_8.out.chg (chgW (D := fun _ => False) hb) (fun h => h))
    have OG_9 := hid (OG_8.out.bl hb)
    have Z0 := hid y1
    clear hb y1
    have ka1 := (at_get KA_9.out).1
    have ka2 := (at_get KA_9.out).2.1
    have kx1 := (at_get KX_9.out).1
    have kx2 := (at_get KX_9.out).2.1
    go_wp2_with fail
    refine (eqBriefS_any _ _ _ _ _ _ _ _ _ _ _ (N0_9.out.rd0 E0.out (by have := HN0.out; omega)) Z0.out).mono ?_
    rintro e w9 ⟨rfl, hb⟩
    clear ka1 ka2 kx1 kx2
    rw [eqD_self]
    have B_10 := hid (btr B_9.out hb)
    have BX_10 := hid (btr BX_9.out hb)
    have hz_10 := hb.size
    have KA_10 := hid ((hb.block _ (Array.getElem?_eq_some_iff.1 KA_9.out).1).trans KA_9.out)
    have KX_10 := hid ((hb.block _ (Array.getElem?_eq_some_iff.1 KX_9.out).1).trans KX_9.out)
    have N0_10 := hid (N0_9.out.bl hb)
    have G1_10 := hid (G1_9.out.chg (chgW (D := fun _ => False) hb) (fun h => h))
    have OG_10 := hid (OG_9.out.bl hb)
    clear hb
    have ka1 := (at_get KA_10.out).1
    have ka2 := (at_get KA_10.out).2.1
    have kx1 := (at_get KX_10.out).1
    have kx2 := (at_get KX_10.out).2.1
    go_wp2_with fail
    have fka1 := fun w' (h : Below w9.heap.size w9 w') => bcl h ka1
    have fka2 := fun w' (h : Below w9.heap.size w9 w') => bcl h ka2
    have fkx1 := fun w' (h : Below w9.heap.size w9 w') => bcl h kx1
    have fkx2 := fun w' (h : Below w9.heap.size w9 w') => bcl h kx2
    go_region_held3 (fun w' => Below w9.heap.size w9 w') (first | assumption | exact (Below.refl _ _).drew) (first
      | (go_at_call 36; refine (toBrief_any _ _ _ _ t1 _ _ ((L1.out.bl B_10.out).bl (bdr _)) hn1).mono ?_; rintro e w10 ⟨ga, rfl, pa, ba⟩; have bb : Below w9.heap.size w9 w10 := btr (bdr _) ba)
      | (go_at_call 38; refine (eqBrief_any _ _ _ _ _ _ _ _ t1 t1 _ _ _ ((G1_10.out.rd0 HN1.out).bl (btr (bdr _) ba)) pa).mono ?_; rintro e w11 ⟨rfl, bc⟩; have hb : Below w9.heap.size w9 w11 := btr (btr (bdr _) ba) bc))
    simp only [eqD_self, Bool.not_true]
    clear ka1 ka2 kx1 kx2
    clear fka1 fka2 fkx1 fkx2 ba bb bc pa
    have B_11 := hid (btr B_10.out hb)
    have BX_11 := hid (btr BX_10.out hb)
    have hz_11 := hb.size
    have KA_11 := hid ((hb.block _ (Array.getElem?_eq_some_iff.1 KA_10.out).1).trans KA_10.out)
    have KX_11 := hid ((hb.block _ (Array.getElem?_eq_some_iff.1 KX_10.out).1).trans KX_10.out)
    have N0_11 := hid (N0_10.out.bl hb)
    have G1_11 := hid (G1_10.out.chg (chgW (D := fun _ => False) hb) (fun h => h))
    have OG_11 := hid (OG_10.out.bl hb)
    clear hb
    have ls0 : sumB (lensB rs0) ≤ 1048576 := by rw [lensB_of E0.out]; have := Q0.out; omega
    have lr0 : rs0.length ≤ 1048576 := by have h1 := congrArg List.length E0.out; rw [List.length_map] at h1; have := HN0.out; omega
    have HLN0 := hid (dRows_le E0.out S0.out)
    have ka1 := (at_get KA_11.out).1
    have ka2 := (at_get KA_11.out).2.1
    have kx1 := (at_get KX_11.out).1
    have kx2 := (at_get KX_11.out).2.1
    go_wp2_with fail
    refine (markBriefS_some g0 n0 n0 _ _ rs0 1 _ N0_11.out (by omega) lr0 (by omega) HLN0.out (by omega) (by omega)).mono ?_
    rintro e w12 ⟨rfl, -, hc⟩
    clear ka1 ka2 kx1 kx2
    have B_12 := hid (B_11.out.trans (hc.below B_11.out.size (fun k hk => by obtain ⟨hk, hk2⟩ := hk; omega)))
    have BX_12 := hid (BX_11.out.trans (hc.below BX_11.out.size (fun k hk => by obtain ⟨hk, hk2⟩ := hk; omega)))
    have hz_12 := hc.size
    have KA_12 := hid ((hc.block _ (Array.getElem?_eq_some_iff.1 KA_11.out).1 (fun hk => by obtain ⟨hk, hk2⟩ := hk; omega)).trans KA_11.out)
    have KX_12 := hid ((hc.block _ (Array.getElem?_eq_some_iff.1 KX_11.out).1 (fun hk => by obtain ⟨hk, hk2⟩ := hk; omega)).trans KX_11.out)
    have G1_12 := hid (G1_11.out.chg hc (fun hk => by have hk0 := hk; obtain ⟨hk, hk2⟩ := hk; omega))
    have OG_12 := hid (OG_11.out.keep hc (fun k hv hk => by have hu := (OG_11.out.own.own_lt hv).1; obtain ⟨hk, hk2⟩ := hk; omega) (fun r hr hk => by have hu := (OG_11.out.row r hr).1; have hu2 := hk; obtain ⟨hk, hk2⟩ := hk; omega))
    clear hc
    obtain ⟨mq0, hmk⟩ : ∃ mk, 1 + (sumB (lensB rs0) : Int) = mk := ⟨_, rfl⟩
    have mqa0 : 0 ≤ mq0 := by omega
    have mqb0 : mq0 ≤ 1048577 := by omega
    rw [hmk]
    clear hmk
    have ka1 := (at_get KA_12.out).1
    have ka2 := (at_get KA_12.out).2.1
    have kx1 := (at_get KX_12.out).1
    have kx2 := (at_get KX_12.out).2.1
    go_wp2_with fail
    refine (markBrief_row t1 g1 n1 n1 l1 mq0 _ G1_12.out HN1.out hn1 (by omega) (by omega)).mono ?_
    rintro e w13 ⟨rfl, hc⟩
    clear ka1 ka2 kx1 kx2
    have B_13 := hid (B_12.out.trans (hc.below B_12.out.size (fun k hk => by omega)))
    have BX_13 := hid (BX_12.out.trans (hc.below BX_12.out.size (fun k hk => by omega)))
    have hz_13 := hc.size
    have KA_13 := hid ((hc.block _ (Array.getElem?_eq_some_iff.1 KA_12.out).1 (fun hk => by omega)).trans KA_12.out)
    have OG_13 := hid (OG_12.out.keep hc (fun k hv hk => by have hu := (OG_12.out.own.own_lt hv).1; omega) (fun r hr hk => by have hu := (OG_12.out.row r hr).1; have hu2 := hk; omega))
    clear hc
    obtain ⟨mq1, hmk⟩ : ∃ mk, mq0 + (n1 : Int) = mk := ⟨_, rfl⟩
    have mqa1 : 0 ≤ mq1 := by omega
    have mqb1 : mq1 ≤ 2097153 := by omega
    rw [hmk]
    clear hmk
    have nkk : ¬ mq1 < 0 := by omega
    have ka1 := (at_get KA_13.out).1
    have ka2 := (at_get KA_13.out).2.1
    go_wp2_with fail
    refine (eqBriefS_any _ _ _ _ _ _ _ _ _ _ _ (OG_13.out.rd0 EG.out (by omega)) (YS.out.bl BX_13.out)).mono ?_
    rintro e w14 ⟨rfl, hb⟩
    clear ka1 ka2
    rw [eqD_self]
    have B_14 := hid (btr B_13.out hb)
    have BX_14 := hid (btr BX_13.out hb)
    have hz_14 := hb.size
    have KA_14 := hid ((hb.block _ (Array.getElem?_eq_some_iff.1 KA_13.out).1).trans KA_13.out)
    have OG_14 := hid (OG_13.out.bl hb)
    clear hb
    have lrG : rsG.length ≤ 8 := by have h1 := congrArg List.length EG.out; rw [List.length_map] at h1; omega
    have HLNG := hid (dRows_le (N := 3) EG.out HX3.out)
    have lsG : sumB (lensB rsG) ≤ 32 := by
      have h1 := sumB_each (ns := lensB rsG) (m := 3) (fun x hx => by obtain ⟨d, hd, rfl⟩ := List.mem_map.1 hx; exact HLNG.out d hd)
      have h2 : (lensB rsG).length = rsG.length := List.length_map _
      omega
    have nG : xs.length = rsG.length := by have h1 := congrArg List.length EG.out; rw [List.length_map] at h1; exact h1.symm
    have NG := hid nG
    clear nG
    have ka1 := (at_get KA_14.out).1
    have ka2 := (at_get KA_14.out).2.1
    go_wp2_with fail
    refine (markBriefS_res _ _ _ _ _ rsG 1 _ (OG_14.out.wide (hi' := w14.heap.size) (by omega)) (Nat.le_refl _) NG.out (by omega) (by omega) (fun d hd => by have := HLNG.out d hd; omega) (by omega) (by omega)).mono ?_
    rintro e w15 ⟨rfl, y1, hc⟩
    clear ka1 ka2
    have B_15 := hid (B_14.out.trans (hc.below B_14.out.size (fun k hk => by obtain ⟨hk, hk2⟩ := hk; omega)))
    have BX_15 := hid (BX_14.out.trans (hc.below BX_14.out.size (fun k hk => by obtain ⟨hk, hk2⟩ := hk; omega)))
    have hz_15 := hc.size
    have KA_15 := hid ((hc.block _ (Array.getElem?_eq_some_iff.1 KA_14.out).1 (fun hk => by obtain ⟨hk, hk2⟩ := hk; omega)).trans KA_14.out)
    have RG := hid y1
    clear hc y1
    have htt : ((1 + (sumB (lensB rsG) : Int)) != (1 + (sumB (lensB rsG) : Int))) = false := by simp
    have htn : ¬ (1 + (sumB (lensB rsG) : Int)) < 0 := by omega
    have ka1 := (at_get KA_15.out).1
    have ka2 := (at_get KA_15.out).2.1
    go_wp2_with fail
    refine (heldBriefS_any _ _ _ _ 1 (lensB rsG) _ RG.out (fun x hx => by obtain ⟨d, hd, rfl⟩ := List.mem_map.1 hx; have := HLNG.out d hd; omega) (by omega) (by omega) (by omega)).mono ?_
    rintro e w16 ⟨rfl, hb⟩
    clear ka1 ka2
    have B_16 := hid (btr B_15.out hb)
    have BX_16 := hid (btr BX_15.out hb)
    have hz_16 := hb.size
    have KA_16 := hid ((hb.block _ (Array.getElem?_eq_some_iff.1 KA_15.out).1).trans KA_15.out)
    have RG_16 := hid (RG.out.bl hb)
    clear hb
    have ka1 := (at_get KA_16.out).1
    have ka2 := (at_get KA_16.out).2.1
    go_wp2_with fail
    clear ka1 ka2
    refine wp_region_invH (by kernel_rfl) (by kernel_rfl) (fun L act X => ∃ p15 p16 p94 p95 p96 p97 p98 p99 p100 p101 : Value, act = { tmps := #[Value.slice A0 n0 c0, Value.agg #[Value.string t1, Value.slice A1 n1 c1], undef, Value.pointer (some ⟨w.heap.size, 0, none⟩), Value.bool false, Value.int IntKind.i64 s1, Value.slice DS xs.length dS, Value.bool ok, Value.slice (some ⟨g0, 0, none⟩) n0 n0, Value.pointer (some ⟨w4.heap.size, 0, none⟩), Value.slice DG xs.length dG, Value.bool ok, Value.int IntKind.i64 mq1, Value.int IntKind.i64 (1 + (sumB (lensB rsG) : Int)), Value.int IntKind.i64 (1 + (sumB (lensB rsG) : Int)), p15, p16, Value.slice A0 n0 c0, Value.int IntKind.i64 1048576, Value.int IntKind.i64 s0, Value.int IntKind.i64 s0, Value.bool (decide (s0 < 0)), Value.agg #[Value.string t1, Value.slice A1 n1 c1], Value.int IntKind.i64 s0, Value.int IntKind.i64 s1, Value.int IntKind.i64 s1, Value.bool (decide (s1 < 0)), v27, v28, v29, v30, v31, v32, v33, v34, Value.slice A0 n0 c0, Value.slice (some ⟨g0, 0, none⟩) n0 n0, Value.agg #[Value.string t1, Value.slice A1 n1 c1], Value.agg #[Value.string t1, Value.slice (some ⟨g1, 0, none⟩) n1 n1], Value.tuple #[Value.slice DG xs.length dG, Value.bool ok], Value.slice (some ⟨g0, 0, none⟩) n0 n0, Value.agg #[Value.string t1, Value.slice (some ⟨g1, 0, none⟩) n1 n1], Value.tuple #[Value.slice DG xs.length dG, Value.bool ok], Value.slice DG xs.length dG, Value.bool ok, Value.slice DG xs.length dG, Value.slice DS xs.length dS, Value.bool true, Value.bool false, Value.bool false, Value.bool ok, Value.bool ok, Value.bool false, Value.bool false, Value.slice (some ⟨g0, 0, none⟩) n0 n0, Value.slice A0 n0 c0, Value.slice (some ⟨gz0, 0, none⟩) n0 n0, Value.bool true, Value.bool false, Value.agg #[Value.string t1, Value.slice (some ⟨g1, 0, none⟩) n1 n1], Value.agg #[Value.string t1, Value.slice A1 n1 c1], Value.agg #[Value.string t1, Value.slice (some ⟨ga, 0, none⟩) n1 n1], Value.bool true, Value.bool false, Value.slice (some ⟨g0, 0, none⟩) n0 n0, Value.int IntKind.i64 1, Value.int IntKind.i64 mq0, Value.agg #[Value.string t1, Value.slice (some ⟨g1, 0, none⟩) n1 n1], Value.int IntKind.i64 mq0, Value.int IntKind.i64 mq1, Value.int IntKind.i64 mq1, Value.bool (decide (mq1 < 0)), Value.bool (decide (mq1 < 0)), Value.slice DG xs.length dG, Value.slice DS xs.length dS, Value.bool true, Value.bool false, Value.bool (decide (mq1 < 0)), Value.bool (decide (mq1 < 0)), Value.bool ok, Value.bool ok, Value.bool false, Value.bool (decide (mq1 < 0)), Value.slice DG xs.length dG, Value.int IntKind.i64 1, Value.int IntKind.i64 (1 + (sumB (lensB rsG) : Int)), Value.slice DG xs.length dG, Value.int IntKind.i64 1, Value.int IntKind.i64 (1 + (sumB (lensB rsG) : Int)), Value.int IntKind.i64 (1 + (sumB (lensB rsG) : Int)), Value.bool (decide (1 + (sumB (lensB rsG) : Int) < 0)), Value.int IntKind.i64 (1 + (sumB (lensB rsG) : Int)), Value.int IntKind.i64 (1 + (sumB (lensB rsG) : Int)), Value.bool false, p94, p95, p96, p97, p98, p99, p100, p101, undef, undef, undef, undef, undef, undef, undef, undef, undef, undef, undef, undef, undef, undef, undef, undef, undef], defers := [] } ∧
      (Below w16.heap.size w16 X) ∧ (L 0 = true → p95 = .slice A0 n0 c0) ∧ (L 1 = true → ∃ g : Nat, p96 = .slice (some ⟨g, 0, none⟩) n0 n0 ∧ Rd briefS 0 X.heap.size X (some ⟨g, 0, none⟩) n0 l0) ∧ (L 2 = true → p97 = .agg #[.string t1, .slice A1 n1 c1]) ∧ (L 3 = true → ∃ g : Nat, p98 = .agg #[.string t1, .slice (some ⟨g, 0, none⟩) n1 n1] ∧ Rd strS 0 X.heap.size X (some ⟨g, 0, none⟩) n1 l1) ∧ (L 4 = true → ∃ (D : Option Addr) (d : Nat), p99 = .tuple #[.slice D xs.length d, .bool ok] ∧ Rd briefS 0 X.heap.size X D xs.length xs) ∧ (L 5 = true → ∃ (D : Option Addr) (d : Nat), p94 = .tuple #[.slice D xs.length d, .bool ok] ∧ Rd briefS 0 X.heap.size X D xs.length xs) ∧ (L 6 = true → ∃ (D : Option Addr) (d : Nat), p100 = .slice D xs.length d ∧ Rd briefS 0 X.heap.size X D xs.length xs) ∧ (L 7 = true → p101 = .bool ok) ∧ (L 8 = true → ∃ (D : Option Addr) (d : Nat), p15 = .slice D xs.length d ∧ Rd briefS 0 X.heap.size X D xs.length xs) ∧ (L 9 = true → p16 = .bool ok)) ?_ ⟨?_, ?_, ?_, ?_, ?_, ?_, ?_, ?_, ?_, ?_, trivial⟩ ?_
    · exact ⟨_, _, _, _, _, _, _, _, _, _, rfl, (Below.refl _ _).drew, fun h => (by cases h), fun h => (by cases h), fun h => (by cases h), fun h => (by cases h), fun h => (by cases h), fun h => (by cases h), fun h => (by cases h), fun h => (by cases h), fun h => (by cases h), fun h => (by cases h)⟩
    · rintro L act X K0 ⟨p15, p16, p94, p95, p96, p97, p98, p99, p100, p101, rfl, hB, f0, f1, f2, f3, f4, f5, f6, f7, f8, f9⟩ hL hd hK
      clear hd
      refine ⟨rfl, ?_⟩
      go_simp
      exact hK _ _ ⟨_, _, _, _, _, _, _, _, _, _, rfl, hB, fun _ => rfl, f1, f2, f3, f4, f5, f6, f7, f8, f9⟩
    · rintro L act X K0 ⟨p15, p16, p94, p95, p96, p97, p98, p99, p100, p101, rfl, hB, f0, f1, f2, f3, f4, f5, f6, f7, f8, f9⟩ hL hd hK
      have d0 := hd ⟨0, .data⟩ (by simp) rfl
      obtain rfl := f0 d0
      clear hd
      refine ⟨rfl, ?_⟩
      go_simp
      refine (toBriefS_any _ _ _ _ _ _ ((L0.out.bl B_16.out).bl hB) hn0 S0.out).mono ?_
      rintro e X2 ⟨g, rfl, y1, hc⟩
      exact hK _ _ ⟨_, _, _, _, _, _, _, _, _, _, rfl, btr hB hc, f0, fun _ => ⟨g, rfl, y1.wide (Nat.zero_le _) (Nat.le_refl _)⟩, f2, fun h => (by obtain ⟨g, e, r⟩ := f3 h; exact ⟨g, e, r.bl hc⟩), fun h => (by obtain ⟨D, d, e, r⟩ := f4 h; exact ⟨D, d, e, r.bl hc⟩), fun h => (by obtain ⟨D, d, e, r⟩ := f5 h; exact ⟨D, d, e, r.bl hc⟩), fun h => (by obtain ⟨D, d, e, r⟩ := f6 h; exact ⟨D, d, e, r.bl hc⟩), f7, fun h => (by obtain ⟨D, d, e, r⟩ := f8 h; exact ⟨D, d, e, r.bl hc⟩), f9⟩
    · rintro L act X K0 ⟨p15, p16, p94, p95, p96, p97, p98, p99, p100, p101, rfl, hB, f0, f1, f2, f3, f4, f5, f6, f7, f8, f9⟩ hL hd hK
      have q1 := (at_get ((hB.block _ (Array.getElem?_eq_some_iff.1 KA_16.out).1).trans KA_16.out)).1
      have q2 := (at_get ((hB.block _ (Array.getElem?_eq_some_iff.1 KA_16.out).1).trans KA_16.out)).2.1
      clear hd
      refine ⟨rfl, ?_⟩
      go_simp
      exact hK _ _ ⟨_, _, _, _, _, _, _, _, _, _, rfl, hB, f0, f1, fun _ => rfl, f3, f4, f5, f6, f7, f8, f9⟩
    · rintro L act X K0 ⟨p15, p16, p94, p95, p96, p97, p98, p99, p100, p101, rfl, hB, f0, f1, f2, f3, f4, f5, f6, f7, f8, f9⟩ hL hd hK
      have d2 := hd ⟨2, .data⟩ (by simp) rfl
      obtain rfl := f2 d2
      clear hd
      refine ⟨rfl, ?_⟩
      go_simp
      refine (toBrief_any _ _ _ _ t1 _ _ ((L1.out.bl B_16.out).bl hB) hn1).mono ?_
      rintro e X2 ⟨g, rfl, y1, hc⟩
      exact hK _ _ ⟨_, _, _, _, _, _, _, _, _, _, rfl, btr hB hc, f0, fun h => (by obtain ⟨g, e, r⟩ := f1 h; exact ⟨g, e, r.bl hc⟩), f2, fun _ => ⟨g, rfl, y1.wide (Nat.zero_le _) (Nat.le_refl _)⟩, fun h => (by obtain ⟨D, d, e, r⟩ := f4 h; exact ⟨D, d, e, r.bl hc⟩), fun h => (by obtain ⟨D, d, e, r⟩ := f5 h; exact ⟨D, d, e, r.bl hc⟩), fun h => (by obtain ⟨D, d, e, r⟩ := f6 h; exact ⟨D, d, e, r.bl hc⟩), f7, fun h => (by obtain ⟨D, d, e, r⟩ := f8 h; exact ⟨D, d, e, r.bl hc⟩), f9⟩
    · rintro L act X K0 ⟨p15, p16, p94, p95, p96, p97, p98, p99, p100, p101, rfl, hB, f0, f1, f2, f3, f4, f5, f6, f7, f8, f9⟩ hL hd hK
      have d1 := hd ⟨1, .data⟩ (by simp) rfl
      obtain ⟨g, rfl, r1⟩ := f1 d1
      have d3 := hd ⟨3, .data⟩ (by simp) rfl
      obtain ⟨g2, rfl, r3⟩ := f3 d3
      clear hd
      refine ⟨rfl, ?_⟩
      go_simp
      refine (implBriefsAdd_any _ _ _ _ _ _ _ _ _ _ _ r1 (Nat.le_refl _) r3 ht1 hn1).mono ?_
      intro e X2 hres
      unfold RetBB at hres
      rw [HV.out, HXS.out, HVO.out] at hres
      obtain ⟨D, d, m9, ds, rfl, hN, hm9, hds, hc⟩ := hres
      obtain rfl : d = xs.length := by rw [hm9, ← hds, List.length_map]
      have hRD := hN.rd0 hds (by omega)
      exact hK _ _ ⟨_, _, _, _, _, _, _, _, _, _, rfl, btr hB hc, f0, fun _ => ⟨g, rfl, r1.bl hc⟩, f2, fun _ => ⟨g2, rfl, r3.bl hc⟩, fun _ => ⟨D, m9, rfl, hRD⟩, fun h => (by obtain ⟨D, d, e, r⟩ := f5 h; exact ⟨D, d, e, r.bl hc⟩), fun h => (by obtain ⟨D, d, e, r⟩ := f6 h; exact ⟨D, d, e, r.bl hc⟩), f7, fun h => (by obtain ⟨D, d, e, r⟩ := f8 h; exact ⟨D, d, e, r.bl hc⟩), f9⟩
    · rintro L act X K0 ⟨p15, p16, p94, p95, p96, p97, p98, p99, p100, p101, rfl, hB, f0, f1, f2, f3, f4, f5, f6, f7, f8, f9⟩ hL hd hK
      have d4 := hd ⟨4, .data⟩ (by simp) rfl
      obtain ⟨D, d, rfl, r4⟩ := f4 d4
      clear hd
      refine ⟨rfl, ?_⟩
      go_simp
      exact hK _ _ ⟨_, _, _, _, _, _, _, _, _, _, rfl, hB, f0, f1, f2, f3, fun _ => ⟨D, d, rfl, r4⟩, fun _ => ⟨D, d, rfl, r4⟩, f6, f7, f8, f9⟩
    · rintro L act X K0 ⟨p15, p16, p94, p95, p96, p97, p98, p99, p100, p101, rfl, hB, f0, f1, f2, f3, f4, f5, f6, f7, f8, f9⟩ hL hd hK
      have d5 := hd ⟨5, .data⟩ (by simp) rfl
      obtain ⟨D, d, rfl, r4⟩ := f5 d5
      clear hd
      refine ⟨rfl, ?_⟩
      go_simp
      exact hK _ _ ⟨_, _, _, _, _, _, _, _, _, _, rfl, hB, f0, f1, f2, f3, f4, fun _ => ⟨D, d, rfl, r4⟩, fun _ => ⟨D, d, rfl, r4⟩, f7, f8, f9⟩
    · rintro L act X K0 ⟨p15, p16, p94, p95, p96, p97, p98, p99, p100, p101, rfl, hB, f0, f1, f2, f3, f4, f5, f6, f7, f8, f9⟩ hL hd hK
      have d5 := hd ⟨5, .data⟩ (by simp) rfl
      obtain ⟨D, d, rfl, r4⟩ := f5 d5
      clear hd
      refine ⟨rfl, ?_⟩
      go_simp
      exact hK _ _ ⟨_, _, _, _, _, _, _, _, _, _, rfl, hB, f0, f1, f2, f3, f4, fun _ => ⟨D, d, rfl, r4⟩, f6, fun _ => rfl, f8, f9⟩
    · rintro L act X K0 ⟨p15, p16, p94, p95, p96, p97, p98, p99, p100, p101, rfl, hB, f0, f1, f2, f3, f4, f5, f6, f7, f8, f9⟩ hL hd hK
      have d6 := hd ⟨6, .data⟩ (by simp) rfl
      obtain ⟨D, d, rfl, r4⟩ := f6 d6
      clear hd
      refine ⟨rfl, ?_⟩
      go_simp
      exact hK _ _ ⟨_, _, _, _, _, _, _, _, _, _, rfl, hB, f0, f1, f2, f3, f4, f5, fun _ => ⟨D, d, rfl, r4⟩, f7, fun _ => ⟨D, d, rfl, r4⟩, f9⟩
    · rintro L act X K0 ⟨p15, p16, p94, p95, p96, p97, p98, p99, p100, p101, rfl, hB, f0, f1, f2, f3, f4, f5, f6, f7, f8, f9⟩ hL hd hK
      have d7 := hd ⟨7, .data⟩ (by simp) rfl
      obtain rfl := f7 d7
      clear hd
      refine ⟨rfl, ?_⟩
      go_simp
      exact hK _ _ ⟨_, _, _, _, _, _, _, _, _, _, rfl, hB, f0, f1, f2, f3, f4, f5, f6, f7, f8, fun _ => rfl⟩
    · rintro L act X hLL ⟨p15, p16, p94, p95, p96, p97, p98, p99, p100, p101, rfl, hB, f0, f1, f2, f3, f4, f5, f6, f7, f8, f9⟩
      obtain ⟨DH, dH, ea, y1⟩ := f8 (hLL 8 (by simp))
      subst ea
      obtain rfl := f9 (hLL 9 (by simp))
      have hb := hB
      clear f0 f1 f2 f3 f4 f5 f6 f7 f8 f9 hLL hB
      have YH := hid y1
      clear y1
      have B_17 := hid (btr B_16.out hb)
      have BX_17 := hid (btr BX_16.out hb)
      have hz_17 := hb.size
      have KA_17 := hid ((hb.block _ (Array.getElem?_eq_some_iff.1 KA_16.out).1).trans KA_16.out)
      have RG_17 := hid (RG_16.out.bl hb)
      clear hb
      have ka1 := (at_get KA_17.out).1
      have ka2 := (at_get KA_17.out).2.1
      go_wp2_with fail
      refine (eqBriefS_any _ _ _ _ _ _ _ _ _ _ _ YH.out (YS.out.bl BX_17.out)).mono ?_
      rintro e w17 ⟨rfl, hb⟩
      clear ka1 ka2
      rw [eqD_self]
      have B_18 := hid (btr B_17.out hb)
      have BX_18 := hid (btr BX_17.out hb)
      have hz_18 := hb.size
      have KA_18 := hid ((hb.block _ (Array.getElem?_eq_some_iff.1 KA_17.out).1).trans KA_17.out)
      have RG_18 := hid (RG_17.out.bl hb)
      have YH_18 := hid (YH.out.bl hb)
      clear hb
      have ka1 := (at_get KA_18.out).1
      have ka2 := (at_get KA_18.out).2.1
      go_wp2_with fail
      refine (heldBriefS_any _ _ _ _ 1 (lensB rsG) _ RG_18.out (fun x hx => by obtain ⟨d, hd, rfl⟩ := List.mem_map.1 hx; have := HLNG.out d hd; omega) (by omega) (by omega) (by omega)).mono ?_
      rintro e w18 ⟨rfl, hb⟩
      clear ka1 ka2
      have B_19 := hid (btr B_18.out hb)
      have BX_19 := hid (btr BX_18.out hb)
      have hz_19 := hb.size
      have KA_19 := hid ((hb.block _ (Array.getElem?_eq_some_iff.1 KA_18.out).1).trans KA_18.out)
      have RG_19 := hid (RG_18.out.bl hb)
      have YH_19 := hid (YH_18.out.bl hb)
      clear hb
      have ka1 := (at_get KA_19.out).1
      have ka2 := (at_get KA_19.out).2.1
      go_wp2_with fail
      go_ret
      exact ⟨rfl, btr BW0.out B_19.out⟩
end Go.Proofs.Ythijnojefeeaoaa
