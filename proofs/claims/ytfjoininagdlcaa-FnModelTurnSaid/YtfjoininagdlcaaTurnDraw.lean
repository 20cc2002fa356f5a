/- Models in which two words have exchanged numbers: as they are drawn; models compared. -/
import Derived.Test.YtfjoininagdlcaaDrawLs
import Derived.Test.YtfjoininagdlcaaLawFns
import Derived.Test.YtfjoininagdlcaaLawKit
namespace Go.Proofs.Ytfjoininagdlcaa
open Go.RowKit
set_option maxHeartbeats 400000 in
theorem sameModel_any (A B A' B' : Option Addr) (n c m e0 n' c' m' e0' : Nat) (l l' : List Int) (r r' : List (List Int)) (w : World) (hl : Rd intS 0 w.heap.size w A n l) (hr : Rd (sliceS intS) 0 w.heap.size w B m r) (hl' : Rd intS 0 w.heap.size w A' n' l') (hr' : Rd (sliceS intS) 0 w.heap.size w B' m' r') :
    Calls Try.prog 48 #[.agg #[.slice A n c, .slice B m e0], .agg #[.slice A' n' c', .slice B' m' e0']] w fun e w' => e = .returned (.bool (eqD l l' && eqD r r')) ∧ Below w.heap.size w w' := by
  have M1 := LM.new (C := none) (q := 0) (page := []) (c := c) (e0 := e0) (t := 26) hl hr (Rd.nil _ _ _ _ _)
  have hb2 := bnew (w.alloc (.cells #[.slice A n c, .slice B m e0] 26)) (.cells #[.slice A' n' c', .slice B' m' e0'] 26)
  have hb := btr (bnew w (.cells #[.slice A n c, .slice B m e0] 26)) hb2
  have M2 := LM.new (C := none) (q := 0) (page := []) (c := c') (e0 := e0') (t := 26) (hl'.bl (bnew w (.cells #[.slice A n c, .slice B m e0] 26))) (hr'.bl (bnew w (.cells #[.slice A n c, .slice B m e0] 26))) (Rd.nil _ _ _ _ _)
  have L1 := hid (M1.bl hb2)
  have L2 := hid M2
  have HB := hid hb
  have d0 := L1.out.at0
  have d1 := L1.out.at1
  have g0 := L2.out.at0
  have g1 := L2.out.at1
  rw [World.size_alloc] at g0 g1
  clear M1 M2 hb hb2 hl hr hl' hr'
  go_enter Try.func48, Try.ntmps48
  go_wp2_with fail
  refine (sameInts_any A A' n n' c c' 0 0 l l' _ L1.out.hl L2.out.hl).mono ?_
  rintro e w1 ⟨rfl, hb1⟩
  have N1 := hid (L1.out.bl hb1)
  have N2 := hid (L2.out.bl hb1)
  have HB1 := hid (btr HB.out hb1)
  clear hb1 d0 d1 g0 g1
  have d0 := N1.out.at0
  have d1 := N1.out.at1
  have g0 := N2.out.at0
  have g1 := N2.out.at1
  rw [World.size_alloc] at g0 g1
  obtain ⟨b, hb⟩ : ∃ b, eqD l l' = b := ⟨_, rfl⟩
  have HBV := hid hb
  rw [hb]
  clear hb
  cases b with
  | false =>
    go_wp2_with fail
    go_ret
    exact ⟨ret_bool (by rw [HBV.out]; rfl), HB1.out⟩
  | true =>
    go_wp2_with fail
    refine (sameRows_any B B' m m' e0 e0' 0 0 r r' _ N1.out.hr N2.out.hr).mono ?_
    rintro e w2 ⟨rfl, hb2⟩
    have HB2 := hid (btr HB1.out hb2)
    obtain ⟨b, hb⟩ : ∃ b, eqD r r' = b := ⟨_, rfl⟩
    have HBR := hid hb
    rw [hb]
    clear hb hb2
    go_wp2_with fail
    go_ret
    exact ⟨ret_bool (by rw [HBV.out, HBR.out]; rfl), HB2.out⟩
set_option maxRecDepth 100000 in
set_option maxHeartbeats 2000000 in
theorem DrawModelTurn_any (A0 : Option Addr) (n0 c0 : Nat) (bs : List UInt8) (w : World) (hnc : n0 ≤ c0) (hx : Rd byteS 0 w.heap.size w A0 n0 bs) :
    Calls Try.prog 45 #[.slice A0 n0 c0] w fun e w' => ∃ A n c l B m e0 r x y, e = .returned (.tuple #[.agg #[.slice A n c, .slice B m e0], .int .i64 x, .int .i64 y]) ∧ DrM 0 w' A B n m l r ∧ -1 ≤ x ∧ x ≤ 4 ∧ -1 ≤ y ∧ y ≤ 4 ∧ Below w.heap.size w w' := by
  have hx1 := hx.bl (bnew w (.cells #[.slice none 0 0, .slice none 0 0] 26))
  have HX := hid hx1
  clear hx1 hx
  go_enter Try.func45, Try.ntmps45
  go_wp2_with fail
  refine (l6Open_any A0 n0 c0 bs _ hnc HX.out).mono ?_
  rintro e w1 ⟨rfl, hr1, hb1, hs1⟩
  rw [World.size_alloc] at hr1 hs1 ⊢
  have hres1 := (hb1.block w.heap.size (by simp)).trans (heap_alloc_new w (.cells #[.slice none 0 0, .slice none 0 0] 26))
  have HB1 := hid ((bnew w (.cells #[.slice none 0 0, .slice none 0 0] 26)).trans (hb1.mono (by simp)))
  have HR1 := hid hr1
  obtain ⟨rb, hrb⟩ : ∃ rb, w.heap.size + 1 = rb := ⟨_, rfl⟩
  rw [hrb] at HR1 ⊢
  have hrb0 : w.heap.size < rb := by omega
  have hsz1 : rb < w1.heap.size := by omega
  have HRES1 := hid hres1
  clear hb1 hr1 hs1 hres1 hrb
  go_wp2_with fail
  refine (l92Model_any rb w1 0 HR1.out (by omega)).mono ?_
  rintro e w2 ⟨A, n, c, l, B, m, e0, r, p1, rfl, a1, a2, a3, a4, a6, a7, a8, a9, a5⟩
  have DM2 := hid (DrM.mk a1 a2 a3 a4 a6 a7)
  have HR2 := hid a9
  have ha5 := a5.size
  have hn4 : n ≤ 4 := a4
  have hp1 : p1 ≤ 0 + 200 := a8
  have HRES2 := hid ((a5.block w.heap.size (by omega) (by omega)).trans HRES1.out)
  have HC2 := hid a5
  clear a1 a2 a3 a4 a5 a6 a7 a8 a9 HR1 HRES1
  go_wp2_with fail
  have b2 := bnew w2 (.cells #[.slice A n c, .slice B m e0] 26)
  have c2 := chgE w2 (.cells #[.slice A n c, .slice B m e0] 26)
  have HM := hid (heap_alloc_new w2 (.cells #[.slice A n c, .slice B m e0] 26))
  have HR3 := hid (HR2.out.keep (b2.mono (by omega)))
  have HRES3 := hid ((b2.block w.heap.size (by omega)).trans HRES2.out)
  have DM3 := hid (DM2.out.chg c2 (fun _ e => e.elim))
  have HC3 := hid (HC2.out.trans (c2.wide (fun _ e => e.elim)))
  have hs3 : (w2.alloc (.cells #[.slice A n c, .slice B m e0] 26)).heap.size = w2.heap.size + 1 := by simp
  clear b2 c2 HR2 HRES2 DM2 HC2
  generalize (w2.alloc (.cells #[.slice A n c, .slice B m e0] 26)) = w3 at *
  have hm2 : w2.heap.size < w3.heap.size := by omega
  refine wp_region_invH (by kernel_rfl) (by kernel_rfl) (fun L act X => ∃ v3 v4 v11 v12 v13 v14 v15 v16 v17 v18 v19 v20 v21 : Value, ∃ (q : Nat), act = { tmps := #[.slice A0 n0 c0, undef, .pointer (some ⟨w.heap.size, 0, none⟩), v3, v4, .pointer (some ⟨rb, 0, none⟩), .pointer (some ⟨w2.heap.size, 0, none⟩), .slice A0 n0 c0, .pointer (some ⟨rb, 0, none⟩), .pointer (some ⟨rb, 0, none⟩), .agg #[.slice A n c, .slice B m e0], v11, v12, v13, v14, v15, v16, v17, v18, v19, v20, v21], defers := [] } ∧
    (L 10 = false → Rdr rb X q) ∧ ((L 5 = false → L 10 = false → q ≤ p1) ∧ (L 5 = false → q ≤ p1 + 2) ∧ (L 10 = false → q ≤ p1 + 2)) ∧ (Chg (fun k => k = rb ∨ k = w.heap.size) w3 X) ∧ (L 11 = false → X.heap[w.heap.size]? = some (.cells #[.slice none 0 0, .slice none 0 0] 26 (0, 0))) ∧ (L 5 = false → L 12 = false) ∧ (L 10 = false → L 13 = false) ∧ (L 5 = false → L 10 = false) ∧ (L 0 = true → v11 = .agg #[.slice A n c, .slice B m e0]) ∧ (L 1 = true → v12 = .pointer (some ⟨rb, 0, none⟩)) ∧ (L 2 = true → v13 = .pointer (some ⟨w2.heap.size, 0, none⟩)) ∧ (L 3 = true → v14 = .slice A n c) ∧ (L 4 = true → v15 = .int .i64 n) ∧ (L 5 = true → ∃ x : Int, v16 = .int .i64 x ∧ -1 ≤ x ∧ x ≤ n) ∧ (L 6 = true → v17 = .pointer (some ⟨rb, 0, none⟩)) ∧ (L 7 = true → v18 = .pointer (some ⟨w2.heap.size, 0, none⟩)) ∧ (L 8 = true → v19 = .slice A n c) ∧ (L 9 = true → v20 = .int .i64 n) ∧ (L 10 = true → ∃ x : Int, v21 = .int .i64 x ∧ -1 ≤ x ∧ x ≤ n) ∧ (L 11 = true → X.heap[w.heap.size]? = some (.cells #[.slice A n c, .slice B m e0] 26 (0, 0))) ∧ (L 12 = true → v3 = v16) ∧ (L 13 = true → v4 = v21)) ?_ ⟨?_, ?_, ?_, ?_, ?_, ?_, ?_, ?_, ?_, ?_, ?_, ?_, ?_, ?_, trivial⟩ ?_
  · exact ⟨_, _, _, _, _, _, _, _, _, _, _, _, _, p1, rfl, fun _ => HR3.out.keep (Below.refl _ _).drew, ⟨fun _ _ => Nat.le_refl _, fun _ => by omega, fun _ => by omega⟩, (Chg.refl _ _).drew, fun _ => HRES3.out, fun _ => rfl, fun _ => rfl, fun _ => rfl, fun h => (by cases h), fun h => (by cases h), fun h => (by cases h), fun h => (by cases h), fun h => (by cases h), fun h => (by cases h), fun h => (by cases h), fun h => (by cases h), fun h => (by cases h), fun h => (by cases h), fun h => (by cases h), fun h => (by cases h), fun h => (by cases h), fun h => (by cases h)⟩
  · rintro L act X K0 ⟨v3, v4, v11, v12, v13, v14, v15, v16, v17, v18, v19, v20, v21, q, rfl, hR, hq, hC, hA, o1, o2, o3, f0, f1, f2, f3, f4, f5, f6, f7, f8, f9, f10, f11, f12, f13⟩ hL hd hK
    obtain ⟨q0, q1, _, _⟩ := at_get ((hC.block w2.heap.size hm2 (fun e => by omega)).trans HM.out)
    clear hd
    refine ⟨rfl, ?_⟩
    go_simp
    exact hK _ _ ⟨_, _, _, _, _, _, _, _, _, _, _, _, _, q, rfl, hR, hq, hC, hA, o1, o2, o3, fun _ => rfl, f1, f2, f3, f4, f5, f6, f7, f8, f9, f10, f11, f12, f13⟩
  · rintro L act X K0 ⟨v3, v4, v11, v12, v13, v14, v15, v16, v17, v18, v19, v20, v21, q, rfl, hR, hq, hC, hA, o1, o2, o3, f0, f1, f2, f3, f4, f5, f6, f7, f8, f9, f10, f11, f12, f13⟩ hL hd hK
    clear hd
    refine ⟨rfl, ?_⟩
    go_simp
    exact hK _ _ ⟨_, _, _, _, _, _, _, _, _, _, _, _, _, q, rfl, hR, hq, hC, hA, o1, o2, o3, f0, fun _ => rfl, f2, f3, f4, f5, f6, f7, f8, f9, f10, f11, f12, f13⟩
  · rintro L act X K0 ⟨v3, v4, v11, v12, v13, v14, v15, v16, v17, v18, v19, v20, v21, q, rfl, hR, hq, hC, hA, o1, o2, o3, f0, f1, f2, f3, f4, f5, f6, f7, f8, f9, f10, f11, f12, f13⟩ hL hd hK
    clear hd
    refine ⟨rfl, ?_⟩
    go_simp
    exact hK _ _ ⟨_, _, _, _, _, _, _, _, _, _, _, _, _, q, rfl, hR, hq, hC, hA, o1, o2, o3, f0, f1, fun _ => rfl, f3, f4, f5, f6, f7, f8, f9, f10, f11, f12, f13⟩
  · rintro L act X K0 ⟨v3, v4, v11, v12, v13, v14, v15, v16, v17, v18, v19, v20, v21, q, rfl, hR, hq, hC, hA, o1, o2, o3, f0, f1, f2, f3, f4, f5, f6, f7, f8, f9, f10, f11, f12, f13⟩ hL hd hK
    have d2 := hd ⟨2, .data⟩ (by simp) rfl
    obtain rfl := f2 d2
    obtain ⟨q0, q1, _, _⟩ := at_get ((hC.block w2.heap.size hm2 (fun e => by omega)).trans HM.out)
    clear hd
    refine ⟨rfl, ?_⟩
    go_simp
    exact hK _ _ ⟨_, _, _, _, _, _, _, _, _, _, _, _, _, q, rfl, hR, hq, hC, hA, o1, o2, o3, f0, f1, f2, fun _ => rfl, f4, f5, f6, f7, f8, f9, f10, f11, f12, f13⟩
  · rintro L act X K0 ⟨v3, v4, v11, v12, v13, v14, v15, v16, v17, v18, v19, v20, v21, q, rfl, hR, hq, hC, hA, o1, o2, o3, f0, f1, f2, f3, f4, f5, f6, f7, f8, f9, f10, f11, f12, f13⟩ hL hd hK
    have d3 := hd ⟨3, .data⟩ (by simp) rfl
    obtain rfl := f3 d3
    clear hd
    refine ⟨rfl, ?_⟩
    go_simp
    exact hK _ _ ⟨_, _, _, _, _, _, _, _, _, _, _, _, _, q, rfl, hR, hq, hC, hA, o1, o2, o3, f0, f1, f2, f3, fun _ => rfl, f5, f6, f7, f8, f9, f10, f11, f12, f13⟩
  · rintro L act X K0 ⟨v3, v4, v11, v12, v13, v14, v15, v16, v17, v18, v19, v20, v21, q, rfl, hR, hq, hC, hA, o1, o2, o3, f0, f1, f2, f3, f4, f5, f6, f7, f8, f9, f10, f11, f12, f13⟩ hL hd hK
    have d1 := hd ⟨1, .data⟩ (by simp) rfl
    obtain rfl := f1 d1
    have d4 := hd ⟨4, .data⟩ (by simp) rfl
    obtain rfl := f4 d4
    clear hd
    refine ⟨rfl, ?_⟩
    go_simp
    refine (l92At_any rb n X q (hR (o3 hL)) (by have := hq.2.1 hL; omega) (by omega)).mono ?_
    rintro e X2 ⟨y, p3, rfl, k1, k2, k3, k4, hc⟩
    exact hK _ _ ⟨_, _, _, _, _, _, _, _, _, _, _, _, _, p3, rfl, fun _ => k4, ⟨fun h => (by cases h), fun h => (by cases h), fun h => (by have := hq.1 hL h; omega)⟩, hC.trans (hc.wide fun k h => .inl h), fun h => (hc.block w.heap.size (by have := hC.size; omega) (fun e => by omega)).trans (hA h), fun h => (by cases h), o2, fun h => (by cases h), f0, f1, f2, f3, f4, fun _ => ⟨y, rfl, k1, k2⟩, f6, f7, f8, f9, f10, fun h => (hc.block w.heap.size (by have := hC.size; omega) (fun e => by omega)).trans (f11 h), fun h => absurd ((o1 hL).symm.trans h) (by decide), f13⟩
  · rintro L act X K0 ⟨v3, v4, v11, v12, v13, v14, v15, v16, v17, v18, v19, v20, v21, q, rfl, hR, hq, hC, hA, o1, o2, o3, f0, f1, f2, f3, f4, f5, f6, f7, f8, f9, f10, f11, f12, f13⟩ hL hd hK
    clear hd
    refine ⟨rfl, ?_⟩
    go_simp
    exact hK _ _ ⟨_, _, _, _, _, _, _, _, _, _, _, _, _, q, rfl, hR, hq, hC, hA, o1, o2, o3, f0, f1, f2, f3, f4, f5, fun _ => rfl, f7, f8, f9, f10, f11, f12, f13⟩
  · rintro L act X K0 ⟨v3, v4, v11, v12, v13, v14, v15, v16, v17, v18, v19, v20, v21, q, rfl, hR, hq, hC, hA, o1, o2, o3, f0, f1, f2, f3, f4, f5, f6, f7, f8, f9, f10, f11, f12, f13⟩ hL hd hK
    clear hd
    refine ⟨rfl, ?_⟩
    go_simp
    exact hK _ _ ⟨_, _, _, _, _, _, _, _, _, _, _, _, _, q, rfl, hR, hq, hC, hA, o1, o2, o3, f0, f1, f2, f3, f4, f5, f6, fun _ => rfl, f8, f9, f10, f11, f12, f13⟩
  · rintro L act X K0 ⟨v3, v4, v11, v12, v13, v14, v15, v16, v17, v18, v19, v20, v21, q, rfl, hR, hq, hC, hA, o1, o2, o3, f0, f1, f2, f3, f4, f5, f6, f7, f8, f9, f10, f11, f12, f13⟩ hL hd hK
    have d7 := hd ⟨7, .data⟩ (by simp) rfl
    obtain rfl := f7 d7
    obtain ⟨q0, q1, _, _⟩ := at_get ((hC.block w2.heap.size hm2 (fun e => by omega)).trans HM.out)
    clear hd
    refine ⟨rfl, ?_⟩
    go_simp
    exact hK _ _ ⟨_, _, _, _, _, _, _, _, _, _, _, _, _, q, rfl, hR, hq, hC, hA, o1, o2, o3, f0, f1, f2, f3, f4, f5, f6, f7, fun _ => rfl, f9, f10, f11, f12, f13⟩
  · rintro L act X K0 ⟨v3, v4, v11, v12, v13, v14, v15, v16, v17, v18, v19, v20, v21, q, rfl, hR, hq, hC, hA, o1, o2, o3, f0, f1, f2, f3, f4, f5, f6, f7, f8, f9, f10, f11, f12, f13⟩ hL hd hK
    have d8 := hd ⟨8, .data⟩ (by simp) rfl
    obtain rfl := f8 d8
    clear hd
    refine ⟨rfl, ?_⟩
    go_simp
    exact hK _ _ ⟨_, _, _, _, _, _, _, _, _, _, _, _, _, q, rfl, hR, hq, hC, hA, o1, o2, o3, f0, f1, f2, f3, f4, f5, f6, f7, f8, fun _ => rfl, f10, f11, f12, f13⟩
  · rintro L act X K0 ⟨v3, v4, v11, v12, v13, v14, v15, v16, v17, v18, v19, v20, v21, q, rfl, hR, hq, hC, hA, o1, o2, o3, f0, f1, f2, f3, f4, f5, f6, f7, f8, f9, f10, f11, f12, f13⟩ hL hd hK
    have d6 := hd ⟨6, .data⟩ (by simp) rfl
    obtain rfl := f6 d6
    have d9 := hd ⟨9, .data⟩ (by simp) rfl
    obtain rfl := f9 d9
    have d5 := hd ⟨5, .chain⟩ (by simp) rfl
    clear hd
    refine ⟨rfl, ?_⟩
    go_simp
    refine (l92At_any rb n X q (hR hL) (by have := hq.2.2 hL; omega) (by omega)).mono ?_
    rintro e X2 ⟨y, p3, rfl, k1, k2, k3, k4, hc⟩
    exact hK _ _ ⟨_, _, _, _, _, _, _, _, _, _, _, _, _, p3, rfl, fun h => (by cases h), ⟨fun _ h => (by cases h), fun h => (by have := hq.1 h hL; omega), fun h => (by cases h)⟩, hC.trans (hc.wide fun k h => .inl h), fun h => (hc.block w.heap.size (by have := hC.size; omega) (fun e => by omega)).trans (hA h), o1, fun h => (by cases h), fun h => absurd (d5.symm.trans h) (by decide), f0, f1, f2, f3, f4, f5, f6, f7, f8, f9, fun _ => ⟨y, rfl, k1, k2⟩, fun h => (hc.block w.heap.size (by have := hC.size; omega) (fun e => by omega)).trans (f11 h), f12, fun h => absurd ((o2 hL).symm.trans h) (by decide)⟩
  · rintro L act X K0 ⟨v3, v4, v11, v12, v13, v14, v15, v16, v17, v18, v19, v20, v21, q, rfl, hR, hq, hC, hA, o1, o2, o3, f0, f1, f2, f3, f4, f5, f6, f7, f8, f9, f10, f11, f12, f13⟩ hL hd hK
    have d0 := hd ⟨0, .data⟩ (by simp) rfl
    obtain rfl := f0 d0
    have d10 := hd ⟨10, .chain⟩ (by simp) rfl
    obtain ⟨r0, r1, r2, r3⟩ := at_get (hA hL)
    have hA0 := hA hL
    have hc := ((Chg.refl (fun k => k = w.heap.size) X).set (p := ⟨w.heap.size, 0, none⟩) rfl (.slice A n c)).set (p := ⟨w.heap.size, 1, none⟩) rfl (.slice B m e0)
    have hA1 := at_set1 (v := .slice B m e0) (at_set0 (v := .slice A n c) hA0)
    clear hd
    refine ⟨rfl, ?_⟩
    go_simp
    exact hK _ _ ⟨_, _, _, _, _, _, _, _, _, _, _, _, _, q, rfl, fun h => absurd (d10.symm.trans h) (by decide), hq, hC.trans (hc.wide fun k h => .inr h), fun h => (by cases h), o1, o2, o3, f0, f1, f2, f3, f4, f5, f6, f7, f8, f9, f10, fun _ => hA1, f12, f13⟩
  · rintro L act X K0 ⟨v3, v4, v11, v12, v13, v14, v15, v16, v17, v18, v19, v20, v21, q, rfl, hR, hq, hC, hA, o1, o2, o3, f0, f1, f2, f3, f4, f5, f6, f7, f8, f9, f10, f11, f12, f13⟩ hL hd hK
    have d5 := hd ⟨5, .data⟩ (by simp) rfl
    obtain ⟨x, rfl, x1, x2⟩ := f5 d5
    clear hd
    refine ⟨rfl, ?_⟩
    go_simp
    exact hK _ _ ⟨_, _, _, _, _, _, _, _, _, _, _, _, _, q, rfl, hR, hq, hC, hA, fun h => absurd (d5.symm.trans h) (by decide), o2, o3, f0, f1, f2, f3, f4, fun _ => ⟨x, rfl, x1, x2⟩, f6, f7, f8, f9, f10, f11, fun _ => rfl, f13⟩
  · rintro L act X K0 ⟨v3, v4, v11, v12, v13, v14, v15, v16, v17, v18, v19, v20, v21, q, rfl, hR, hq, hC, hA, o1, o2, o3, f0, f1, f2, f3, f4, f5, f6, f7, f8, f9, f10, f11, f12, f13⟩ hL hd hK
    have d10 := hd ⟨10, .data⟩ (by simp) rfl
    obtain ⟨x, rfl, x1, x2⟩ := f10 d10
    clear hd
    refine ⟨rfl, ?_⟩
    go_simp
    exact hK _ _ ⟨_, _, _, _, _, _, _, _, _, _, _, _, _, q, rfl, hR, hq, hC, hA, o1, fun h => absurd (d10.symm.trans h) (by decide), o3, f0, f1, f2, f3, f4, f5, f6, f7, f8, f9, fun _ => ⟨x, rfl, x1, x2⟩, f11, f12, fun _ => rfl⟩
  · rintro L act X hLL ⟨v3, v4, v11, v12, v13, v14, v15, v16, v17, v18, v19, v20, v21, q, rfl, hR, hq, hC, hA, o1, o2, o3, f0, f1, f2, f3, f4, f5, f6, f7, f8, f9, f10, f11, f12, f13⟩
    obtain ⟨x, rfl, x1, x2⟩ := f5 (hLL 5 (by simp))
    obtain ⟨y, rfl, y1, y2⟩ := f10 (hLL 10 (by simp))
    obtain rfl := f12 (hLL 12 (by simp))
    obtain rfl := f13 (hLL 13 (by simp))
    have h6 := f11 (hLL 11 (by simp))
    have hX := hC.size
    have HX := hid hC
    obtain ⟨r0, r1, _, _⟩ := at_get h6
    clear f0 f1 f2 f3 f4 f5 f6 f7 f8 f9 f10 f11 f12 f13 hA o1 o2 o3 hLL hq h6 hR hC
    go_wp2_with fail
    refine ⟨rfl, .tuple #[.agg #[.slice A n c, .slice B m e0], .int .i64 x, .int .i64 y], by simp [results, Try.results45, go_sem, r0, r1], A, n, c, l, B, m, e0, r, x, y, rfl, (DM3.out.chg HX.out (fun k e => by omega)).low (by omega), x1, by omega, y1, by omega, HB1.out.trans ((HC3.out.below (by omega) (fun k e => by omega)).trans (HX.out.below (by omega) (fun k e => by omega)))⟩
end Go.Proofs.Ytfjoininagdlcaa
