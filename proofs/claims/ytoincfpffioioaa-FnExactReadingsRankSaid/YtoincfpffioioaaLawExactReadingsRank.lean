/- The law FnExactReadingsRank returns true for all arguments that can be read. -/
import Derived.Test.YtoincfpffioioaaRank
import Derived.Test.YtoincfpffioioaaModNest
import Derived.Test.YtoincfpffioioaaSzUb
import Derived.Deep.RegionHeld3
namespace Go.Proofs.Ytoincfpffioioaa
open Go.RowKit
set_option maxRecDepth 100000 in
set_option maxHeartbeats 4000000 in
theorem lawExactReadingsRank (A0 : Option Addr) (n0 c0 : Nat) (l0 : List Int) (B0 : Option Addr) (m0 e0 : Nat) (r0 : List (List Int)) (A1 : Option Addr) (n1 c1 : Nat) (l1 : List (List Int)) (A2 : Option Addr) (n2 c2 : Nat) (l2 : List Int) (w : World)
    (h0 : Rd intS 0 w.heap.size w A0 n0 l0) (h0r : Rd (sliceS intS) 0 w.heap.size w B0 m0 r0) (h1 : Rd (sliceS intS) 0 w.heap.size w A1 n1 l1) (h2 : Rd intS 0 w.heap.size w A2 n2 l2) :
    Calls Try.prog 5 #[.agg #[.slice A0 n0 c0, .slice B0 m0 e0], .slice A1 n1 c1, .slice A2 n2 c2] w fun e w' => e = .returned (.bool true) ∧ Below w.heap.size w w' := by
  have L0 := hid h0
  have HN0 := hid h0.1
  have h63_0 := h0.2.1
  have R0 := hid h0r
  have HM0 := hid h0r.1
  have L1 := hid h1
  have HN1 := hid h1.1
  have h63_1 := h1.2.1
  have L2 := hid h2
  have HN2 := hid h2.1
  have h63_2 := h2.2.1
  clear h0 h0r h1 h2
  have b0 := bnew w (.cells #[.slice A0 n0 c0, .slice B0 m0 e0] 25)
  have k0 := heap_alloc_new w (.cells #[.slice A0 n0 c0, .slice B0 m0 e0] 25)
  have BW0 := hid b0
  have KA0 := hid k0
  have z0 : (w.alloc (.cells #[.slice A0 n0 c0, .slice B0 m0 e0] 25)).heap.size = w.heap.size + 1 := by simp
  clear b0 k0
  by_cases hs2 : n2 ≤ 1048576
  case neg =>
    have hs2n : (1048576 : Int) < (n2 : Int) := by omega
    go_enter Try.func5, Try.ntmps5
    go_wp2_with fail
    go_ret
    exact ⟨rfl, BW0.out⟩
  case pos =>
  have hs2n : ¬ (1048576 : Int) < (n2 : Int) := by omega
  obtain ⟨V, hV⟩ : ∃ V, rankV l0 r0 l1 l2 = V := ⟨_, rfl⟩
  have HV := hid hV
  clear hV
  go_enter Try.func5, Try.ntmps5
  have ka1 := (at_get' KA0.out).1
  have ka2 := (at_get' KA0.out).2.1
  go_wp2_with fail
  refine (szModel_any _ _ _ _ _ _ _ _ _ _ _ (L0.out.bl BW0.out) (R0.out.bl BW0.out) (by omega) (by omega)).mono ?_
  rintro e w1 ⟨rfl, hb⟩
  clear ka1 ka2
  have B_1 := hid (btr BW0.out hb)
  have hz_1 := hb.size
  have KA_1 := hid ((hb.block _ (Array.getElem?_eq_some_iff.1 KA0.out).1).trans KA0.out)
  clear hb
  obtain ⟨s0, es0⟩ : ∃ s, szModelN l0 r0 1048576 = s := ⟨_, rfl⟩
  have su0 := szModelN_ub (l := l0) (r := r0) (left := 1048576) (by omega)
  rw [es0] at su0 ⊢
  have ES0 := hid es0
  clear es0
  by_cases sn0 : s0 < 0
  case pos =>
    go_wp2_with fail
    go_ret
    exact ⟨rfl, B_1.out⟩
  case neg =>
  obtain ⟨t1, t2, t3⟩ := szModelN_le (l := l0) (r := r0) (left := 1048576) (by omega) (by have := ES0.out; omega)
  have hn0 : n0 ≤ 1048576 := by have := HN0.out; omega
  have hm0 : m0 ≤ 1048576 := by have := HM0.out; omega
  have S0 := hid (show ∀ x ∈ r0, x.length ≤ 1048576 from fun x hx => by have := t3 x hx; omega)
  have Q0 := hid (szModelN_sum (l := l0) (r := r0) (left := 1048576) (by omega) (by have := ES0.out; omega))
  clear t1 t2 t3
  have ka1 := (at_get' KA_1.out).1
  have ka2 := (at_get' KA_1.out).2.1
  go_wp2_with fail
  refine (szIntSS_any _ _ _ _ _ _ _ (L1.out.bl B_1.out) (by omega) (by omega)).mono ?_
  rintro e w' ⟨rfl, rfl⟩
  clear ka1 ka2
  obtain ⟨s1, es1⟩ : ∃ s, szRows l1 s0 = s := ⟨_, rfl⟩
  have su1 := szRows_ub (rows := l1) (l := s0) (by omega)
  rw [es1] at su1 ⊢
  have ES1 := hid es1
  clear es1
  by_cases sn1 : s1 < 0
  case pos =>
    go_wp2_with fail
    go_ret
    exact ⟨rfl, B_1.out⟩
  case neg =>
  obtain ⟨t1, t2⟩ := szRows_le (rows := l1) (l := s0) (by omega) (by have := ES1.out; omega)
  have hn1 : n1 ≤ 1048576 := by have := HN1.out; omega
  have S1 := hid (show ∀ x ∈ l1, x.length ≤ 1048576 from fun x hx => by have := t2 x hx; omega)
  have Q1 := hid (szRows_sum (rows := l1) (l := s0) (by omega) (by have := ES1.out; omega))
  clear t1 t2
  have ka1 := (at_get' KA_1.out).1
  have ka2 := (at_get' KA_1.out).2.1
  go_wp2_with fail
  refine (toModel_any _ _ _ _ _ _ _ _ _ _ (L0.out.bl B_1.out) (R0.out.bl B_1.out) hn0 hm0 S0.out).mono ?_
  rintro e w2 ⟨gs0, fs0, rfl, y1, y2, hb⟩
  clear ka1 ka2
  have B_2 := hid (btr B_1.out hb)
  have hz_2 := hb.size
  have KA_2 := hid ((hb.block _ (Array.getElem?_eq_some_iff.1 KA_1.out).1).trans KA_1.out)
  have Xs0 := hid (y1.wide (lo' := 0) (Nat.zero_le _) (Nat.le_refl _))
  have Ys0 := hid (y2.wide (lo' := 0) (Nat.zero_le _) (Nat.le_refl _))
  clear hb y1 y2
  have ka1 := (at_get' KA_2.out).1
  have ka2 := (at_get' KA_2.out).2.1
  go_wp2_with fail
  refine (toIntSS_any _ _ _ _ _ _ (L1.out.bl B_2.out) hn1 S1.out).mono ?_
  rintro e w3 ⟨gs1, rfl, y1, hb⟩
  clear ka1 ka2
  have B_3 := hid (btr B_2.out hb)
  have hz_3 := hb.size
  have KA_3 := hid ((hb.block _ (Array.getElem?_eq_some_iff.1 KA_2.out).1).trans KA_2.out)
  have Xs0_3 := hid (Xs0.out.bl hb)
  have Ys0_3 := hid (Ys0.out.bl hb)
  have Xs1 := hid (y1.wide (lo' := 0) (Nat.zero_le _) (Nat.le_refl _))
  clear hb y1
  have ka1 := (at_get' KA_3.out).1
  have ka2 := (at_get' KA_3.out).2.1
  go_wp2_with fail
  refine (toIntS_any _ _ _ _ _ _ (L2.out.bl B_3.out) hs2).mono ?_
  rintro e w4 ⟨gs2, rfl, y1, hb⟩
  clear ka1 ka2
  have B_4 := hid (btr B_3.out hb)
  have hz_4 := hb.size
  have KA_4 := hid ((hb.block _ (Array.getElem?_eq_some_iff.1 KA_3.out).1).trans KA_3.out)
  have Xs0_4 := hid (Xs0_3.out.bl hb)
  have Ys0_4 := hid (Ys0_3.out.bl hb)
  have Xs1_4 := hid (Xs1.out.bl hb)
  have Xs2 := hid (y1.wide (lo' := 0) (Nat.zero_le _) (Nat.le_refl _))
  clear hb y1
  have ka1 := (at_get' KA_4.out).1
  have ka2 := (at_get' KA_4.out).2.1
  go_wp2_with fail
  refine (specReadingsRank_any _ _ _ _ _ _ _ _ _ _ _ _ 0 _ _ _ _ _ (Xs0_4.out) (Ys0_4.out) (Xs1_4.out) (Xs2.out)).mono ?_
  intro e w5 hres
  rw [HV.out] at hres
  obtain ⟨rfl, hb⟩ := hres
  clear ka1 ka2
  have B_5 := hid (btr B_4.out hb)
  have hz_5 := hb.size
  have KA_5 := hid ((hb.block _ (Array.getElem?_eq_some_iff.1 KA_4.out).1).trans KA_4.out)
  have Xs0_5 := hid (Xs0_4.out.bl hb)
  have Ys0_5 := hid (Ys0_4.out.bl hb)
  have Xs1_5 := hid (Xs1_4.out.bl hb)
  have Xs2_5 := hid (Xs2.out.bl hb)
  clear hb
  have ka1 := (at_get' KA_5.out).1
  have ka2 := (at_get' KA_5.out).2.1
  go_wp2_with fail
  refine (toModel_nest _ _ _ _ _ _ _ _ _ _ (L0.out.bl B_5.out) (R0.out.bl B_5.out) hn0 hm0 S0.out).mono ?_
  rintro e w6 ⟨g0, f0, k0, rs0, rfl, y1, hg0, hk0, y2, y3, hb⟩
  clear ka1 ka2
  have B_6 := hid (btr B_5.out hb)
  have hz_6 := hb.size
  have KA_6 := hid ((hb.block _ (Array.getElem?_eq_some_iff.1 KA_5.out).1).trans KA_5.out)
  have G0 := hid y1
  have N0 := hid y2
  have E0 := hid y3
  have hgl0 := y1.lt
  clear hb y1 y2 y3
  have hb := bnew w6 (.cells #[.slice (some ⟨g0, 0, none⟩) n0 n0, .slice (some ⟨f0, 0, none⟩) m0 m0] 29)
  have kx := heap_alloc_new w6 (.cells #[.slice (some ⟨g0, 0, none⟩) n0 n0, .slice (some ⟨f0, 0, none⟩) m0 m0] 29)
  have zx : (w6.alloc (.cells #[.slice (some ⟨g0, 0, none⟩) n0 n0, .slice (some ⟨f0, 0, none⟩) m0 m0] 29)).heap.size = w6.heap.size + 1 := by simp
  have ka1 := (at_get' KA_6.out).1
  have ka2 := (at_get' KA_6.out).2.1
  go_wp2_with fail
  clear ka1 ka2
  have B_7 := hid (btr B_6.out hb)
  have hz_7 := hb.size
  have KA_7 := hid ((hb.block _ (Array.getElem?_eq_some_iff.1 KA_6.out).1).trans KA_6.out)
  have G0_7 := hid (G0.out.kept (hb.block _ G0.out.lt))
  have N0_7 := hid (N0.out.bl hb)
  have KX := hid kx
  clear hb kx
  generalize w6.alloc (.cells #[.slice (some ⟨g0, 0, none⟩) n0 n0, .slice (some ⟨f0, 0, none⟩) m0 m0] 29) = w7 at *
  have ka1 := (at_get' KA_7.out).1
  have ka2 := (at_get' KA_7.out).2.1
  have kx1 := (at_get' KX.out).1
  have kx2 := (at_get' KX.out).2.1
  go_wp2_with fail
  refine (toIntSS_nest _ _ _ _ _ _ (L1.out.bl B_7.out) hn1 S1.out).mono ?_
  rintro e w8 ⟨g1, rs1, rfl, y2, y3, hb⟩
  clear ka1 ka2 kx1 kx2
  have B_8 := hid (btr B_7.out hb)
  have hz_8 := hb.size
  have KA_8 := hid ((hb.block _ (Array.getElem?_eq_some_iff.1 KA_7.out).1).trans KA_7.out)
  have KX_8 := hid ((hb.block _ (Array.getElem?_eq_some_iff.1 KX.out).1).trans KX.out)
  have G0_8 := hid (G0_7.out.kept (hb.block _ G0_7.out.lt))
  have N0_8 := hid (N0_7.out.bl hb)
  have N1 := hid y2
  have E1 := hid y3
  clear hb y2 y3
  have ka1 := (at_get' KA_8.out).1
  have ka2 := (at_get' KA_8.out).2.1
  have kx1 := (at_get' KX_8.out).1
  have kx2 := (at_get' KX_8.out).2.1
  go_wp2_with fail
  refine (toIntS_row _ _ _ _ _ _ (L2.out.bl B_8.out) hs2).mono ?_
  rintro e w9 ⟨g2, rfl, y1, hg2, hb⟩
  clear ka1 ka2 kx1 kx2
  have B_9 := hid (btr B_8.out hb)
  have hz_9 := hb.size
  have KA_9 := hid ((hb.block _ (Array.getElem?_eq_some_iff.1 KA_8.out).1).trans KA_8.out)
  have KX_9 := hid ((hb.block _ (Array.getElem?_eq_some_iff.1 KX_8.out).1).trans KX_8.out)
  have G0_9 := hid (G0_8.out.kept (hb.block _ G0_8.out.lt))
  have N0_9 := hid (N0_8.out.bl hb)
  have N1_9 := hid (N1.out.bl hb)
  have G2 := hid y1
  have hgl2 := y1.lt
  clear hb y1
  have ka1 := (at_get' KA_9.out).1
  have ka2 := (at_get' KA_9.out).2.1
  have kx1 := (at_get' KX_9.out).1
  have kx2 := (at_get' KX_9.out).2.1
  go_wp2_with fail
  refine (implReadingsRank_any _ _ _ _ _ _ _ _ _ _ _ _ _ _ _ _ _ (G0_9.out.rd0 HN0.out) (N0_9.out.rd0 E0.out (by have := HM0.out; omega)) (N1_9.out.rd0 E1.out (by have := HN1.out; omega)) (G2.out.rd0 HN2.out) (Nat.le_refl _)).mono ?_
  intro e w10 hres
  rw [HV.out] at hres
  obtain ⟨rfl, hb⟩ := hres
  clear ka1 ka2 kx1 kx2
  have B_10 := hid (btr B_9.out hb)
  have hz_10 := hb.size
  have KA_10 := hid ((hb.block _ (Array.getElem?_eq_some_iff.1 KA_9.out).1).trans KA_9.out)
  have KX_10 := hid ((hb.block _ (Array.getElem?_eq_some_iff.1 KX_9.out).1).trans KX_9.out)
  have G0_10 := hid (G0_9.out.kept (hb.block _ G0_9.out.lt))
  have N0_10 := hid (N0_9.out.bl hb)
  have N1_10 := hid (N1_9.out.bl hb)
  have G2_10 := hid (G2.out.kept (hb.block _ G2.out.lt))
  clear hb
  have hvv : (V != V) = false := by simp
  have ka1 := (at_get' KA_10.out).1
  have ka2 := (at_get' KA_10.out).2.1
  have kx1 := (at_get' KX_10.out).1
  have kx2 := (at_get' KX_10.out).2.1
  go_wp2_with fail
  have fka1 := fun w' (h : Below w10.heap.size w10 w') => bcl h ka1
  have fka2 := fun w' (h : Below w10.heap.size w10 w') => bcl h ka2
  have fkx1 := fun w' (h : Below w10.heap.size w10 w') => bcl h kx1
  have fkx2 := fun w' (h : Below w10.heap.size w10 w') => bcl h kx2
  go_region_held3 (fun w' => Below w10.heap.size w10 w') (first | assumption | exact (Below.refl _ _).drew) (first
    | (go_at_call 13; refine (toModel_any _ _ _ _ _ _ _ _ _ _ (L0.out.bl (btr B_10.out (bdr _))) (R0.out.bl (btr B_10.out (bdr _))) hn0 hm0 S0.out).mono ?_; rintro e w11 ⟨ga, ha, rfl, pa, qa, ba⟩; have bb : Below w10.heap.size w10 w11 := btr (bdr _) ba)
    | (go_at_call 16; refine (eqModel_any _ _ _ _ _ _ _ _ _ _ _ _ _ _ _ _ _ _ _ ((G0_10.out.rd0 HN0.out).bl (btr (bdr _) ba)) ((N0_10.out.rd0 E0.out (by have := HM0.out; omega)).bl (btr (bdr _) ba)) pa qa).mono ?_; rintro e w12 ⟨rfl, bc⟩; have hb : Below w10.heap.size w10 w12 := btr (btr (bdr _) ba) bc))
  simp only [eqD_self, Bool.and_self, Bool.not_true]
  clear ka1 ka2 kx1 kx2
  clear fka1 fka2 fkx1 fkx2 ba bb bc pa qa
  have B_11 := hid (btr B_10.out hb)
  have hz_11 := hb.size
  have KA_11 := hid ((hb.block _ (Array.getElem?_eq_some_iff.1 KA_10.out).1).trans KA_10.out)
  have KX_11 := hid ((hb.block _ (Array.getElem?_eq_some_iff.1 KX_10.out).1).trans KX_10.out)
  have G0_11 := hid (G0_10.out.kept (hb.block _ G0_10.out.lt))
  have N0_11 := hid (N0_10.out.bl hb)
  have N1_11 := hid (N1_10.out.bl hb)
  have G2_11 := hid (G2_10.out.kept (hb.block _ G2_10.out.lt))
  clear hb
  have ka1 := (at_get' KA_11.out).1
  have ka2 := (at_get' KA_11.out).2.1
  have kx1 := (at_get' KX_11.out).1
  have kx2 := (at_get' KX_11.out).2.1
  go_wp2_with fail
  refine (toIntSS_any _ _ _ _ _ _ (L1.out.bl B_11.out) hn1 S1.out).mono ?_
  rintro e w13 ⟨gz1, rfl, y1, hb⟩
  clear ka1 ka2 kx1 kx2
  have B_12 := hid (btr B_11.out hb)
  have hz_12 := hb.size
  have KA_12 := hid ((hb.block _ (Array.getElem?_eq_some_iff.1 KA_11.out).1).trans KA_11.out)
  have KX_12 := hid ((hb.block _ (Array.getElem?_eq_some_iff.1 KX_11.out).1).trans KX_11.out)
  have G0_12 := hid (G0_11.out.kept (hb.block _ G0_11.out.lt))
  have N0_12 := hid (N0_11.out.bl hb)
  have N1_12 := hid (N1_11.out.bl hb)
  have G2_12 := hid (G2_11.out.kept (hb.block _ G2_11.out.lt))
  have Z1 := hid y1
  clear hb y1
  have ka1 := (at_get' KA_12.out).1
  have ka2 := (at_get' KA_12.out).2.1
  have kx1 := (at_get' KX_12.out).1
  have kx2 := (at_get' KX_12.out).2.1
  go_wp2_with fail
  refine (eqIntSS_any _ _ _ _ _ _ _ _ _ _ _ (N1_12.out.rd0 E1.out (by have := HN1.out; omega)) Z1.out).mono ?_
  rintro e w14 ⟨rfl, hb⟩
  clear ka1 ka2 kx1 kx2
  rw [eqD_self]
  have B_13 := hid (btr B_12.out hb)
  have hz_13 := hb.size
  have KA_13 := hid ((hb.block _ (Array.getElem?_eq_some_iff.1 KA_12.out).1).trans KA_12.out)
  have KX_13 := hid ((hb.block _ (Array.getElem?_eq_some_iff.1 KX_12.out).1).trans KX_12.out)
  have G0_13 := hid (G0_12.out.kept (hb.block _ G0_12.out.lt))
  have N0_13 := hid (N0_12.out.bl hb)
  have N1_13 := hid (N1_12.out.bl hb)
  have G2_13 := hid (G2_12.out.kept (hb.block _ G2_12.out.lt))
  have Z1_13 := hid (Z1.out.bl hb)
  clear hb
  have ka1 := (at_get' KA_13.out).1
  have ka2 := (at_get' KA_13.out).2.1
  have kx1 := (at_get' KX_13.out).1
  have kx2 := (at_get' KX_13.out).2.1
  go_wp2_with fail
  refine (toIntS_any _ _ _ _ _ _ (L2.out.bl B_13.out) hs2).mono ?_
  rintro e w15 ⟨gz2, rfl, y1, hb⟩
  clear ka1 ka2 kx1 kx2
  have B_14 := hid (btr B_13.out hb)
  have hz_14 := hb.size
  have KA_14 := hid ((hb.block _ (Array.getElem?_eq_some_iff.1 KA_13.out).1).trans KA_13.out)
  have KX_14 := hid ((hb.block _ (Array.getElem?_eq_some_iff.1 KX_13.out).1).trans KX_13.out)
  have G0_14 := hid (G0_13.out.kept (hb.block _ G0_13.out.lt))
  have N0_14 := hid (N0_13.out.bl hb)
  have N1_14 := hid (N1_13.out.bl hb)
  have G2_14 := hid (G2_13.out.kept (hb.block _ G2_13.out.lt))
  have Z2 := hid y1
  clear hb y1
  have ka1 := (at_get' KA_14.out).1
  have ka2 := (at_get' KA_14.out).2.1
  have kx1 := (at_get' KX_14.out).1
  have kx2 := (at_get' KX_14.out).2.1
  go_wp2_with fail
  refine (eqIntS_any _ _ _ _ _ _ _ _ _ _ _ (G2_14.out.rd0 HN2.out) Z2.out).mono ?_
  rintro e w16 ⟨rfl, hb⟩
  clear ka1 ka2 kx1 kx2
  rw [eqD_self]
  have B_15 := hid (btr B_14.out hb)
  have hz_15 := hb.size
  have KA_15 := hid ((hb.block _ (Array.getElem?_eq_some_iff.1 KA_14.out).1).trans KA_14.out)
  have KX_15 := hid ((hb.block _ (Array.getElem?_eq_some_iff.1 KX_14.out).1).trans KX_14.out)
  have G0_15 := hid (G0_14.out.kept (hb.block _ G0_14.out.lt))
  have N0_15 := hid (N0_14.out.bl hb)
  have N1_15 := hid (N1_14.out.bl hb)
  have G2_15 := hid (G2_14.out.kept (hb.block _ G2_14.out.lt))
  have Z2_15 := hid (Z2.out.bl hb)
  clear hb
  have ka1 := (at_get' KA_15.out).1
  have ka2 := (at_get' KA_15.out).2.1
  have kx1 := (at_get' KX_15.out).1
  have kx2 := (at_get' KX_15.out).2.1
  go_wp2_with fail
  go_ret
  exact ⟨rfl, B_15.out⟩
end Go.Proofs.Ytoincfpffioioaa
