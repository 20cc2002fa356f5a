/- The law FnExactPageSure returns true for all arguments that can be read. -/
import Derived.Test.YtoincfpffioioaaSure
import Derived.Test.YtoincfpffioioaaModNest
import Derived.Test.YtoincfpffioioaaSzUb
import Derived.Deep.RegionHeld3
namespace Go.Proofs.Ytoincfpffioioaa
open Go.RowKit
set_option maxRecDepth 100000 in
set_option maxHeartbeats 4000000 in
theorem lawExactPageSure (A0 : Option Addr) (n0 c0 : Nat) (l0 : List Int) (B0 : Option Addr) (m0 e0 : Nat) (r0 : List (List Int)) (A1 : Option Addr) (n1 c1 : Nat) (l1 : List (List Int)) (w : World)
    (h0 : Rd intS 0 w.heap.size w A0 n0 l0) (h0r : Rd (sliceS intS) 0 w.heap.size w B0 m0 r0) (h1 : Rd (sliceS intS) 0 w.heap.size w A1 n1 l1) :
    Calls Try.prog 8 #[.agg #[.slice A0 n0 c0, .slice B0 m0 e0], .slice A1 n1 c1] w fun e w' => e = .returned (.bool true) ∧ Below w.heap.size w w' := by
  have L0 := hid h0
  have HN0 := hid h0.1
  have h63_0 := h0.2.1
  have R0 := hid h0r
  have HM0 := hid h0r.1
  have L1 := hid h1
  have HN1 := hid h1.1
  have h63_1 := h1.2.1
  clear h0 h0r h1
  have b0 := bnew w (.cells #[.slice A0 n0 c0, .slice B0 m0 e0] 25)
  have k0 := heap_alloc_new w (.cells #[.slice A0 n0 c0, .slice B0 m0 e0] 25)
  have BW0 := hid b0
  have KA0 := hid k0
  have z0 : (w.alloc (.cells #[.slice A0 n0 c0, .slice B0 m0 e0] 25)).heap.size = w.heap.size + 1 := by simp
  clear b0 k0
  obtain ⟨xs, hV⟩ : ∃ xs : List Int, sureV l0 r0 l1 = xs := ⟨_, rfl⟩
  have hxl : xs.length ≤ 1048576 := by rw [← hV]; exact sureV_len l0 r0 l1
  have HV := hid hV
  clear hV
  go_enter Try.func8, Try.ntmps8
  have ka1 := (at_get' KA0.out).1
  have ka2 := (at_get' KA0.out).2.1
  go_wp2_with fail
  refine (szModel_any _ _ _ _ _ _ _ _ _ _ _ (L0.out.bl BW0.out) (R0.out.bl BW0.out) (by omega) (by omega)).mono ?_
  rintro e w1 ⟨rfl, hb⟩
  clear ka1 ka2
  have B_1 := hid (btr BW0.out hb)
  have hz_1 := hb.size
  have KA_1 := hid ((hb.block _ (Array.getElem?_eq_some_iff.1 KA0.out).1).trans KA0.out)
  clear hb
  obtain ⟨s0, es0⟩ : ∃ s, szModelN l0 r0 1048576 = s := ⟨_, rfl⟩
  have su0 := szModelN_ub (l := l0) (r := r0) (left := 1048576) (by omega)
  rw [es0] at su0 ⊢
  have ES0 := hid es0
  clear es0
  by_cases sn0 : s0 < 0
  case pos =>
    go_wp2_with fail
    go_ret
    exact ⟨rfl, B_1.out⟩
  case neg =>
  obtain ⟨t1, t2, t3⟩ := szModelN_le (l := l0) (r := r0) (left := 1048576) (by omega) (by have := ES0.out; omega)
  have hn0 : n0 ≤ 1048576 := by have := HN0.out; omega
  have hm0 : m0 ≤ 1048576 := by have := HM0.out; omega
  have S0 := hid (show ∀ x ∈ r0, x.length ≤ 1048576 from fun x hx => by have := t3 x hx; omega)
  have Q0 := hid (szModelN_sum (l := l0) (r := r0) (left := 1048576) (by omega) (by have := ES0.out; omega))
  clear t1 t2 t3
  have ka1 := (at_get' KA_1.out).1
  have ka2 := (at_get' KA_1.out).2.1
  go_wp2_with fail
  refine (szIntSS_any _ _ _ _ _ _ _ (L1.out.bl B_1.out) (by omega) (by omega)).mono ?_
  rintro e w' ⟨rfl, rfl⟩
  clear ka1 ka2
  obtain ⟨s1, es1⟩ : ∃ s, szRows l1 s0 = s := ⟨_, rfl⟩
  have su1 := szRows_ub (rows := l1) (l := s0) (by omega)
  rw [es1] at su1 ⊢
  have ES1 := hid es1
  clear es1
  by_cases sn1 : s1 < 0
  case pos =>
    go_wp2_with fail
    go_ret
    exact ⟨rfl, B_1.out⟩
  case neg =>
  obtain ⟨t1, t2⟩ := szRows_le (rows := l1) (l := s0) (by omega) (by have := ES1.out; omega)
  have hn1 : n1 ≤ 1048576 := by have := HN1.out; omega
  have S1 := hid (show ∀ x ∈ l1, x.length ≤ 1048576 from fun x hx => by have := t2 x hx; omega)
  have Q1 := hid (szRows_sum (rows := l1) (l := s0) (by omega) (by have := ES1.out; omega))
  clear t1 t2
  have ka1 := (at_get' KA_1.out).1
  have ka2 := (at_get' KA_1.out).2.1
  go_wp2_with fail
  refine (toModel_any _ _ _ _ _ _ _ _ _ _ (L0.out.bl B_1.out) (R0.out.bl B_1.out) hn0 hm0 S0.out).mono ?_
  rintro e w2 ⟨gs0, fs0, rfl, y1, y2, hb⟩
  clear ka1 ka2
  have B_2 := hid (btr B_1.out hb)
  have hz_2 := hb.size
  have KA_2 := hid ((hb.block _ (Array.getElem?_eq_some_iff.1 KA_1.out).1).trans KA_1.out)
  have Xs0 := hid (y1.wide (lo' := 0) (Nat.zero_le _) (Nat.le_refl _))
  have Ys0 := hid (y2.wide (lo' := 0) (Nat.zero_le _) (Nat.le_refl _))
  clear hb y1 y2
  have ka1 := (at_get' KA_2.out).1
  have ka2 := (at_get' KA_2.out).2.1
  go_wp2_with fail
  refine (toIntSS_any _ _ _ _ _ _ (L1.out.bl B_2.out) hn1 S1.out).mono ?_
  rintro e w3 ⟨gs1, rfl, y1, hb⟩
  clear ka1 ka2
  have B_3 := hid (btr B_2.out hb)
  have hz_3 := hb.size
  have KA_3 := hid ((hb.block _ (Array.getElem?_eq_some_iff.1 KA_2.out).1).trans KA_2.out)
  have Xs0_3 := hid (Xs0.out.bl hb)
  have Ys0_3 := hid (Ys0.out.bl hb)
  have Xs1 := hid (y1.wide (lo' := 0) (Nat.zero_le _) (Nat.le_refl _))
  clear hb y1
  have ka1 := (at_get' KA_3.out).1
  have ka2 := (at_get' KA_3.out).2.1
  go_wp2_with fail
  refine (specPageSure_any _ _ _ _ _ _ _ _ _ 0 _ _ _ _ (Xs0_3.out) (Ys0_3.out) (Xs1.out)).mono ?_
  intro e w4 hres
  unfold RetI at hres
  rw [HV.out] at hres
  obtain ⟨DS, dS, rfl, y1, hb⟩ := hres
  clear ka1 ka2
  have B_4 := hid (btr B_3.out hb)
  have hz_4 := hb.size
  have KA_4 := hid ((hb.block _ (Array.getElem?_eq_some_iff.1 KA_3.out).1).trans KA_3.out)
  have Xs0_4 := hid (Xs0_3.out.bl hb)
  have Ys0_4 := hid (Ys0_3.out.bl hb)
  have Xs1_4 := hid (Xs1.out.bl hb)
  have OS := hid y1
  have US := hid fun k (hk : (Value.slice DS xs.length dS).ownBlock = some k) => (y1.own_lt hk).2
  clear hb y1
  have ka1 := (at_get' KA_4.out).1
  have ka2 := (at_get' KA_4.out).2.1
  go_wp2_with fail
  refine (toModel_nest _ _ _ _ _ _ _ _ _ _ (L0.out.bl B_4.out) (R0.out.bl B_4.out) hn0 hm0 S0.out).mono ?_
  rintro e w5 ⟨g0, f0, k0, rs0, rfl, y1, hg0, hk0, y2, y3, hb⟩
  clear ka1 ka2
  have B_5 := hid (btr B_4.out hb)
  have hz_5 := hb.size
  have KA_5 := hid ((hb.block _ (Array.getElem?_eq_some_iff.1 KA_4.out).1).trans KA_4.out)
  have OS_5 := hid (OS.out.bl hb)
  have G0 := hid y1
  have N0 := hid y2
  have E0 := hid y3
  have hgl0 := y1.lt
  clear hb y1 y2 y3
  have hb := bnew w5 (.cells #[.slice (some ⟨g0, 0, none⟩) n0 n0, .slice (some ⟨f0, 0, none⟩) m0 m0] 29)
  have kx := heap_alloc_new w5 (.cells #[.slice (some ⟨g0, 0, none⟩) n0 n0, .slice (some ⟨f0, 0, none⟩) m0 m0] 29)
  have zx : (w5.alloc (.cells #[.slice (some ⟨g0, 0, none⟩) n0 n0, .slice (some ⟨f0, 0, none⟩) m0 m0] 29)).heap.size = w5.heap.size + 1 := by simp
  have ka1 := (at_get' KA_5.out).1
  have ka2 := (at_get' KA_5.out).2.1
  go_wp2_with fail
  clear ka1 ka2
  have B_6 := hid (btr B_5.out hb)
  have hz_6 := hb.size
  have KA_6 := hid ((hb.block _ (Array.getElem?_eq_some_iff.1 KA_5.out).1).trans KA_5.out)
  have OS_6 := hid (OS_5.out.bl hb)
  have G0_6 := hid (G0.out.kept (hb.block _ G0.out.lt))
  have N0_6 := hid (N0.out.bl hb)
  have KX := hid kx
  clear hb kx
  generalize w5.alloc (.cells #[.slice (some ⟨g0, 0, none⟩) n0 n0, .slice (some ⟨f0, 0, none⟩) m0 m0] 29) = w6 at *
  have ka1 := (at_get' KA_6.out).1
  have ka2 := (at_get' KA_6.out).2.1
  have kx1 := (at_get' KX.out).1
  have kx2 := (at_get' KX.out).2.1
  go_wp2_with fail
  refine (toIntSS_nest _ _ _ _ _ _ (L1.out.bl B_6.out) hn1 S1.out).mono ?_
  rintro e w7 ⟨g1, rs1, rfl, y2, y3, hb⟩
  clear ka1 ka2 kx1 kx2
  have B_7 := hid (btr B_6.out hb)
  have hz_7 := hb.size
  have KA_7 := hid ((hb.block _ (Array.getElem?_eq_some_iff.1 KA_6.out).1).trans KA_6.out)
  have KX_7 := hid ((hb.block _ (Array.getElem?_eq_some_iff.1 KX.out).1).trans KX.out)
  have OS_7 := hid (OS_6.out.bl hb)
  have G0_7 := hid (G0_6.out.kept (hb.block _ G0_6.out.lt))
  have N0_7 := hid (N0_6.out.bl hb)
  have N1 := hid y2
  have E1 := hid y3
  clear hb y2 y3
  have ka1 := (at_get' KA_7.out).1
  have ka2 := (at_get' KA_7.out).2.1
  have kx1 := (at_get' KX_7.out).1
  have kx2 := (at_get' KX_7.out).2.1
  go_wp2_with fail
  refine (implPageSure_any _ _ _ _ _ _ _ _ _ _ _ _ _ (G0_7.out.rd0 HN0.out) (N0_7.out.rd0 E0.out (by have := HM0.out; omega)) (N1.out.rd0 E1.out (by have := HN1.out; omega))).mono ?_
  intro e w8 hres
  unfold RetI at hres
  rw [HV.out] at hres
  obtain ⟨DG, dG, rfl, y1, hb⟩ := hres
  clear ka1 ka2 kx1 kx2
  have B_8 := hid (btr B_7.out hb)
  have hz_8 := hb.size
  have KA_8 := hid ((hb.block _ (Array.getElem?_eq_some_iff.1 KA_7.out).1).trans KA_7.out)
  have KX_8 := hid ((hb.block _ (Array.getElem?_eq_some_iff.1 KX_7.out).1).trans KX_7.out)
  have OS_8 := hid (OS_7.out.bl hb)
  have G0_8 := hid (G0_7.out.kept (hb.block _ G0_7.out.lt))
  have N0_8 := hid (N0_7.out.bl hb)
  have N1_8 := hid (N1.out.bl hb)
  have OG := hid y1
  have UG := hid fun k (hk : (Value.slice DG xs.length dG).ownBlock = some k) => (y1.own_lt hk).2
  clear hb y1
  have ka1 := (at_get' KA_8.out).1
  have ka2 := (at_get' KA_8.out).2.1
  have kx1 := (at_get' KX_8.out).1
  have kx2 := (at_get' KX_8.out).2.1
  go_wp2_with fail
  refine (eqIntS_any _ _ _ _ _ _ _ _ _ _ _ ((OG.out.rd (by omega)).2) ((OS_8.out.rd (by omega)).2)).mono ?_
  rintro e w9 ⟨rfl, hb⟩
  clear ka1 ka2 kx1 kx2
  rw [eqD_self]
  have B_9 := hid (btr B_8.out hb)
  have hz_9 := hb.size
  have KA_9 := hid ((hb.block _ (Array.getElem?_eq_some_iff.1 KA_8.out).1).trans KA_8.out)
  have KX_9 := hid ((hb.block _ (Array.getElem?_eq_some_iff.1 KX_8.out).1).trans KX_8.out)
  have OS_9 := hid (OS_8.out.bl hb)
  have G0_9 := hid (G0_8.out.kept (hb.block _ G0_8.out.lt))
  have N0_9 := hid (N0_8.out.bl hb)
  have N1_9 := hid (N1_8.out.bl hb)
  have OG_9 := hid (OG.out.bl hb)
  clear hb
  have ka1 := (at_get' KA_9.out).1
  have ka2 := (at_get' KA_9.out).2.1
  have kx1 := (at_get' KX_9.out).1
  have kx2 := (at_get' KX_9.out).2.1
  go_wp2_with fail
  have fka1 := fun w' (h : Below w9.heap.size w9 w') => bcl h ka1
  have fka2 := fun w' (h : Below w9.heap.size w9 w') => bcl h ka2
  have fkx1 := fun w' (h : Below w9.heap.size w9 w') => bcl h kx1
  have fkx2 := fun w' (h : Below w9.heap.size w9 w') => bcl h kx2
  go_region_held3 (fun w' => Below w9.heap.size w9 w') (first | assumption | exact (Below.refl _ _).drew) (first
    | (go_at_call 13; refine (toModel_any _ _ _ _ _ _ _ _ _ _ (L0.out.bl (btr B_9.out (bdr _))) (R0.out.bl (btr B_9.out (bdr _))) hn0 hm0 S0.out).mono ?_; rintro e w10 ⟨ga, ha, rfl, pa, qa, ba⟩; have bb : Below w9.heap.size w9 w10 := btr (bdr _) ba)
    | (go_at_call 16; refine (eqModel_any _ _ _ _ _ _ _ _ _ _ _ _ _ _ _ _ _ _ _ ((G0_9.out.rd0 HN0.out).bl (btr (bdr _) ba)) ((N0_9.out.rd0 E0.out (by have := HM0.out; omega)).bl (btr (bdr _) ba)) pa qa).mono ?_; rintro e w11 ⟨rfl, bc⟩; have hb : Below w9.heap.size w9 w11 := btr (btr (bdr _) ba) bc))
  simp only [eqD_self, Bool.and_self, Bool.not_true]
  clear ka1 ka2 kx1 kx2
  clear fka1 fka2 fkx1 fkx2 ba bb bc pa qa
  have B_10 := hid (btr B_9.out hb)
  have hz_10 := hb.size
  have KA_10 := hid ((hb.block _ (Array.getElem?_eq_some_iff.1 KA_9.out).1).trans KA_9.out)
  have KX_10 := hid ((hb.block _ (Array.getElem?_eq_some_iff.1 KX_9.out).1).trans KX_9.out)
  have OS_10 := hid (OS_9.out.bl hb)
  have G0_10 := hid (G0_9.out.kept (hb.block _ G0_9.out.lt))
  have N0_10 := hid (N0_9.out.bl hb)
  have N1_10 := hid (N1_9.out.bl hb)
  have OG_10 := hid (OG_9.out.bl hb)
  clear hb
  have ka1 := (at_get' KA_10.out).1
  have ka2 := (at_get' KA_10.out).2.1
  have kx1 := (at_get' KX_10.out).1
  have kx2 := (at_get' KX_10.out).2.1
  go_wp2_with fail
  refine (toIntSS_any _ _ _ _ _ _ (L1.out.bl B_10.out) hn1 S1.out).mono ?_
  rintro e w12 ⟨gz1, rfl, y1, hb⟩
  clear ka1 ka2 kx1 kx2
  have B_11 := hid (btr B_10.out hb)
  have hz_11 := hb.size
  have KA_11 := hid ((hb.block _ (Array.getElem?_eq_some_iff.1 KA_10.out).1).trans KA_10.out)
  have KX_11 := hid ((hb.block _ (Array.getElem?_eq_some_iff.1 KX_10.out).1).trans KX_10.out)
  have OS_11 := hid (OS_10.out.bl hb)
  have G0_11 := hid (G0_10.out.kept (hb.block _ G0_10.out.lt))
  have N0_11 := hid (N0_10.out.bl hb)
  have N1_11 := hid (N1_10.out.bl hb)
  have OG_11 := hid (OG_10.out.bl hb)
  have Z1 := hid y1
  clear hb y1
  have ka1 := (at_get' KA_11.out).1
  have ka2 := (at_get' KA_11.out).2.1
  have kx1 := (at_get' KX_11.out).1
  have kx2 := (at_get' KX_11.out).2.1
  go_wp2_with fail
  refine (eqIntSS_any _ _ _ _ _ _ _ _ _ _ _ (N1_11.out.rd0 E1.out (by have := HN1.out; omega)) Z1.out).mono ?_
  rintro e w13 ⟨rfl, hb⟩
  clear ka1 ka2 kx1 kx2
  rw [eqD_self]
  have B_12 := hid (btr B_11.out hb)
  have hz_12 := hb.size
  have KA_12 := hid ((hb.block _ (Array.getElem?_eq_some_iff.1 KA_11.out).1).trans KA_11.out)
  have KX_12 := hid ((hb.block _ (Array.getElem?_eq_some_iff.1 KX_11.out).1).trans KX_11.out)
  have OS_12 := hid (OS_11.out.bl hb)
  have G0_12 := hid (G0_11.out.kept (hb.block _ G0_11.out.lt))
  have N0_12 := hid (N0_11.out.bl hb)
  have N1_12 := hid (N1_11.out.bl hb)
  have OG_12 := hid (OG_11.out.bl hb)
  have Z1_12 := hid (Z1.out.bl hb)
  clear hb
  have ls0 : sumLen (lensR rs0) ≤ 1048576 := by rw [lensR_of E0.out]; have := Q0.out; omega
  have lr0 : rs0.length ≤ 1048576 := by have h1 := congrArg List.length E0.out; rw [List.length_map] at h1; have := HM0.out; omega
  have HLN0 := hid (rows_le E0.out S0.out)
  have ka1 := (at_get' KA_12.out).1
  have ka2 := (at_get' KA_12.out).2.1
  have kx1 := (at_get' KX_12.out).1
  have kx2 := (at_get' KX_12.out).2.1
  go_wp2_with fail
  refine (markModel_any g0 f0 k0 n0 m0 l0 rs0 1 _ _ G0_12.out hk0 N0_12.out HN0.out hn0 lr0 (by omega) HLN0.out (by omega) (by omega)).mono ?_
  rintro e w14 ⟨rfl, hc⟩
  clear ka1 ka2 kx1 kx2
  have B_13 := hid (B_12.out.trans (hc.below B_12.out.size (fun k hk => by rcases hk with hk | ⟨hk, hk2⟩ <;> omega)))
  have hz_13 := hc.size
  have KA_13 := hid ((hc.block _ (Array.getElem?_eq_some_iff.1 KA_12.out).1 (fun hk => by rcases hk with hk | ⟨hk, hk2⟩ <;> omega)).trans KA_12.out)
  have OS_13 := hid (OS_12.out.flat intS_flat hc fun k hv hk => by have hu := US.out k hv; rcases hk with hk | ⟨hk, hk2⟩ <;> omega)
  have N1_13 := hid (N1_12.out.keep hc (fun k hv hk => by have hu := (N1_12.out.own.own_lt hv).1; rcases hk with hk | ⟨hk, hk2⟩ <;> omega) (fun r hr hk => by have hu := (N1_12.out.row r hr).1; have hu2 := hk; rcases hk with hk | ⟨hk, hk2⟩ <;> omega))
  have OG_13 := hid (OG_12.out.flat intS_flat hc fun k hv hk => by have hu := (OG_12.out.own_lt hv).1; rcases hk with hk | ⟨hk, hk2⟩ <;> omega)
  clear hc
  obtain ⟨mq0, hmk⟩ : ∃ mk, 1 + (n0 : Int) + (sumLen (lensR rs0) : Int) = mk := ⟨_, rfl⟩
  have mqa0 : 0 ≤ mq0 := by omega
  have mqb0 : mq0 ≤ 2097153 := by omega
  rw [hmk]
  clear hmk
  have ls1 : sumLen (lensR rs1) ≤ 1048576 := by rw [lensR_of E1.out]; have := Q1.out; omega
  have lr1 : rs1.length ≤ 1048576 := by have h1 := congrArg List.length E1.out; rw [List.length_map] at h1; have := HN1.out; omega
  have HLN1 := hid (rows_le E1.out S1.out)
  have ka1 := (at_get' KA_13.out).1
  have ka2 := (at_get' KA_13.out).2.1
  go_wp2_with fail
  refine (markIntSS_any _ _ _ _ _ _ _ rs1 mq0 _ N1_13.out lr1 (by omega) HLN1.out (by omega) (by omega)).mono ?_
  rintro e w15 ⟨rfl, -, hc⟩
  clear ka1 ka2
  have B_14 := hid (B_13.out.trans (hc.below B_13.out.size (fun k hk => by obtain ⟨hk, hk2⟩ := hk; omega)))
  have hz_14 := hc.size
  have KA_14 := hid ((hc.block _ (Array.getElem?_eq_some_iff.1 KA_13.out).1 (fun hk => by obtain ⟨hk, hk2⟩ := hk; omega)).trans KA_13.out)
  have OS_14 := hid (OS_13.out.flat intS_flat hc fun k hv hk => by have hu := US.out k hv; obtain ⟨hk, hk2⟩ := hk; omega)
  have OG_14 := hid (OG_13.out.flat intS_flat hc fun k hv hk => by have hu := (OG_13.out.own_lt hv).1; obtain ⟨hk, hk2⟩ := hk; omega)
  clear hc
  obtain ⟨mq1, hmk⟩ : ∃ mk, mq0 + (sumLen (lensR rs1) : Int) = mk := ⟨_, rfl⟩
  have mqa1 : 0 ≤ mq1 := by omega
  have mqb1 : mq1 ≤ 3145729 := by omega
  rw [hmk]
  clear hmk
  have nkk : ¬ mq1 < 0 := by omega
  have ka1 := (at_get' KA_14.out).1
  have ka2 := (at_get' KA_14.out).2.1
  go_wp2_with fail
  refine (eqIntS_any _ _ _ _ _ _ _ _ _ _ _ ((OG_14.out.rd (by omega)).2) ((OS_14.out.rd (by omega)).2)).mono ?_
  rintro e w16 ⟨rfl, hb⟩
  clear ka1 ka2
  rw [eqD_self]
  have B_15 := hid (btr B_14.out hb)
  have hz_15 := hb.size
  have KA_15 := hid ((hb.block _ (Array.getElem?_eq_some_iff.1 KA_14.out).1).trans KA_14.out)
  have OS_15 := hid (OS_14.out.bl hb)
  have OG_15 := hid (OG_14.out.bl hb)
  clear hb
  have ka1 := (at_get' KA_15.out).1
  have ka2 := (at_get' KA_15.out).2.1
  go_wp2_with fail
  refine (markIntS_res DG xs.length dG _ xs 1 _ OG_15.out rfl hxl (by omega) (by omega)).mono ?_
  rintro e w17 ⟨rfl, y1, hc⟩
  clear ka1 ka2
  have B_16 := hid (B_15.out.trans (hc.below B_15.out.size (fun k hk => by have hu9 := (OG_15.out.own_lt hk).1; omega)))
  have hz_16 := hc.size
  have KA_16 := hid ((hc.block _ (Array.getElem?_eq_some_iff.1 KA_15.out).1 (fun hk => by have hu9 := (OG_15.out.own_lt hk).1; omega)).trans KA_15.out)
  have OS_16 := hid (OS_15.out.flat intS_flat hc fun k hv hk => by have hu := US.out k hv; have hu9 := (OG_15.out.own_lt hk).1; omega)
  have RG := hid y1
  clear hc y1
  have htt : ((1 + (xs.length : Int)) != (1 + (xs.length : Int))) = false := by simp
  have htn : ¬ (1 + (xs.length : Int)) < 0 := by omega
  have ka1 := (at_get' KA_16.out).1
  have ka2 := (at_get' KA_16.out).2.1
  go_wp2_with fail
  refine (heldIntS_any _ _ _ _ 1 _ RG.out hxl (by omega) (by omega)).mono ?_
  rintro e w' ⟨rfl, rfl⟩
  clear ka1 ka2
  have ka1 := (at_get' KA_16.out).1
  have ka2 := (at_get' KA_16.out).2.1
  go_wp2_with fail
  refine (toModel_any _ _ _ _ _ _ _ _ _ _ (L0.out.bl B_16.out) (R0.out.bl B_16.out) hn0 hm0 S0.out).mono ?_
  rintro e w18 ⟨gh0, fh0, rfl, y1, y2, hb⟩
  clear ka1 ka2
  have B_17 := hid (btr B_16.out hb)
  have hz_17 := hb.size
  have KA_17 := hid ((hb.block _ (Array.getElem?_eq_some_iff.1 KA_16.out).1).trans KA_16.out)
  have OS_17 := hid (OS_16.out.bl hb)
  have RG_17 := hid (RG.out.bl hb)
  have Xh0 := hid (y1.wide (lo' := 0) (Nat.zero_le _) (Nat.le_refl _))
  have Yh0 := hid (y2.wide (lo' := 0) (Nat.zero_le _) (Nat.le_refl _))
  clear hb y1 y2
  have ka1 := (at_get' KA_17.out).1
  have ka2 := (at_get' KA_17.out).2.1
  go_wp2_with fail
  refine (toIntSS_any _ _ _ _ _ _ (L1.out.bl B_17.out) hn1 S1.out).mono ?_
  rintro e w19 ⟨gh1, rfl, y1, hb⟩
  clear ka1 ka2
  have B_18 := hid (btr B_17.out hb)
  have hz_18 := hb.size
  have KA_18 := hid ((hb.block _ (Array.getElem?_eq_some_iff.1 KA_17.out).1).trans KA_17.out)
  have OS_18 := hid (OS_17.out.bl hb)
  have RG_18 := hid (RG_17.out.bl hb)
  have Xh0_18 := hid (Xh0.out.bl hb)
  have Yh0_18 := hid (Yh0.out.bl hb)
  have Xh1 := hid (y1.wide (lo' := 0) (Nat.zero_le _) (Nat.le_refl _))
  clear hb y1
  have ka1 := (at_get' KA_18.out).1
  have ka2 := (at_get' KA_18.out).2.1
  go_wp2_with fail
  refine (implPageSure_any _ _ _ _ _ _ _ _ _ _ _ _ _ (Xh0_18.out) (Yh0_18.out) (Xh1.out)).mono ?_
  intro e w20 hres
  unfold RetI at hres
  rw [HV.out] at hres
  obtain ⟨DH, dH, rfl, y1, hb⟩ := hres
  clear ka1 ka2
  have B_19 := hid (btr B_18.out hb)
  have hz_19 := hb.size
  have KA_19 := hid ((hb.block _ (Array.getElem?_eq_some_iff.1 KA_18.out).1).trans KA_18.out)
  have OS_19 := hid (OS_18.out.bl hb)
  have RG_19 := hid (RG_18.out.bl hb)
  have Xh0_19 := hid (Xh0_18.out.bl hb)
  have Yh0_19 := hid (Yh0_18.out.bl hb)
  have Xh1_19 := hid (Xh1.out.bl hb)
  have OH := hid y1
  have UH := hid fun k (hk : (Value.slice DH xs.length dH).ownBlock = some k) => (y1.own_lt hk).2
  clear hb y1
  have ka1 := (at_get' KA_19.out).1
  have ka2 := (at_get' KA_19.out).2.1
  go_wp2_with fail
  refine (eqIntS_any _ _ _ _ _ _ _ _ _ _ _ ((OH.out.rd (by omega)).2) ((OS_19.out.rd (by omega)).2)).mono ?_
  rintro e w21 ⟨rfl, hb⟩
  clear ka1 ka2
  rw [eqD_self]
  have B_20 := hid (btr B_19.out hb)
  have hz_20 := hb.size
  have KA_20 := hid ((hb.block _ (Array.getElem?_eq_some_iff.1 KA_19.out).1).trans KA_19.out)
  have OS_20 := hid (OS_19.out.bl hb)
  have RG_20 := hid (RG_19.out.bl hb)
  have OH_20 := hid (OH.out.bl hb)
  clear hb
  have ka1 := (at_get' KA_20.out).1
  have ka2 := (at_get' KA_20.out).2.1
  go_wp2_with fail
  refine (heldIntS_any _ _ _ _ 1 _ RG_20.out hxl (by omega) (by omega)).mono ?_
  rintro e w' ⟨rfl, rfl⟩
  clear ka1 ka2
  have ka1 := (at_get' KA_20.out).1
  have ka2 := (at_get' KA_20.out).2.1
  go_wp2_with fail
  go_ret
  exact ⟨rfl, B_20.out⟩
end Go.Proofs.Ytoincfpffioioaa
