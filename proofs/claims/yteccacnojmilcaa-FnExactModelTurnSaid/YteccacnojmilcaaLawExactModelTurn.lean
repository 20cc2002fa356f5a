/- The law FnExactModelTurn returns true for all arguments that can be read. -/
import Derived.Test.YteccacnojmilcaaModRes
import Derived.Test.YteccacnojmilcaaTurnImpl
import Derived.Test.YteccacnojmilcaaModNest
import Derived.Test.YteccacnojmilcaaSzUb
import Derived.Deep.RegionHeld3
namespace Go.Proofs.Yteccacnojmilcaa
open Go.RowKit
set_option maxRecDepth 100000 in
set_option maxHeartbeats 4000000 in
theorem lawExactModelTurn (A0 : Option Addr) (n0 c0 : Nat) (l0 : List Int) (B0 : Option Addr) (m0 e0 : Nat) (r0 : List (List Int)) (a1 : Int) (a2 : Int) (w : World)
    (h0 : Rd intS 0 w.heap.size w A0 n0 l0) (h0r : Rd (sliceS intS) 0 w.heap.size w B0 m0 r0) :
    Calls Try.prog 6 #[.agg #[.slice A0 n0 c0, .slice B0 m0 e0], .int .i64 a1, .int .i64 a2] w fun e w' => e = .returned (.bool true) ∧ Below w.heap.size w w' := by
  have L0 := hid h0
  have HN0 := hid h0.1
  have h63_0 := h0.2.1
  have R0 := hid h0r
  have HM0 := hid h0r.1
  clear h0 h0r
  have b0 := bnew w (.cells #[.slice A0 n0 c0, .slice B0 m0 e0] 39)
  have k0 := heap_alloc_new w (.cells #[.slice A0 n0 c0, .slice B0 m0 e0] 39)
  have BW0 := hid b0
  have KA0 := hid k0
  have z0 : (w.alloc (.cells #[.slice A0 n0 c0, .slice B0 m0 e0] 39)).heap.size = w.heap.size + 1 := by simp
  clear b0 k0
  obtain ⟨V, hV⟩ : ∃ V, turnV l0 r0 a1 a2 = V := ⟨_, rfl⟩
  obtain ⟨xs, hXS⟩ : ∃ xs, xsV V = xs := ⟨_, rfl⟩
  obtain ⟨ys, hYS⟩ : ∃ ys, ysV V = ys := ⟨_, rfl⟩
  obtain ⟨ok, hVO⟩ : ∃ ok, okV V = ok := ⟨_, rfl⟩
  have hxl : xs.length ≤ 1048576 ∧ ys.length ≤ 1048576 ∧ (∀ q ∈ ys, q.length ≤ 1048576) ∧ sumLen (ys.map List.length) ≤ 1048576 := by rw [← hXS, ← hYS, ← hV]; exact turnV_bd l0 r0 a1 a2
  have hxl1 := hxl.1
  have hxl2 := hxl.2.1
  have HXL := hid hxl.2.2
  clear hxl
  have HV := hid hV
  have HXS := hid hXS
  have HYS := hid hYS
  have HVO := hid hVO
  clear hV hXS hYS hVO
  have hokk : (ok != ok) = false := by simp
  go_enter Try.func6, Try.ntmps6
  have ka1 := (at_get' KA0.out).1
  have ka2 := (at_get' KA0.out).2.1
  go_wp2_with fail
  refine (szModel_any _ _ _ _ _ _ _ _ _ _ _ (L0.out.bl BW0.out) (R0.out.bl BW0.out) (by omega) (by omega)).mono ?_
  rintro e w1 ⟨rfl, hb⟩
  clear ka1 ka2
  have B_1 := hid (btr BW0.out hb)
  have hz_1 := hb.size
  have KA_1 := hid ((hb.block _ (Array.getElem?_eq_some_iff.1 KA0.out).1).trans KA0.out)
  clear hb
  obtain ⟨s0, es0⟩ : ∃ s, szModelN l0 r0 1048576 = s := ⟨_, rfl⟩
  have su0 := szModelN_ub (l := l0) (r := r0) (left := 1048576) (by omega)
  rw [es0] at su0 ⊢
  have ES0 := hid es0
  clear es0
  by_cases sn0 : s0 < 0
  case pos =>
    go_wp2_with fail
    go_ret
    exact ⟨rfl, B_1.out⟩
  case neg =>
  obtain ⟨t1, t2, t3⟩ := szModelN_le (l := l0) (r := r0) (left := 1048576) (by omega) (by have := ES0.out; omega)
  have hn0 : n0 ≤ 1048576 := by have := HN0.out; omega
  have hm0 : m0 ≤ 1048576 := by have := HM0.out; omega
  have S0 := hid (show ∀ x ∈ r0, x.length ≤ 1048576 from fun x hx => by have := t3 x hx; omega)
  have Q0 := hid (szModelN_sum (l := l0) (r := r0) (left := 1048576) (by omega) (by have := ES0.out; omega))
  clear t1 t2 t3
  have ka1 := (at_get' KA_1.out).1
  have ka2 := (at_get' KA_1.out).2.1
  go_wp2_with fail
  refine (toModel_any _ _ _ _ _ _ _ _ _ _ (L0.out.bl B_1.out) (R0.out.bl B_1.out) hn0 hm0 S0.out).mono ?_
  rintro e w2 ⟨gs0, fs0, rfl, y1, y2, hb⟩
  clear ka1 ka2
  have B_2 := hid (btr B_1.out hb)
  have hz_2 := hb.size
  have KA_2 := hid ((hb.block _ (Array.getElem?_eq_some_iff.1 KA_1.out).1).trans KA_1.out)
  have Xs0 := hid (y1.wide (lo' := 0) (Nat.zero_le _) (Nat.le_refl _))
  have Ys0 := hid (y2.wide (lo' := 0) (Nat.zero_le _) (Nat.le_refl _))
  clear hb y1 y2
  have ka1 := (at_get' KA_2.out).1
  have ka2 := (at_get' KA_2.out).2.1
  go_wp2_with fail
  refine (specModelTurn_any _ _ _ _ _ _ a1 a2 _ _ _ (Xs0.out) (Ys0.out)).mono ?_
  intro e w3 hres
  rw [HV.out] at hres
  obtain ⟨A_S, a_S, B_S, b_S, rsS, KS, he, y1, y2, hb⟩ := retM_res hres
  rw [HXS.out, HYS.out, HVO.out] at he
  rw [HXS.out, HYS.out] at y1
  rw [HYS.out] at y2
  subst he
  clear hres
  clear ka1 ka2
  have huS : w3.heap.size ≤ w3.heap.size := Nat.le_refl _
  have B_3 := hid (btr B_2.out hb)
  have hz_3 := hb.size
  have KA_3 := hid ((hb.block _ (Array.getElem?_eq_some_iff.1 KA_2.out).1).trans KA_2.out)
  have Xs0_3 := hid (Xs0.out.bl hb)
  have Ys0_3 := hid (Ys0.out.bl hb)
  have OS := hid y1
  have ES := hid y2
  clear hb y1 y2
  have hb := bnew w3 (.cells #[.slice A_S xs.length a_S, .slice B_S ys.length b_S] 41)
  have kx := heap_alloc_new w3 (.cells #[.slice A_S xs.length a_S, .slice B_S ys.length b_S] 41)
  have zx_KS : (w3.alloc (.cells #[.slice A_S xs.length a_S, .slice B_S ys.length b_S] 41)).heap.size = w3.heap.size + 1 := by simp
  have lt_ka : w.heap.size < w3.heap.size := (Array.getElem?_eq_some_iff.1 KA_3.out).1
  have ka1 := (at_get' KA_3.out).1
  have ka2 := (at_get' KA_3.out).2.1
  go_wp2_with fail
  clear ka1 ka2
  clear lt_ka
  have B_4 := hid (btr B_3.out hb)
  have hz_4 := hb.size
  have KA_4 := hid ((hb.block _ (Array.getElem?_eq_some_iff.1 KA_3.out).1).trans KA_3.out)
  have Xs0_4 := hid (Xs0_3.out.bl hb)
  have Ys0_4 := hid (Ys0_3.out.bl hb)
  have OS_4 := hid (OS.out.bl hb (by omega))
  have KS := hid kx
  clear hb kx
  generalize w3.alloc (.cells #[.slice A_S xs.length a_S, .slice B_S ys.length b_S] 41) = w4 at *
  have ka1 := (at_get' KA_4.out).1
  have ka2 := (at_get' KA_4.out).2.1
  have ks1 := (at_get' KS.out).1
  have ks2 := (at_get' KS.out).2.1
  go_wp2_with fail
  refine (toModel_nest _ _ _ _ _ _ _ _ _ _ (L0.out.bl B_4.out) (R0.out.bl B_4.out) hn0 hm0 S0.out).mono ?_
  rintro e w5 ⟨g0, f0, k0, rs0, rfl, y1, hg0, hk0, y2, y3, hb⟩
  clear ka1 ka2 ks1 ks2
  have B_5 := hid (btr B_4.out hb)
  have hz_5 := hb.size
  have KA_5 := hid ((hb.block _ (Array.getElem?_eq_some_iff.1 KA_4.out).1).trans KA_4.out)
  have KS_5 := hid ((hb.block _ (Array.getElem?_eq_some_iff.1 KS.out).1).trans KS.out)
  have OS_5 := hid (OS_4.out.bl hb (by omega))
  have G0 := hid y1
  have N0 := hid y2
  have E0 := hid y3
  have hgl0 := y1.lt
  clear hb y1 y2 y3
  have hb := bnew w5 (.cells #[.slice (some ⟨g0, 0, none⟩) n0 n0, .slice (some ⟨f0, 0, none⟩) m0 m0] 41)
  have kx := heap_alloc_new w5 (.cells #[.slice (some ⟨g0, 0, none⟩) n0 n0, .slice (some ⟨f0, 0, none⟩) m0 m0] 41)
  have zx : (w5.alloc (.cells #[.slice (some ⟨g0, 0, none⟩) n0 n0, .slice (some ⟨f0, 0, none⟩) m0 m0] 41)).heap.size = w5.heap.size + 1 := by simp
  have ka1 := (at_get' KA_5.out).1
  have ka2 := (at_get' KA_5.out).2.1
  have ks1 := (at_get' KS_5.out).1
  have ks2 := (at_get' KS_5.out).2.1
  go_wp2_with fail
  clear ka1 ka2 ks1 ks2
  have B_6 := hid (btr B_5.out hb)
  have hz_6 := hb.size
  have KA_6 := hid ((hb.block _ (Array.getElem?_eq_some_iff.1 KA_5.out).1).trans KA_5.out)
  have KS_6 := hid ((hb.block _ (Array.getElem?_eq_some_iff.1 KS_5.out).1).trans KS_5.out)
  have OS_6 := hid (OS_5.out.bl hb (by omega))
  have G0_6 := hid (G0.out.kept (hb.block _ G0.out.lt))
  have N0_6 := hid (N0.out.bl hb)
  have KX := hid kx
  clear hb kx
  generalize w5.alloc (.cells #[.slice (some ⟨g0, 0, none⟩) n0 n0, .slice (some ⟨f0, 0, none⟩) m0 m0] 41) = w6 at *
  have ka1 := (at_get' KA_6.out).1
  have ka2 := (at_get' KA_6.out).2.1
  have ks1 := (at_get' KS_6.out).1
  have ks2 := (at_get' KS_6.out).2.1
  have kx1 := (at_get' KX.out).1
  have kx2 := (at_get' KX.out).2.1
  go_wp2_with fail
  refine (implModelTurn_any _ _ _ _ _ _ a1 a2 _ _ _ (G0_6.out.rd0 HN0.out) (N0_6.out.rd0 E0.out (by have := HM0.out; omega))).mono ?_
  intro e w7 hres
  rw [HV.out] at hres
  obtain ⟨A_G, a_G, B_G, b_G, rsG, KG, he, y1, y2, hb⟩ := retM_res hres
  rw [HXS.out, HYS.out, HVO.out] at he
  rw [HXS.out, HYS.out] at y1
  rw [HYS.out] at y2
  subst he
  clear hres
  clear ka1 ka2 ks1 ks2 kx1 kx2
  have huG : w7.heap.size ≤ w7.heap.size := Nat.le_refl _
  have B_7 := hid (btr B_6.out hb)
  have hz_7 := hb.size
  have KA_7 := hid ((hb.block _ (Array.getElem?_eq_some_iff.1 KA_6.out).1).trans KA_6.out)
  have KS_7 := hid ((hb.block _ (Array.getElem?_eq_some_iff.1 KS_6.out).1).trans KS_6.out)
  have KX_7 := hid ((hb.block _ (Array.getElem?_eq_some_iff.1 KX.out).1).trans KX.out)
  have OS_7 := hid (OS_6.out.bl hb (by omega))
  have G0_7 := hid (G0_6.out.kept (hb.block _ G0_6.out.lt))
  have N0_7 := hid (N0_6.out.bl hb)
  have OG := hid y1
  have EG := hid y2
  clear hb y1 y2
  have hb := bnew w7 (.cells #[.slice A_G xs.length a_G, .slice B_G ys.length b_G] 41)
  have kx := heap_alloc_new w7 (.cells #[.slice A_G xs.length a_G, .slice B_G ys.length b_G] 41)
  have zx_KG : (w7.alloc (.cells #[.slice A_G xs.length a_G, .slice B_G ys.length b_G] 41)).heap.size = w7.heap.size + 1 := by simp
  have lt_ka : w.heap.size < w7.heap.size := (Array.getElem?_eq_some_iff.1 KA_7.out).1
  have lt_ks : w3.heap.size < w7.heap.size := (Array.getElem?_eq_some_iff.1 KS_7.out).1
  have lt_kx : w5.heap.size < w7.heap.size := (Array.getElem?_eq_some_iff.1 KX_7.out).1
  have ka1 := (at_get' KA_7.out).1
  have ka2 := (at_get' KA_7.out).2.1
  have ks1 := (at_get' KS_7.out).1
  have ks2 := (at_get' KS_7.out).2.1
  have kx1 := (at_get' KX_7.out).1
  have kx2 := (at_get' KX_7.out).2.1
  go_wp2_with fail
  clear ka1 ka2 ks1 ks2 kx1 kx2
  clear lt_ka lt_ks lt_kx
  have B_8 := hid (btr B_7.out hb)
  have hz_8 := hb.size
  have KA_8 := hid ((hb.block _ (Array.getElem?_eq_some_iff.1 KA_7.out).1).trans KA_7.out)
  have KS_8 := hid ((hb.block _ (Array.getElem?_eq_some_iff.1 KS_7.out).1).trans KS_7.out)
  have KX_8 := hid ((hb.block _ (Array.getElem?_eq_some_iff.1 KX_7.out).1).trans KX_7.out)
  have OS_8 := hid (OS_7.out.bl hb (by omega))
  have G0_8 := hid (G0_7.out.kept (hb.block _ G0_7.out.lt))
  have N0_8 := hid (N0_7.out.bl hb)
  have OG_8 := hid (OG.out.bl hb (by omega))
  have KG := hid kx
  clear hb kx
  generalize w7.alloc (.cells #[.slice A_G xs.length a_G, .slice B_G ys.length b_G] 41) = w8 at *
  have ka1 := (at_get' KA_8.out).1
  have ka2 := (at_get' KA_8.out).2.1
  have ks1 := (at_get' KS_8.out).1
  have ks2 := (at_get' KS_8.out).2.1
  have kx1 := (at_get' KX_8.out).1
  have kx2 := (at_get' KX_8.out).2.1
  have kg1 := (at_get' KG.out).1
  have kg2 := (at_get' KG.out).2.1
  go_wp2_with fail
  refine (eqModel_any _ _ _ _ _ _ _ _ _ _ _ _ _ _ _ _ _ _ _ (OG_8.out.rd1) (OG_8.out.rd2 EG.out (by omega)) (OS_8.out.rd1) (OS_8.out.rd2 ES.out (by omega))).mono ?_
  rintro e w9 ⟨rfl, hb⟩
  clear ka1 ka2 ks1 ks2 kx1 kx2 kg1 kg2
  simp only [eqD_self, Bool.and_self]
  have B_9 := hid (btr B_8.out hb)
  have hz_9 := hb.size
  have KA_9 := hid ((hb.block _ (Array.getElem?_eq_some_iff.1 KA_8.out).1).trans KA_8.out)
  have KS_9 := hid ((hb.block _ (Array.getElem?_eq_some_iff.1 KS_8.out).1).trans KS_8.out)
  have KX_9 := hid ((hb.block _ (Array.getElem?_eq_some_iff.1 KX_8.out).1).trans KX_8.out)
  have KG_9 := hid ((hb.block _ (Array.getElem?_eq_some_iff.1 KG.out).1).trans KG.out)
  have OS_9 := hid (OS_8.out.bl hb (by omega))
  have G0_9 := hid (G0_8.out.kept (hb.block _ G0_8.out.lt))
  have N0_9 := hid (N0_8.out.bl hb)
  have OG_9 := hid (OG_8.out.bl hb (by omega))
  clear hb
  have ka1 := (at_get' KA_9.out).1
  have ka2 := (at_get' KA_9.out).2.1
  have ks1 := (at_get' KS_9.out).1
  have ks2 := (at_get' KS_9.out).2.1
  have kx1 := (at_get' KX_9.out).1
  have kx2 := (at_get' KX_9.out).2.1
  have kg1 := (at_get' KG_9.out).1
  have kg2 := (at_get' KG_9.out).2.1
  go_wp2_with fail
  have fka1 := fun w' (h : Below w9.heap.size w9 w') => bcl h ka1
  have fka2 := fun w' (h : Below w9.heap.size w9 w') => bcl h ka2
  have fks1 := fun w' (h : Below w9.heap.size w9 w') => bcl h ks1
  have fks2 := fun w' (h : Below w9.heap.size w9 w') => bcl h ks2
  have fkx1 := fun w' (h : Below w9.heap.size w9 w') => bcl h kx1
  have fkx2 := fun w' (h : Below w9.heap.size w9 w') => bcl h kx2
  have fkg1 := fun w' (h : Below w9.heap.size w9 w') => bcl h kg1
  have fkg2 := fun w' (h : Below w9.heap.size w9 w') => bcl h kg2
  go_region_held3 (fun w' => Below w9.heap.size w9 w') (first | assumption | exact (Below.refl _ _).drew) (first
    | (go_at_call 23; refine (toModel_any _ _ _ _ _ _ _ _ _ _ (L0.out.bl (btr B_9.out (bdr _))) (R0.out.bl (btr B_9.out (bdr _))) hn0 hm0 S0.out).mono ?_; rintro e w10 ⟨ga, ha, rfl, pa, qa, ba⟩; have bb : Below w9.heap.size w9 w10 := btr (bdr _) ba)
    | (go_at_call 25; refine (eqModel_any _ _ _ _ _ _ _ _ _ _ _ _ _ _ _ _ _ _ _ ((G0_9.out.rd0 HN0.out).bl (btr (bdr _) ba)) ((N0_9.out.rd0 E0.out (by have := HM0.out; omega)).bl (btr (bdr _) ba)) pa qa).mono ?_; rintro e w11 ⟨rfl, bc⟩; have hb : Below w9.heap.size w9 w11 := btr (btr (bdr _) ba) bc))
  simp only [eqD_self, Bool.and_self, Bool.not_true]
  clear ka1 ka2 ks1 ks2 kx1 kx2 kg1 kg2
  clear fka1 fka2 fks1 fks2 fkx1 fkx2 fkg1 fkg2 ba bb bc pa qa
  have B_10 := hid (btr B_9.out hb)
  have hz_10 := hb.size
  have KA_10 := hid ((hb.block _ (Array.getElem?_eq_some_iff.1 KA_9.out).1).trans KA_9.out)
  have KS_10 := hid ((hb.block _ (Array.getElem?_eq_some_iff.1 KS_9.out).1).trans KS_9.out)
  have KX_10 := hid ((hb.block _ (Array.getElem?_eq_some_iff.1 KX_9.out).1).trans KX_9.out)
  have KG_10 := hid ((hb.block _ (Array.getElem?_eq_some_iff.1 KG_9.out).1).trans KG_9.out)
  have OS_10 := hid (OS_9.out.bl hb (by omega))
  have G0_10 := hid (G0_9.out.kept (hb.block _ G0_9.out.lt))
  have N0_10 := hid (N0_9.out.bl hb)
  have OG_10 := hid (OG_9.out.bl hb (by omega))
  clear hb
  have ls0 : sumLen (lensR rs0) ≤ 1048576 := by rw [lensR_of E0.out]; have := Q0.out; omega
  have lr0 : rs0.length ≤ 1048576 := by have h1 := congrArg List.length E0.out; rw [List.length_map] at h1; have := HM0.out; omega
  have HLN0 := hid (rows_le E0.out S0.out)
  have ka1 := (at_get' KA_10.out).1
  have ka2 := (at_get' KA_10.out).2.1
  have ks1 := (at_get' KS_10.out).1
  have ks2 := (at_get' KS_10.out).2.1
  have kx1 := (at_get' KX_10.out).1
  have kx2 := (at_get' KX_10.out).2.1
  have kg1 := (at_get' KG_10.out).1
  have kg2 := (at_get' KG_10.out).2.1
  go_wp2_with fail
  refine (markModel_any g0 f0 k0 n0 m0 l0 rs0 1 _ _ G0_10.out hk0 N0_10.out HN0.out hn0 lr0 (by omega) HLN0.out (by omega) (by omega)).mono ?_
  rintro e w12 ⟨rfl, hc⟩
  clear ka1 ka2 ks1 ks2 kx1 kx2 kg1 kg2
  have B_11 := hid (B_10.out.trans (hc.below B_10.out.size (fun k hk => by rcases hk with hk | ⟨hk, hk2⟩ <;> omega)))
  have hz_11 := hc.size
  have KA_11 := hid ((hc.block _ (Array.getElem?_eq_some_iff.1 KA_10.out).1 (fun hk => by rcases hk with hk | ⟨hk, hk2⟩ <;> omega)).trans KA_10.out)
  have KS_11 := hid ((hc.block _ (Array.getElem?_eq_some_iff.1 KS_10.out).1 (fun hk => by rcases hk with hk | ⟨hk, hk2⟩ <;> omega)).trans KS_10.out)
  have KG_11 := hid ((hc.block _ (Array.getElem?_eq_some_iff.1 KG_10.out).1 (fun hk => by rcases hk with hk | ⟨hk, hk2⟩ <;> omega)).trans KG_10.out)
  have OS_11 := hid (OS_10.out.chg hc (fun k hk => by rcases hk with hk | ⟨hk, hk2⟩ <;> omega))
  have OG_11 := hid (OG_10.out.chg hc (fun k hk => by rcases hk with hk | ⟨hk, hk2⟩ <;> omega))
  clear hc
  obtain ⟨mq0, hmk⟩ : ∃ mk, 1 + (n0 : Int) + (sumLen (lensR rs0) : Int) = mk := ⟨_, rfl⟩
  have mqa0 : 0 ≤ mq0 := by omega
  have mqb0 : mq0 ≤ 2097153 := by omega
  rw [hmk]
  clear hmk
  have nkk : ¬ mq0 < 0 := by omega
  have ka1 := (at_get' KA_11.out).1
  have ka2 := (at_get' KA_11.out).2.1
  have ks1 := (at_get' KS_11.out).1
  have ks2 := (at_get' KS_11.out).2.1
  have kg1 := (at_get' KG_11.out).1
  have kg2 := (at_get' KG_11.out).2.1
  go_wp2_with fail
  refine (eqModel_any _ _ _ _ _ _ _ _ _ _ _ _ _ _ _ _ _ _ _ (OG_11.out.rd1) (OG_11.out.rd2 EG.out (by omega)) (OS_11.out.rd1) (OS_11.out.rd2 ES.out (by omega))).mono ?_
  rintro e w13 ⟨rfl, hb⟩
  clear ka1 ka2 ks1 ks2 kg1 kg2
  simp only [eqD_self, Bool.and_self]
  have B_12 := hid (btr B_11.out hb)
  have hz_12 := hb.size
  have KA_12 := hid ((hb.block _ (Array.getElem?_eq_some_iff.1 KA_11.out).1).trans KA_11.out)
  have KS_12 := hid ((hb.block _ (Array.getElem?_eq_some_iff.1 KS_11.out).1).trans KS_11.out)
  have KG_12 := hid ((hb.block _ (Array.getElem?_eq_some_iff.1 KG_11.out).1).trans KG_11.out)
  have OS_12 := hid (OS_11.out.bl hb (by omega))
  have OG_12 := hid (OG_11.out.bl hb (by omega))
  clear hb
  have lsG : sumLen (lensR rsG) ≤ 1048576 := by rw [lensR_of EG.out]; exact HXL.out.2
  have lrG : rsG.length ≤ 1048576 := by have h1 := congrArg List.length EG.out; rw [List.length_map] at h1; omega
  have HLNG := hid (rows_le EG.out HXL.out.1)
  have ka1 := (at_get' KA_12.out).1
  have ka2 := (at_get' KA_12.out).2.1
  have ks1 := (at_get' KS_12.out).1
  have ks2 := (at_get' KS_12.out).2.1
  have kg1 := (at_get' KG_12.out).1
  have kg2 := (at_get' KG_12.out).2.1
  go_wp2_with fail
  refine (markModel_res _ _ _ _ _ _ _ _ xs rsG 1 _ OG_12.out (by omega) hxl1 lrG (by omega) HLNG.out (by omega) (by omega)).mono ?_
  rintro e w14 ⟨rfl, y1, hc⟩
  clear ka1 ka2 ks1 ks2 kg1 kg2
  have B_13 := hid (B_12.out.trans (hc.below B_12.out.size (fun k hk => by obtain ⟨hk, hk2⟩ := hk; omega)))
  have hz_13 := hc.size
  have KA_13 := hid ((hc.block _ (Array.getElem?_eq_some_iff.1 KA_12.out).1 (fun hk => by obtain ⟨hk, hk2⟩ := hk; omega)).trans KA_12.out)
  have KS_13 := hid ((hc.block _ (Array.getElem?_eq_some_iff.1 KS_12.out).1 (fun hk => by obtain ⟨hk, hk2⟩ := hk; omega)).trans KS_12.out)
  have KG_13 := hid ((hc.block _ (Array.getElem?_eq_some_iff.1 KG_12.out).1 (fun hk => by obtain ⟨hk, hk2⟩ := hk; omega)).trans KG_12.out)
  have OS_13 := hid (OS_12.out.chg hc (fun k hk => by obtain ⟨hk, hk2⟩ := hk; omega))
  have RG := hid y1
  clear hc y1
  have htt : ((1 + (xs.length : Int) + (sumLen (lensR rsG) : Int)) != (1 + (xs.length : Int) + (sumLen (lensR rsG) : Int))) = false := by simp
  have htn : ¬ (1 + (xs.length : Int) + (sumLen (lensR rsG) : Int)) < 0 := by omega
  have ka1 := (at_get' KA_13.out).1
  have ka2 := (at_get' KA_13.out).2.1
  have ks1 := (at_get' KS_13.out).1
  have ks2 := (at_get' KS_13.out).2.1
  have kg1 := (at_get' KG_13.out).1
  have kg2 := (at_get' KG_13.out).2.1
  go_wp2_with fail
  refine (heldModel_any _ _ _ _ _ _ (lensR rsG) 1 _ (RG.out.rdm lrG).1 (RG.out.rdm lrG).2 hxl1 (by omega) (lens_le HLNG.out) (by omega) (by omega)).mono ?_
  rintro e w15 ⟨rfl, hb⟩
  clear ka1 ka2 ks1 ks2 kg1 kg2
  have B_14 := hid (btr B_13.out hb)
  have hz_14 := hb.size
  have KA_14 := hid ((hb.block _ (Array.getElem?_eq_some_iff.1 KA_13.out).1).trans KA_13.out)
  have KS_14 := hid ((hb.block _ (Array.getElem?_eq_some_iff.1 KS_13.out).1).trans KS_13.out)
  have KG_14 := hid ((hb.block _ (Array.getElem?_eq_some_iff.1 KG_13.out).1).trans KG_13.out)
  have OS_14 := hid (OS_13.out.bl hb (by omega))
  have RG_14 := hid (RG.out.bl hb (by omega))
  clear hb
  have ka1 := (at_get' KA_14.out).1
  have ka2 := (at_get' KA_14.out).2.1
  have ks1 := (at_get' KS_14.out).1
  have ks2 := (at_get' KS_14.out).2.1
  have kg1 := (at_get' KG_14.out).1
  have kg2 := (at_get' KG_14.out).2.1
  go_wp2_with fail
  refine (toModel_any _ _ _ _ _ _ _ _ _ _ (L0.out.bl B_14.out) (R0.out.bl B_14.out) hn0 hm0 S0.out).mono ?_
  rintro e w16 ⟨gh0, fh0, rfl, y1, y2, hb⟩
  clear ka1 ka2 ks1 ks2 kg1 kg2
  have B_15 := hid (btr B_14.out hb)
  have hz_15 := hb.size
  have KA_15 := hid ((hb.block _ (Array.getElem?_eq_some_iff.1 KA_14.out).1).trans KA_14.out)
  have KS_15 := hid ((hb.block _ (Array.getElem?_eq_some_iff.1 KS_14.out).1).trans KS_14.out)
  have KG_15 := hid ((hb.block _ (Array.getElem?_eq_some_iff.1 KG_14.out).1).trans KG_14.out)
  have OS_15 := hid (OS_14.out.bl hb (by omega))
  have RG_15 := hid (RG_14.out.bl hb (by omega))
  have Xh0 := hid (y1.wide (lo' := 0) (Nat.zero_le _) (Nat.le_refl _))
  have Yh0 := hid (y2.wide (lo' := 0) (Nat.zero_le _) (Nat.le_refl _))
  clear hb y1 y2
  have ka1 := (at_get' KA_15.out).1
  have ka2 := (at_get' KA_15.out).2.1
  have ks1 := (at_get' KS_15.out).1
  have ks2 := (at_get' KS_15.out).2.1
  have kg1 := (at_get' KG_15.out).1
  have kg2 := (at_get' KG_15.out).2.1
  go_wp2_with fail
  refine (implModelTurn_any _ _ _ _ _ _ a1 a2 _ _ _ (Xh0.out) (Yh0.out)).mono ?_
  intro e w17 hres
  rw [HV.out] at hres
  obtain ⟨A_H, a_H, B_H, b_H, rsH, KH, he, y1, y2, hb⟩ := retM_res hres
  rw [HXS.out, HYS.out, HVO.out] at he
  rw [HXS.out, HYS.out] at y1
  rw [HYS.out] at y2
  subst he
  clear hres
  clear ka1 ka2 ks1 ks2 kg1 kg2
  have huH : w17.heap.size ≤ w17.heap.size := Nat.le_refl _
  have B_16 := hid (btr B_15.out hb)
  have hz_16 := hb.size
  have KA_16 := hid ((hb.block _ (Array.getElem?_eq_some_iff.1 KA_15.out).1).trans KA_15.out)
  have KS_16 := hid ((hb.block _ (Array.getElem?_eq_some_iff.1 KS_15.out).1).trans KS_15.out)
  have KG_16 := hid ((hb.block _ (Array.getElem?_eq_some_iff.1 KG_15.out).1).trans KG_15.out)
  have OS_16 := hid (OS_15.out.bl hb (by omega))
  have RG_16 := hid (RG_15.out.bl hb (by omega))
  have Xh0_16 := hid (Xh0.out.bl hb)
  have Yh0_16 := hid (Yh0.out.bl hb)
  have OH := hid y1
  have EH := hid y2
  clear hb y1 y2
  have hb := bnew w17 (.cells #[.slice A_H xs.length a_H, .slice B_H ys.length b_H] 41)
  have kx := heap_alloc_new w17 (.cells #[.slice A_H xs.length a_H, .slice B_H ys.length b_H] 41)
  have zx_KH : (w17.alloc (.cells #[.slice A_H xs.length a_H, .slice B_H ys.length b_H] 41)).heap.size = w17.heap.size + 1 := by simp
  have lt_ka : w.heap.size < w17.heap.size := (Array.getElem?_eq_some_iff.1 KA_16.out).1
  have lt_ks : w3.heap.size < w17.heap.size := (Array.getElem?_eq_some_iff.1 KS_16.out).1
  have lt_kg : w7.heap.size < w17.heap.size := (Array.getElem?_eq_some_iff.1 KG_16.out).1
  have ka1 := (at_get' KA_16.out).1
  have ka2 := (at_get' KA_16.out).2.1
  have ks1 := (at_get' KS_16.out).1
  have ks2 := (at_get' KS_16.out).2.1
  have kg1 := (at_get' KG_16.out).1
  have kg2 := (at_get' KG_16.out).2.1
  go_wp2_with fail
  clear ka1 ka2 ks1 ks2 kg1 kg2
  clear lt_ka lt_ks lt_kg
  have B_17 := hid (btr B_16.out hb)
  have hz_17 := hb.size
  have KA_17 := hid ((hb.block _ (Array.getElem?_eq_some_iff.1 KA_16.out).1).trans KA_16.out)
  have KS_17 := hid ((hb.block _ (Array.getElem?_eq_some_iff.1 KS_16.out).1).trans KS_16.out)
  have KG_17 := hid ((hb.block _ (Array.getElem?_eq_some_iff.1 KG_16.out).1).trans KG_16.out)
  have OS_17 := hid (OS_16.out.bl hb (by omega))
  have RG_17 := hid (RG_16.out.bl hb (by omega))
  have Xh0_17 := hid (Xh0_16.out.bl hb)
  have Yh0_17 := hid (Yh0_16.out.bl hb)
  have OH_17 := hid (OH.out.bl hb (by omega))
  have KH := hid kx
  clear hb kx
  generalize w17.alloc (.cells #[.slice A_H xs.length a_H, .slice B_H ys.length b_H] 41) = w18 at *
  have ka1 := (at_get' KA_17.out).1
  have ka2 := (at_get' KA_17.out).2.1
  have ks1 := (at_get' KS_17.out).1
  have ks2 := (at_get' KS_17.out).2.1
  have kg1 := (at_get' KG_17.out).1
  have kg2 := (at_get' KG_17.out).2.1
  have kh1 := (at_get' KH.out).1
  have kh2 := (at_get' KH.out).2.1
  go_wp2_with fail
  refine (eqModel_any _ _ _ _ _ _ _ _ _ _ _ _ _ _ _ _ _ _ _ (OH_17.out.rd1) (OH_17.out.rd2 EH.out (by omega)) (OS_17.out.rd1) (OS_17.out.rd2 ES.out (by omega))).mono ?_
  rintro e w19 ⟨rfl, hb⟩
  clear ka1 ka2 ks1 ks2 kg1 kg2 kh1 kh2
  simp only [eqD_self, Bool.and_self]
  have B_18 := hid (btr B_17.out hb)
  have hz_18 := hb.size
  have KA_18 := hid ((hb.block _ (Array.getElem?_eq_some_iff.1 KA_17.out).1).trans KA_17.out)
  have KS_18 := hid ((hb.block _ (Array.getElem?_eq_some_iff.1 KS_17.out).1).trans KS_17.out)
  have KG_18 := hid ((hb.block _ (Array.getElem?_eq_some_iff.1 KG_17.out).1).trans KG_17.out)
  have KH_18 := hid ((hb.block _ (Array.getElem?_eq_some_iff.1 KH.out).1).trans KH.out)
  have OS_18 := hid (OS_17.out.bl hb (by omega))
  have RG_18 := hid (RG_17.out.bl hb (by omega))
  have OH_18 := hid (OH_17.out.bl hb (by omega))
  clear hb
  have ka1 := (at_get' KA_18.out).1
  have ka2 := (at_get' KA_18.out).2.1
  have ks1 := (at_get' KS_18.out).1
  have ks2 := (at_get' KS_18.out).2.1
  have kg1 := (at_get' KG_18.out).1
  have kg2 := (at_get' KG_18.out).2.1
  have kh1 := (at_get' KH_18.out).1
  have kh2 := (at_get' KH_18.out).2.1
  go_wp2_with fail
  refine (heldModel_any _ _ _ _ _ _ (lensR rsG) 1 _ (RG_18.out.rdm lrG).1 (RG_18.out.rdm lrG).2 hxl1 (by omega) (lens_le HLNG.out) (by omega) (by omega)).mono ?_
  rintro e w20 ⟨rfl, hb⟩
  clear ka1 ka2 ks1 ks2 kg1 kg2 kh1 kh2
  have B_19 := hid (btr B_18.out hb)
  have hz_19 := hb.size
  have KA_19 := hid ((hb.block _ (Array.getElem?_eq_some_iff.1 KA_18.out).1).trans KA_18.out)
  have KS_19 := hid ((hb.block _ (Array.getElem?_eq_some_iff.1 KS_18.out).1).trans KS_18.out)
  have KG_19 := hid ((hb.block _ (Array.getElem?_eq_some_iff.1 KG_18.out).1).trans KG_18.out)
  have KH_19 := hid ((hb.block _ (Array.getElem?_eq_some_iff.1 KH_18.out).1).trans KH_18.out)
  have OS_19 := hid (OS_18.out.bl hb (by omega))
  have RG_19 := hid (RG_18.out.bl hb (by omega))
  have OH_19 := hid (OH_18.out.bl hb (by omega))
  clear hb
  have ka1 := (at_get' KA_19.out).1
  have ka2 := (at_get' KA_19.out).2.1
  have ks1 := (at_get' KS_19.out).1
  have ks2 := (at_get' KS_19.out).2.1
  have kg1 := (at_get' KG_19.out).1
  have kg2 := (at_get' KG_19.out).2.1
  have kh1 := (at_get' KH_19.out).1
  have kh2 := (at_get' KH_19.out).2.1
  go_wp2_with fail
  go_ret
  exact ⟨rfl, B_19.out⟩
end Go.Proofs.Yteccacnojmilcaa
