/- The law FnExactModelStates returns true for all arguments that can be read. -/
import Derived.Test.YtoincfpffioioaaStates
import Derived.Test.YtoincfpffioioaaModNest
import Derived.Test.YtoincfpffioioaaSzUb
import Derived.Deep.RegionHeld3
namespace Go.Proofs.Ytoincfpffioioaa
open Go.RowKit
set_option maxRecDepth 100000 in
set_option maxHeartbeats 4000000 in
theorem lawExactModelStates (A0 : Option Addr) (n0 c0 : Nat) (l0 : List Int) (B0 : Option Addr) (m0 e0 : Nat) (r0 : List (List Int)) (a1 : Int) (w : World)
    (h0 : Rd intS 0 w.heap.size w A0 n0 l0) (h0r : Rd (sliceS intS) 0 w.heap.size w B0 m0 r0) :
    Calls Try.prog 9 #[.agg #[.slice A0 n0 c0, .slice B0 m0 e0], .int .i64 a1] w fun e w' => e = .returned (.bool true) ∧ Below w.heap.size w w' := by
  have L0 := hid h0
  have HN0 := hid h0.1
  have h63_0 := h0.2.1
  have R0 := hid h0r
  have HM0 := hid h0r.1
  clear h0 h0r
  have b0 := bnew w (.cells #[.slice A0 n0 c0, .slice B0 m0 e0] 25)
  have k0 := heap_alloc_new w (.cells #[.slice A0 n0 c0, .slice B0 m0 e0] 25)
  have BW0 := hid b0
  have KA0 := hid k0
  have z0 : (w.alloc (.cells #[.slice A0 n0 c0, .slice B0 m0 e0] 25)).heap.size = w.heap.size + 1 := by simp
  clear b0 k0
  obtain ⟨xs, hV⟩ : ∃ xs : List Int, statesV l0 r0 a1 = xs := ⟨_, rfl⟩
  have hxl : xs.length ≤ 1048576 := by rw [← hV]; exact (by have := statesV_len l0 r0 a1; omega)
  have HV := hid hV
  clear hV
  go_enter Try.func9, Try.ntmps9
  have ka1 := (at_get' KA0.out).1
  have ka2 := (at_get' KA0.out).2.1
  go_wp2_with fail
  refine (szModel_any _ _ _ _ _ _ _ _ _ _ _ (L0.out.bl BW0.out) (R0.out.bl BW0.out) (by omega) (by omega)).mono ?_
  rintro e w1 ⟨rfl, hb⟩
  clear ka1 ka2
  have B_1 := hid (btr BW0.out hb)
  have hz_1 := hb.size
  have KA_1 := hid ((hb.block _ (Array.getElem?_eq_some_iff.1 KA0.out).1).trans KA0.out)
  clear hb
  obtain ⟨s0, es0⟩ : ∃ s, szModelN l0 r0 1048576 = s := ⟨_, rfl⟩
  have su0 := szModelN_ub (l := l0) (r := r0) (left := 1048576) (by omega)
  rw [es0] at su0 ⊢
  have ES0 := hid es0
  clear es0
  by_cases sn0 : s0 < 0
  case pos =>
    go_wp2_with fail
    go_ret
    exact ⟨rfl, B_1.out⟩
  case neg =>
  obtain ⟨t1, t2, t3⟩ := szModelN_le (l := l0) (r := r0) (left := 1048576) (by omega) (by have := ES0.out; omega)
  have hn0 : n0 ≤ 1048576 := by have := HN0.out; omega
  have hm0 : m0 ≤ 1048576 := by have := HM0.out; omega
  have S0 := hid (show ∀ x ∈ r0, x.length ≤ 1048576 from fun x hx => by have := t3 x hx; omega)
  have Q0 := hid (szModelN_sum (l := l0) (r := r0) (left := 1048576) (by omega) (by have := ES0.out; omega))
  clear t1 t2 t3
  have ka1 := (at_get' KA_1.out).1
  have ka2 := (at_get' KA_1.out).2.1
  go_wp2_with fail
  refine (toModel_any _ _ _ _ _ _ _ _ _ _ (L0.out.bl B_1.out) (R0.out.bl B_1.out) hn0 hm0 S0.out).mono ?_
  rintro e w2 ⟨gs0, fs0, rfl, y1, y2, hb⟩
  clear ka1 ka2
  have B_2 := hid (btr B_1.out hb)
  have hz_2 := hb.size
  have KA_2 := hid ((hb.block _ (Array.getElem?_eq_some_iff.1 KA_1.out).1).trans KA_1.out)
  have Xs0 := hid (y1.wide (lo' := 0) (Nat.zero_le _) (Nat.le_refl _))
  have Ys0 := hid (y2.wide (lo' := 0) (Nat.zero_le _) (Nat.le_refl _))
  clear hb y1 y2
  have ka1 := (at_get' KA_2.out).1
  have ka2 := (at_get' KA_2.out).2.1
  go_wp2_with fail
  refine (specModelStates_any _ _ _ _ _ _ 0 _ _ _ _ (Xs0.out) (Ys0.out)).mono ?_
  intro e w3 hres
  unfold RetI at hres
  rw [HV.out] at hres
  obtain ⟨DS, dS, rfl, y1, hb⟩ := hres
  clear ka1 ka2
  have B_3 := hid (btr B_2.out hb)
  have hz_3 := hb.size
  have KA_3 := hid ((hb.block _ (Array.getElem?_eq_some_iff.1 KA_2.out).1).trans KA_2.out)
  have Xs0_3 := hid (Xs0.out.bl hb)
  have Ys0_3 := hid (Ys0.out.bl hb)
  have OS := hid y1
  have US := hid fun k (hk : (Value.slice DS xs.length dS).ownBlock = some k) => (y1.own_lt hk).2
  clear hb y1
  have ka1 := (at_get' KA_3.out).1
  have ka2 := (at_get' KA_3.out).2.1
  go_wp2_with fail
  refine (toModel_nest _ _ _ _ _ _ _ _ _ _ (L0.out.bl B_3.out) (R0.out.bl B_3.out) hn0 hm0 S0.out).mono ?_
  rintro e w4 ⟨g0, f0, k0, rs0, rfl, y1, hg0, hk0, y2, y3, hb⟩
  clear ka1 ka2
  have B_4 := hid (btr B_3.out hb)
  have hz_4 := hb.size
  have KA_4 := hid ((hb.block _ (Array.getElem?_eq_some_iff.1 KA_3.out).1).trans KA_3.out)
  have OS_4 := hid (OS.out.bl hb)
  have G0 := hid y1
  have N0 := hid y2
  have E0 := hid y3
  have hgl0 := y1.lt
  clear hb y1 y2 y3
  have hb := bnew w4 (.cells #[.slice (some ⟨g0, 0, none⟩) n0 n0, .slice (some ⟨f0, 0, none⟩) m0 m0] 29)
  have kx := heap_alloc_new w4 (.cells #[.slice (some ⟨g0, 0, none⟩) n0 n0, .slice (some ⟨f0, 0, none⟩) m0 m0] 29)
  have zx : (w4.alloc (.cells #[.slice (some ⟨g0, 0, none⟩) n0 n0, .slice (some ⟨f0, 0, none⟩) m0 m0] 29)).heap.size = w4.heap.size + 1 := by simp
  have ka1 := (at_get' KA_4.out).1
  have ka2 := (at_get' KA_4.out).2.1
  go_wp2_with fail
  clear ka1 ka2
  have B_5 := hid (btr B_4.out hb)
  have hz_5 := hb.size
  have KA_5 := hid ((hb.block _ (Array.getElem?_eq_some_iff.1 KA_4.out).1).trans KA_4.out)
  have OS_5 := hid (OS_4.out.bl hb)
  have G0_5 := hid (G0.out.kept (hb.block _ G0.out.lt))
  have N0_5 := hid (N0.out.bl hb)
  have KX := hid kx
  clear hb kx
  generalize w4.alloc (.cells #[.slice (some ⟨g0, 0, none⟩) n0 n0, .slice (some ⟨f0, 0, none⟩) m0 m0] 29) = w5 at *
  have ka1 := (at_get' KA_5.out).1
  have ka2 := (at_get' KA_5.out).2.1
  have kx1 := (at_get' KX.out).1
  have kx2 := (at_get' KX.out).2.1
  go_wp2_with fail
  refine (implModelStates_any _ _ _ _ _ _ _ _ _ _ (G0_5.out.rd0 HN0.out) (N0_5.out.rd0 E0.out (by have := HM0.out; omega))).mono ?_
  intro e w6 hres
  unfold RetI at hres
  rw [HV.out] at hres
  obtain ⟨DG, dG, rfl, y1, hb⟩ := hres
  clear ka1 ka2 kx1 kx2
  have B_6 := hid (btr B_5.out hb)
  have hz_6 := hb.size
  have KA_6 := hid ((hb.block _ (Array.getElem?_eq_some_iff.1 KA_5.out).1).trans KA_5.out)
  have KX_6 := hid ((hb.block _ (Array.getElem?_eq_some_iff.1 KX.out).1).trans KX.out)
  have OS_6 := hid (OS_5.out.bl hb)
  have G0_6 := hid (G0_5.out.kept (hb.block _ G0_5.out.lt))
  have N0_6 := hid (N0_5.out.bl hb)
  have OG := hid y1
  have UG := hid fun k (hk : (Value.slice DG xs.length dG).ownBlock = some k) => (y1.own_lt hk).2
  clear hb y1
  have ka1 := (at_get' KA_6.out).1
  have ka2 := (at_get' KA_6.out).2.1
  have kx1 := (at_get' KX_6.out).1
  have kx2 := (at_get' KX_6.out).2.1
  go_wp2_with fail
  refine (eqIntS_any _ _ _ _ _ _ _ _ _ _ _ ((OG.out.rd (by omega)).2) ((OS_6.out.rd (by omega)).2)).mono ?_
  rintro e w7 ⟨rfl, hb⟩
  clear ka1 ka2 kx1 kx2
  rw [eqD_self]
  have B_7 := hid (btr B_6.out hb)
  have hz_7 := hb.size
  have KA_7 := hid ((hb.block _ (Array.getElem?_eq_some_iff.1 KA_6.out).1).trans KA_6.out)
  have KX_7 := hid ((hb.block _ (Array.getElem?_eq_some_iff.1 KX_6.out).1).trans KX_6.out)
  have OS_7 := hid (OS_6.out.bl hb)
  have G0_7 := hid (G0_6.out.kept (hb.block _ G0_6.out.lt))
  have N0_7 := hid (N0_6.out.bl hb)
  have OG_7 := hid (OG.out.bl hb)
  clear hb
  have ka1 := (at_get' KA_7.out).1
  have ka2 := (at_get' KA_7.out).2.1
  have kx1 := (at_get' KX_7.out).1
  have kx2 := (at_get' KX_7.out).2.1
  go_wp2_with fail
  have fka1 := fun w' (h : Below w7.heap.size w7 w') => bcl h ka1
  have fka2 := fun w' (h : Below w7.heap.size w7 w') => bcl h ka2
  have fkx1 := fun w' (h : Below w7.heap.size w7 w') => bcl h kx1
  have fkx2 := fun w' (h : Below w7.heap.size w7 w') => bcl h kx2
  go_region_held3 (fun w' => Below w7.heap.size w7 w') (first | assumption | exact (Below.refl _ _).drew) (first
    | (go_at_call 13; refine (toModel_any _ _ _ _ _ _ _ _ _ _ (L0.out.bl (btr B_7.out (bdr _))) (R0.out.bl (btr B_7.out (bdr _))) hn0 hm0 S0.out).mono ?_; rintro e w8 ⟨ga, ha, rfl, pa, qa, ba⟩; have bb : Below w7.heap.size w7 w8 := btr (bdr _) ba)
    | (go_at_call 16; refine (eqModel_any _ _ _ _ _ _ _ _ _ _ _ _ _ _ _ _ _ _ _ ((G0_7.out.rd0 HN0.out).bl (btr (bdr _) ba)) ((N0_7.out.rd0 E0.out (by have := HM0.out; omega)).bl (btr (bdr _) ba)) pa qa).mono ?_; rintro e w9 ⟨rfl, bc⟩; have hb : Below w7.heap.size w7 w9 := btr (btr (bdr _) ba) bc))
  simp only [eqD_self, Bool.and_self, Bool.not_true]
  clear ka1 ka2 kx1 kx2
  clear fka1 fka2 fkx1 fkx2 ba bb bc pa qa
  have B_8 := hid (btr B_7.out hb)
  have hz_8 := hb.size
  have KA_8 := hid ((hb.block _ (Array.getElem?_eq_some_iff.1 KA_7.out).1).trans KA_7.out)
  have KX_8 := hid ((hb.block _ (Array.getElem?_eq_some_iff.1 KX_7.out).1).trans KX_7.out)
  have OS_8 := hid (OS_7.out.bl hb)
  have G0_8 := hid (G0_7.out.kept (hb.block _ G0_7.out.lt))
  have N0_8 := hid (N0_7.out.bl hb)
  have OG_8 := hid (OG_7.out.bl hb)
  clear hb
  have ls0 : sumLen (lensR rs0) ≤ 1048576 := by rw [lensR_of E0.out]; have := Q0.out; omega
  have lr0 : rs0.length ≤ 1048576 := by have h1 := congrArg List.length E0.out; rw [List.length_map] at h1; have := HM0.out; omega
  have HLN0 := hid (rows_le E0.out S0.out)
  have ka1 := (at_get' KA_8.out).1
  have ka2 := (at_get' KA_8.out).2.1
  have kx1 := (at_get' KX_8.out).1
  have kx2 := (at_get' KX_8.out).2.1
  go_wp2_with fail
  refine (markModel_any g0 f0 k0 n0 m0 l0 rs0 1 _ _ G0_8.out hk0 N0_8.out HN0.out hn0 lr0 (by omega) HLN0.out (by omega) (by omega)).mono ?_
  rintro e w10 ⟨rfl, hc⟩
  clear ka1 ka2 kx1 kx2
  have B_9 := hid (B_8.out.trans (hc.below B_8.out.size (fun k hk => by rcases hk with hk | ⟨hk, hk2⟩ <;> omega)))
  have hz_9 := hc.size
  have KA_9 := hid ((hc.block _ (Array.getElem?_eq_some_iff.1 KA_8.out).1 (fun hk => by rcases hk with hk | ⟨hk, hk2⟩ <;> omega)).trans KA_8.out)
  have OS_9 := hid (OS_8.out.flat intS_flat hc fun k hv hk => by have hu := US.out k hv; rcases hk with hk | ⟨hk, hk2⟩ <;> omega)
  have OG_9 := hid (OG_8.out.flat intS_flat hc fun k hv hk => by have hu := (OG_8.out.own_lt hv).1; rcases hk with hk | ⟨hk, hk2⟩ <;> omega)
  clear hc
  obtain ⟨mq0, hmk⟩ : ∃ mk, 1 + (n0 : Int) + (sumLen (lensR rs0) : Int) = mk := ⟨_, rfl⟩
  have mqa0 : 0 ≤ mq0 := by omega
  have mqb0 : mq0 ≤ 2097153 := by omega
  rw [hmk]
  clear hmk
  have nkk : ¬ mq0 < 0 := by omega
  have ka1 := (at_get' KA_9.out).1
  have ka2 := (at_get' KA_9.out).2.1
  go_wp2_with fail
  refine (eqIntS_any _ _ _ _ _ _ _ _ _ _ _ ((OG_9.out.rd (by omega)).2) ((OS_9.out.rd (by omega)).2)).mono ?_
  rintro e w11 ⟨rfl, hb⟩
  clear ka1 ka2
  rw [eqD_self]
  have B_10 := hid (btr B_9.out hb)
  have hz_10 := hb.size
  have KA_10 := hid ((hb.block _ (Array.getElem?_eq_some_iff.1 KA_9.out).1).trans KA_9.out)
  have OS_10 := hid (OS_9.out.bl hb)
  have OG_10 := hid (OG_9.out.bl hb)
  clear hb
  have ka1 := (at_get' KA_10.out).1
  have ka2 := (at_get' KA_10.out).2.1
  go_wp2_with fail
  refine (markIntS_res DG xs.length dG _ xs 1 _ OG_10.out rfl hxl (by omega) (by omega)).mono ?_
  rintro e w12 ⟨rfl, y1, hc⟩
  clear ka1 ka2
  have B_11 := hid (B_10.out.trans (hc.below B_10.out.size (fun k hk => by have hu9 := (OG_10.out.own_lt hk).1; omega)))
  have hz_11 := hc.size
  have KA_11 := hid ((hc.block _ (Array.getElem?_eq_some_iff.1 KA_10.out).1 (fun hk => by have hu9 := (OG_10.out.own_lt hk).1; omega)).trans KA_10.out)
  have OS_11 := hid (OS_10.out.flat intS_flat hc fun k hv hk => by have hu := US.out k hv; have hu9 := (OG_10.out.own_lt hk).1; omega)
  have RG := hid y1
  clear hc y1
  have htt : ((1 + (xs.length : Int)) != (1 + (xs.length : Int))) = false := by simp
  have htn : ¬ (1 + (xs.length : Int)) < 0 := by omega
  have ka1 := (at_get' KA_11.out).1
  have ka2 := (at_get' KA_11.out).2.1
  go_wp2_with fail
  refine (heldIntS_any _ _ _ _ 1 _ RG.out hxl (by omega) (by omega)).mono ?_
  rintro e w' ⟨rfl, rfl⟩
  clear ka1 ka2
  have ka1 := (at_get' KA_11.out).1
  have ka2 := (at_get' KA_11.out).2.1
  go_wp2_with fail
  refine (toModel_any _ _ _ _ _ _ _ _ _ _ (L0.out.bl B_11.out) (R0.out.bl B_11.out) hn0 hm0 S0.out).mono ?_
  rintro e w13 ⟨gh0, fh0, rfl, y1, y2, hb⟩
  clear ka1 ka2
  have B_12 := hid (btr B_11.out hb)
  have hz_12 := hb.size
  have KA_12 := hid ((hb.block _ (Array.getElem?_eq_some_iff.1 KA_11.out).1).trans KA_11.out)
  have OS_12 := hid (OS_11.out.bl hb)
  have RG_12 := hid (RG.out.bl hb)
  have Xh0 := hid (y1.wide (lo' := 0) (Nat.zero_le _) (Nat.le_refl _))
  have Yh0 := hid (y2.wide (lo' := 0) (Nat.zero_le _) (Nat.le_refl _))
  clear hb y1 y2
  have ka1 := (at_get' KA_12.out).1
  have ka2 := (at_get' KA_12.out).2.1
  go_wp2_with fail
  refine (implModelStates_any _ _ _ _ _ _ _ _ _ _ (Xh0.out) (Yh0.out)).mono ?_
  intro e w14 hres
  unfold RetI at hres
  rw [HV.out] at hres
  obtain ⟨DH, dH, rfl, y1, hb⟩ := hres
  clear ka1 ka2
  have B_13 := hid (btr B_12.out hb)
  have hz_13 := hb.size
  have KA_13 := hid ((hb.block _ (Array.getElem?_eq_some_iff.1 KA_12.out).1).trans KA_12.out)
  have OS_13 := hid (OS_12.out.bl hb)
  have RG_13 := hid (RG_12.out.bl hb)
  have Xh0_13 := hid (Xh0.out.bl hb)
  have Yh0_13 := hid (Yh0.out.bl hb)
  have OH := hid y1
  have UH := hid fun k (hk : (Value.slice DH xs.length dH).ownBlock = some k) => (y1.own_lt hk).2
  clear hb y1
  have ka1 := (at_get' KA_13.out).1
  have ka2 := (at_get' KA_13.out).2.1
  go_wp2_with fail
  refine (eqIntS_any _ _ _ _ _ _ _ _ _ _ _ ((OH.out.rd (by omega)).2) ((OS_13.out.rd (by omega)).2)).mono ?_
  rintro e w15 ⟨rfl, hb⟩
  clear ka1 ka2
  rw [eqD_self]
  have B_14 := hid (btr B_13.out hb)
  have hz_14 := hb.size
  have KA_14 := hid ((hb.block _ (Array.getElem?_eq_some_iff.1 KA_13.out).1).trans KA_13.out)
  have OS_14 := hid (OS_13.out.bl hb)
  have RG_14 := hid (RG_13.out.bl hb)
  have OH_14 := hid (OH.out.bl hb)
  clear hb
  have ka1 := (at_get' KA_14.out).1
  have ka2 := (at_get' KA_14.out).2.1
  go_wp2_with fail
  refine (heldIntS_any _ _ _ _ 1 _ RG_14.out hxl (by omega) (by omega)).mono ?_
  rintro e w' ⟨rfl, rfl⟩
  clear ka1 ka2
  have ka1 := (at_get' KA_14.out).1
  have ka2 := (at_get' KA_14.out).2.1
  go_wp2_with fail
  go_ret
  exact ⟨rfl, B_14.out⟩
end Go.Proofs.Ytoincfpffioioaa
