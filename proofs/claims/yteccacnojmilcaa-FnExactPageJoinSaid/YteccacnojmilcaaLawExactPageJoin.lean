/- The law FnExactPageJoin returns true for all arguments that can be read. -/
import Derived.Test.YteccacnojmilcaaForce3
import Derived.Test.YteccacnojmilcaaForceB
import Derived.Test.YteccacnojmilcaaModNest
import Derived.Test.YteccacnojmilcaaSzUb
import Derived.Deep.RegionHeld3
namespace Go.Proofs.Yteccacnojmilcaa
open Go.RowKit
set_option maxRecDepth 100000 in
set_option maxHeartbeats 4000000 in
theorem lawExactPageJoin (a0 : Int) (A1 : Option Addr) (n1 c1 : Nat) (l1 : List (List Int)) (A2 : Option Addr) (n2 c2 : Nat) (l2 : List (List Int)) (w : World)
    (h1 : Rd (sliceS intS) 0 w.heap.size w A1 n1 l1) (h2 : Rd (sliceS intS) 0 w.heap.size w A2 n2 l2) :
    Calls Try.prog 3 #[.int .i64 a0, .slice A1 n1 c1, .slice A2 n2 c2] w fun e w' => e = .returned (.bool true) ∧ Below w.heap.size w w' := by
  have L1 := hid h1
  have HN1 := hid h1.1
  have h63_1 := h1.2.1
  have L2 := hid h2
  have HN2 := hid h2.1
  have h63_2 := h2.2.1
  clear h1 h2
  have BW0 := hid (Below.refl w.heap.size w)
  obtain ⟨xs, hV⟩ : ∃ xs : List (List Int), (joinV a0 l1 l2).getD [] = xs := ⟨_, rfl⟩
  obtain ⟨ok, hVO⟩ : ∃ ok : Bool, (joinV a0 l1 l2).isSome = ok := ⟨_, rfl⟩
  have hxl : xs.length ≤ 1048576 ∧ (∀ x ∈ xs, x.length ≤ 1048576) ∧ sumLen (xs.map List.length) ≤ 1048576 := by rw [← hV]; exact joinV_bd a0 l1 l2
  have hxl1 := hxl.1
  have HXL := hid hxl.2
  clear hxl
  have HV := hid hV
  have HVO := hid hVO
  clear hV hVO
  have hokk : (ok != ok) = false := by simp
  go_enter Try.func3, Try.ntmps3
  go_wp2_with fail
  refine (szIntSS_any _ _ _ _ _ _ _ (L1.out.bl BW0.out) (by omega) (by omega)).mono ?_
  rintro e w' ⟨rfl, rfl⟩
  obtain ⟨s1, es1⟩ : ∃ s, szRows l1 1048576 = s := ⟨_, rfl⟩
  have su1 := szRows_ub (rows := l1) (l := 1048576) (by omega)
  rw [es1] at su1 ⊢
  have ES1 := hid es1
  clear es1
  by_cases sn1 : s1 < 0
  case pos =>
    go_wp2_with fail
    go_ret
    exact ⟨rfl, BW0.out⟩
  case neg =>
  obtain ⟨t1, t2⟩ := szRows_le (rows := l1) (l := 1048576) (by omega) (by have := ES1.out; omega)
  have hn1 : n1 ≤ 1048576 := by have := HN1.out; omega
  have S1 := hid (show ∀ x ∈ l1, x.length ≤ 1048576 from fun x hx => by have := t2 x hx; omega)
  have Q1 := hid (szRows_sum (rows := l1) (l := 1048576) (by omega) (by have := ES1.out; omega))
  clear t1 t2
  go_wp2_with fail
  refine (szIntSS_any _ _ _ _ _ _ _ (L2.out.bl BW0.out) (by omega) (by omega)).mono ?_
  rintro e w' ⟨rfl, rfl⟩
  obtain ⟨s2, es2⟩ : ∃ s, szRows l2 s1 = s := ⟨_, rfl⟩
  have su2 := szRows_ub (rows := l2) (l := s1) (by omega)
  rw [es2] at su2 ⊢
  have ES2 := hid es2
  clear es2
  by_cases sn2 : s2 < 0
  case pos =>
    go_wp2_with fail
    go_ret
    exact ⟨rfl, BW0.out⟩
  case neg =>
  obtain ⟨t1, t2⟩ := szRows_le (rows := l2) (l := s1) (by omega) (by have := ES2.out; omega)
  have hn2 : n2 ≤ 1048576 := by have := HN2.out; omega
  have S2 := hid (show ∀ x ∈ l2, x.length ≤ 1048576 from fun x hx => by have := t2 x hx; omega)
  have Q2 := hid (szRows_sum (rows := l2) (l := s1) (by omega) (by have := ES2.out; omega))
  clear t1 t2
  go_wp2_with fail
  refine (toIntSS_any _ _ _ _ _ _ (L1.out.bl BW0.out) hn1 S1.out).mono ?_
  rintro e w1 ⟨gs1, rfl, y1, hb⟩
  have B_1 := hid (btr BW0.out hb)
  have hz_1 := hb.size
  have Xs1 := hid (y1.wide (lo' := 0) (Nat.zero_le _) (Nat.le_refl _))
  clear hb y1
  go_wp2_with fail
  refine (toIntSS_any _ _ _ _ _ _ (L2.out.bl B_1.out) hn2 S2.out).mono ?_
  rintro e w2 ⟨gs2, rfl, y1, hb⟩
  have B_2 := hid (btr B_1.out hb)
  have hz_2 := hb.size
  have Xs1_2 := hid (Xs1.out.bl hb)
  have Xs2 := hid (y1.wide (lo' := 0) (Nat.zero_le _) (Nat.le_refl _))
  clear hb y1
  go_wp2_with fail
  refine (specPageJoin_any _ _ _ _ _ _ 0 _ _ _ _ (Xs1_2.out) (Xs2.out)).mono ?_
  intro e w3 hres
  unfold RetRB at hres
  rw [HV.out, HVO.out] at hres
  obtain ⟨DS, dS, rsS, rfl, y1, y2, hb⟩ := hres
  have B_3 := hid (btr B_2.out hb)
  have hz_3 := hb.size
  have Xs1_3 := hid (Xs1_2.out.bl hb)
  have Xs2_3 := hid (Xs2.out.bl hb)
  have OS := hid y1
  have ES := hid y2
  have US := hid fun k (hk : (Value.slice DS xs.length dS).ownBlock = some k) => (y1.own.own_lt hk).2
  clear hb y1 y2
  go_wp2_with fail
  refine (toIntSS_nest _ _ _ _ _ _ (L1.out.bl B_3.out) hn1 S1.out).mono ?_
  rintro e w4 ⟨g1, rs1, rfl, y2, y3, hb⟩
  have B_4 := hid (btr B_3.out hb)
  have hz_4 := hb.size
  have OS_4 := hid (OS.out.bl hb)
  have N1 := hid y2
  have E1 := hid y3
  clear hb y2 y3
  go_wp2_with fail
  refine (toIntSS_nest _ _ _ _ _ _ (L2.out.bl B_4.out) hn2 S2.out).mono ?_
  rintro e w5 ⟨g2, rs2, rfl, y2, y3, hb⟩
  have B_5 := hid (btr B_4.out hb)
  have hz_5 := hb.size
  have OS_5 := hid (OS_4.out.bl hb)
  have N1_5 := hid (N1.out.bl hb)
  have N2 := hid y2
  have E2 := hid y3
  clear hb y2 y3
  go_wp2_with fail
  refine (implPageJoin_any _ _ _ _ _ _ 0 _ _ _ _ (N1_5.out.rd0 E1.out (by have := HN1.out; omega)) (N2.out.rd0 E2.out (by have := HN2.out; omega))).mono ?_
  intro e w6 hres
  unfold RetRB at hres
  rw [HV.out, HVO.out] at hres
  obtain ⟨DG, dG, rsG, rfl, y1, y2, hb⟩ := hres
  have B_6 := hid (btr B_5.out hb)
  have hz_6 := hb.size
  have OS_6 := hid (OS_5.out.bl hb)
  have N1_6 := hid (N1_5.out.bl hb)
  have N2_6 := hid (N2.out.bl hb)
  have OG := hid y1
  have EG := hid y2
  have UG := hid fun k (hk : (Value.slice DG xs.length dG).ownBlock = some k) => (y1.own.own_lt hk).2
  clear hb y1 y2
  go_wp2_with fail
  refine (eqIntSS_any _ _ _ _ _ _ _ _ _ _ _ ((OG.out.rd0 EG.out (by omega))) ((OS_6.out.rd0 ES.out (by omega)))).mono ?_
  rintro e w7 ⟨rfl, hb⟩
  rw [eqD_self]
  have B_7 := hid (btr B_6.out hb)
  have hz_7 := hb.size
  have OS_7 := hid (OS_6.out.bl hb)
  have N1_7 := hid (N1_6.out.bl hb)
  have N2_7 := hid (N2_6.out.bl hb)
  have OG_7 := hid (OG.out.bl hb)
  clear hb
  go_wp2_with fail
  refine (toIntSS_any _ _ _ _ _ _ (L1.out.bl B_7.out) hn1 S1.out).mono ?_
  rintro e w8 ⟨gz1, rfl, y1, hb⟩
  have B_8 := hid (btr B_7.out hb)
  have hz_8 := hb.size
  have OS_8 := hid (OS_7.out.bl hb)
  have N1_8 := hid (N1_7.out.bl hb)
  have N2_8 := hid (N2_7.out.bl hb)
  have OG_8 := hid (OG_7.out.bl hb)
  have Z1 := hid y1
  clear hb y1
  go_wp2_with fail
  refine (eqIntSS_any _ _ _ _ _ _ _ _ _ _ _ (N1_8.out.rd0 E1.out (by have := HN1.out; omega)) Z1.out).mono ?_
  rintro e w9 ⟨rfl, hb⟩
  rw [eqD_self]
  have B_9 := hid (btr B_8.out hb)
  have hz_9 := hb.size
  have OS_9 := hid (OS_8.out.bl hb)
  have N1_9 := hid (N1_8.out.bl hb)
  have N2_9 := hid (N2_8.out.bl hb)
  have OG_9 := hid (OG_8.out.bl hb)
  have Z1_9 := hid (Z1.out.bl hb)
  clear hb
  go_wp2_with fail
  refine (toIntSS_any _ _ _ _ _ _ (L2.out.bl B_9.out) hn2 S2.out).mono ?_
  rintro e w10 ⟨gz2, rfl, y1, hb⟩
  have B_10 := hid (btr B_9.out hb)
  have hz_10 := hb.size
  have OS_10 := hid (OS_9.out.bl hb)
  have N1_10 := hid (N1_9.out.bl hb)
  have N2_10 := hid (N2_9.out.bl hb)
  have OG_10 := hid (OG_9.out.bl hb)
  have Z2 := hid y1
  clear hb y1
  go_wp2_with fail
  refine (eqIntSS_any _ _ _ _ _ _ _ _ _ _ _ (N2_10.out.rd0 E2.out (by have := HN2.out; omega)) Z2.out).mono ?_
  rintro e w11 ⟨rfl, hb⟩
  rw [eqD_self]
  have B_11 := hid (btr B_10.out hb)
  have hz_11 := hb.size
  have OS_11 := hid (OS_10.out.bl hb)
  have N1_11 := hid (N1_10.out.bl hb)
  have N2_11 := hid (N2_10.out.bl hb)
  have OG_11 := hid (OG_10.out.bl hb)
  have Z2_11 := hid (Z2.out.bl hb)
  clear hb
  have ls1 : sumLen (lensR rs1) ≤ 1048576 := by rw [lensR_of E1.out]; have := Q1.out; omega
  have lr1 : rs1.length ≤ 1048576 := by have h1 := congrArg List.length E1.out; rw [List.length_map] at h1; have := HN1.out; omega
  have HLN1 := hid (rows_le E1.out S1.out)
  go_wp2_with fail
  refine (markIntSS_any _ _ _ _ _ _ _ rs1 1 _ N1_11.out lr1 (by omega) HLN1.out (by omega) (by omega)).mono ?_
  rintro e w12 ⟨rfl, -, hc⟩
  have B_12 := hid (B_11.out.trans (hc.below B_11.out.size (fun k hk => by obtain ⟨hk, hk2⟩ := hk; omega)))
  have hz_12 := hc.size
  have OS_12 := hid (OS_11.out.keep hc (fun k hv hk => by have hu := US.out k hv; obtain ⟨hk, hk2⟩ := hk; omega) (fun r hr hk => by have hu := (OS_11.out.row r hr).2.1; have hu2 := hk; obtain ⟨hk, hk2⟩ := hk; omega))
  have N2_12 := hid (N2_11.out.keep hc (fun k hv hk => by have hu := (N2_11.out.own.own_lt hv).1; obtain ⟨hk, hk2⟩ := hk; omega) (fun r hr hk => by have hu := (N2_11.out.row r hr).1; have hu2 := hk; obtain ⟨hk, hk2⟩ := hk; omega))
  have OG_12 := hid (OG_11.out.keep hc (fun k hv hk => by have hu := (OG_11.out.own.own_lt hv).1; obtain ⟨hk, hk2⟩ := hk; omega) (fun r hr hk => by have hu := (OG_11.out.row r hr).1; have hu2 := hk; obtain ⟨hk, hk2⟩ := hk; omega))
  clear hc
  obtain ⟨mq1, hmk⟩ : ∃ mk, 1 + (sumLen (lensR rs1) : Int) = mk := ⟨_, rfl⟩
  have mqa1 : 0 ≤ mq1 := by omega
  have mqb1 : mq1 ≤ 1048577 := by omega
  rw [hmk]
  clear hmk
  have ls2 : sumLen (lensR rs2) ≤ 1048576 := by rw [lensR_of E2.out]; have := Q2.out; omega
  have lr2 : rs2.length ≤ 1048576 := by have h1 := congrArg List.length E2.out; rw [List.length_map] at h1; have := HN2.out; omega
  have HLN2 := hid (rows_le E2.out S2.out)
  go_wp2_with fail
  refine (markIntSS_any _ _ _ _ _ _ _ rs2 mq1 _ N2_12.out lr2 (by omega) HLN2.out (by omega) (by omega)).mono ?_
  rintro e w13 ⟨rfl, -, hc⟩
  have B_13 := hid (B_12.out.trans (hc.below B_12.out.size (fun k hk => by obtain ⟨hk, hk2⟩ := hk; omega)))
  have hz_13 := hc.size
  have OS_13 := hid (OS_12.out.keep hc (fun k hv hk => by have hu := US.out k hv; obtain ⟨hk, hk2⟩ := hk; omega) (fun r hr hk => by have hu := (OS_12.out.row r hr).2.1; have hu2 := hk; obtain ⟨hk, hk2⟩ := hk; omega))
  have OG_13 := hid (OG_12.out.keep hc (fun k hv hk => by have hu := (OG_12.out.own.own_lt hv).1; obtain ⟨hk, hk2⟩ := hk; omega) (fun r hr hk => by have hu := (OG_12.out.row r hr).1; have hu2 := hk; obtain ⟨hk, hk2⟩ := hk; omega))
  clear hc
  obtain ⟨mq2, hmk⟩ : ∃ mk, mq1 + (sumLen (lensR rs2) : Int) = mk := ⟨_, rfl⟩
  have mqa2 : 0 ≤ mq2 := by omega
  have mqb2 : mq2 ≤ 2097153 := by omega
  rw [hmk]
  clear hmk
  have nkk : ¬ mq2 < 0 := by omega
  go_wp2_with fail
  refine (eqIntSS_any _ _ _ _ _ _ _ _ _ _ _ ((OG_13.out.rd0 EG.out (by omega))) ((OS_13.out.rd0 ES.out (by omega)))).mono ?_
  rintro e w14 ⟨rfl, hb⟩
  rw [eqD_self]
  have B_14 := hid (btr B_13.out hb)
  have hz_14 := hb.size
  have OS_14 := hid (OS_13.out.bl hb)
  have OG_14 := hid (OG_13.out.bl hb)
  clear hb
  have lsG : sumLen (lensR rsG) ≤ 1048576 := by rw [lensR_of EG.out]; exact HXL.out.2
  have lrG : rsG.length ≤ 1048576 := by have h1 := congrArg List.length EG.out; rw [List.length_map] at h1; omega
  have HLNG := hid (rows_le EG.out HXL.out.1)
  go_wp2_with fail
  refine (markIntSS_any _ _ _ _ _ _ _ rsG 1 _ OG_14.out lrG (by omega) HLNG.out (by omega) (by omega)).mono ?_
  rintro e w15 ⟨rfl, y1, hc⟩
  have B_15 := hid (B_14.out.trans (hc.below B_14.out.size (fun k hk => by obtain ⟨hk, hk2⟩ := hk; omega)))
  have hz_15 := hc.size
  have OS_15 := hid (OS_14.out.keep hc (fun k hv hk => by have hu := US.out k hv; obtain ⟨hk, hk2⟩ := hk; omega) (fun r hr hk => by have hu := (OS_14.out.row r hr).2.1; have hu2 := hk; obtain ⟨hk, hk2⟩ := hk; omega))
  have RG := hid (show Rd (sliceS intS) 0 w15.heap.size w15 DG xs.length (marksSS 1 (lensR rsG)) from y1.rd0 (markR_lists _ _) (by rw [marksSS_length]; simp only [lensR, List.length_map]; omega))
  clear hc y1
  have htt : ((1 + (sumLen (lensR rsG) : Int)) != (1 + (sumLen (lensR rsG) : Int))) = false := by simp
  have htn : ¬ (1 + (sumLen (lensR rsG) : Int)) < 0 := by omega
  go_wp2_with fail
  refine (heldIntSS_any _ _ _ _ (lensR rsG) 1 _ RG.out (by omega) (lens_le HLNG.out) (by omega) (by omega)).mono ?_
  rintro e w' ⟨rfl, rfl⟩
  go_wp2_with fail
  refine (toIntSS_any _ _ _ _ _ _ (L1.out.bl B_15.out) hn1 S1.out).mono ?_
  rintro e w16 ⟨gh1, rfl, y1, hb⟩
  have B_16 := hid (btr B_15.out hb)
  have hz_16 := hb.size
  have OS_16 := hid (OS_15.out.bl hb)
  have RG_16 := hid (RG.out.bl hb)
  have Xh1 := hid (y1.wide (lo' := 0) (Nat.zero_le _) (Nat.le_refl _))
  clear hb y1
  go_wp2_with fail
  refine (toIntSS_any _ _ _ _ _ _ (L2.out.bl B_16.out) hn2 S2.out).mono ?_
  rintro e w17 ⟨gh2, rfl, y1, hb⟩
  have B_17 := hid (btr B_16.out hb)
  have hz_17 := hb.size
  have OS_17 := hid (OS_16.out.bl hb)
  have RG_17 := hid (RG_16.out.bl hb)
  have Xh1_17 := hid (Xh1.out.bl hb)
  have Xh2 := hid (y1.wide (lo' := 0) (Nat.zero_le _) (Nat.le_refl _))
  clear hb y1
  go_wp2_with fail
  refine (implPageJoin_any _ _ _ _ _ _ 0 _ _ _ _ (Xh1_17.out) (Xh2.out)).mono ?_
  intro e w18 hres
  unfold RetRB at hres
  rw [HV.out, HVO.out] at hres
  obtain ⟨DH, dH, rsH, rfl, y1, y2, hb⟩ := hres
  have B_18 := hid (btr B_17.out hb)
  have hz_18 := hb.size
  have OS_18 := hid (OS_17.out.bl hb)
  have RG_18 := hid (RG_17.out.bl hb)
  have Xh1_18 := hid (Xh1_17.out.bl hb)
  have Xh2_18 := hid (Xh2.out.bl hb)
  have OH := hid y1
  have EH := hid y2
  have UH := hid fun k (hk : (Value.slice DH xs.length dH).ownBlock = some k) => (y1.own.own_lt hk).2
  clear hb y1 y2
  go_wp2_with fail
  refine (eqIntSS_any _ _ _ _ _ _ _ _ _ _ _ ((OH.out.rd0 EH.out (by omega))) ((OS_18.out.rd0 ES.out (by omega)))).mono ?_
  rintro e w19 ⟨rfl, hb⟩
  rw [eqD_self]
  have B_19 := hid (btr B_18.out hb)
  have hz_19 := hb.size
  have OS_19 := hid (OS_18.out.bl hb)
  have RG_19 := hid (RG_18.out.bl hb)
  have OH_19 := hid (OH.out.bl hb)
  clear hb
  go_wp2_with fail
  refine (heldIntSS_any _ _ _ _ (lensR rsG) 1 _ RG_19.out (by omega) (lens_le HLNG.out) (by omega) (by omega)).mono ?_
  rintro e w' ⟨rfl, rfl⟩
  go_wp2_with fail
  go_ret
  exact ⟨rfl, B_19.out⟩
end Go.Proofs.Yteccacnojmilcaa
