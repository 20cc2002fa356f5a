/- The law FnExactBriefsUsed returns true for all arguments that can be read. -/
import Derived.Test.YthijnojefeeaoaaUsedR
import Derived.Test.YthijnojefeeaoaaUsedW
import Derived.Test.YthijnojefeeaoaaMarkB2
import Derived.Test.YthijnojefeeaoaaMarkI
import Derived.Deep.RegionHeld3
namespace Go.Proofs.Ythijnojefeeaoaa
open Go.RowKit
set_option maxRecDepth 100000 in
set_option maxHeartbeats 4000000 in
theorem lawExactBriefsUsed (A0 : Option Addr) (n0 c0 : Nat) (l0 : List BriefT) (A1 : Option Addr) (n1 c1 : Nat) (l1 : List ByteArray) (w : World)
    (h0 : Rd briefS 0 w.heap.size w A0 n0 l0) (h1 : Rd strS 0 w.heap.size w A1 n1 l1) :
    Calls Try.prog 5 #[.slice A0 n0 c0, .slice A1 n1 c1] w fun e w' => e = .returned (.bool true) ∧ Below w.heap.size w w' := by
  have L0 := hid h0
  have HN0 := hid h0.1
  have h63_0 := h0.2.1
  have L1 := hid h1
  have HN1 := hid h1.1
  have h63_1 := h1.2.1
  clear h0 h1
  have BW0 := hid (Below.refl w.heap.size w)
  obtain ⟨xs, hV⟩ : ∃ xs : List Int, usedV l0 l1 = xs := ⟨_, rfl⟩
  have hxl : xs.length ≤ 1048576 := by rw [← hV]; exact usedV_len l0 l1
  have HV := hid hV
  clear hV
  go_enter Try.func5, Try.ntmps5
  go_wp2_with fail
  refine (szBriefS_any _ _ _ _ _ _ _ (L0.out.bl BW0.out) (by omega) (by omega)).mono ?_
  rintro e w1 ⟨rfl, hb⟩
  have B_1 := hid (btr BW0.out hb)
  have hz_1 := hb.size
  clear hb
  obtain ⟨s0, es0⟩ : ∃ s, szBS l0 1048576 = s := ⟨_, rfl⟩
  have su0 := szBS_ub (bs := l0) (l := 1048576) (by omega)
  rw [es0] at su0 ⊢
  have ES0 := hid es0
  clear es0
  by_cases sn0 : s0 < 0
  case pos =>
    go_wp2_with fail
    go_ret
    exact ⟨rfl, B_1.out⟩
  case neg =>
  obtain ⟨t1, t2⟩ := szBS_len (bs := l0) (l := 1048576) (by omega) (by have := ES0.out; omega)
  have hn0 : n0 ≤ 1048576 := by have := HN0.out; omega
  have S0 := hid (show ∀ b ∈ l0, b.2.length ≤ 1048576 from fun b hb => by have := t2 b hb; omega)
  have Q0 := hid (szBS_sum (bs := l0) (l := 1048576) (by omega) (by have := ES0.out; omega))
  clear t1 t2
  go_wp2_with fail
  refine (szStringS_any _ _ _ _ _ _ _ (L1.out.bl B_1.out) (by omega) (by omega)).mono ?_
  rintro e w' ⟨rfl, rfl⟩
  obtain ⟨s1, es1⟩ : ∃ s, szStr l1 s0 = s := ⟨_, rfl⟩
  have su1 := szStr_ub (ws := l1) (l := s0) (by omega)
  rw [es1] at su1 ⊢
  have ES1 := hid es1
  clear es1
  by_cases sn1 : s1 < 0
  case pos =>
    go_wp2_with fail
    go_ret
    exact ⟨rfl, B_1.out⟩
  case neg =>
  have t1 := szStr_len (ws := l1) (l := s0) (by omega) (by have := ES1.out; omega)
  have hn1 : n1 ≤ 1048576 := by have := HN1.out; omega
  clear t1
  go_wp2_with fail
  refine (toBriefS_any _ _ _ _ _ _ (L0.out.bl B_1.out) hn0 S0.out).mono ?_
  rintro e w2 ⟨gs0, rfl, y1, hb⟩
  have B_2 := hid (btr B_1.out hb)
  have hz_2 := hb.size
  have Xs0 := hid (y1.wide (lo' := 0) (Nat.zero_le _) (Nat.le_refl _))
  clear hb y1
  go_wp2_with fail
  refine (toStringS_any _ _ _ _ _ _ (L1.out.bl B_2.out) hn1).mono ?_
  rintro e w3 ⟨gs1, rfl, y1, hb⟩
  have B_3 := hid (btr B_2.out hb)
  have hz_3 := hb.size
  have Xs0_3 := hid (Xs0.out.bl hb)
  have Xs1 := hid (y1.wide (lo' := 0) (Nat.zero_le _) (Nat.le_refl _))
  clear hb y1
  go_wp2_with fail
  refine (specBriefsUsed_any _ _ _ _ _ _ _ _ _ (Nat.le_refl _) (by omega) (Xs0_3.out) (Xs1.out)).mono ?_
  intro e w4 hres
  unfold RetI at hres
  rw [HV.out] at hres
  obtain ⟨DS, dS, rfl, y1, hb⟩ := hres
  have B_4 := hid (btr B_3.out hb)
  have hz_4 := hb.size
  have Xs0_4 := hid (Xs0_3.out.bl hb)
  have Xs1_4 := hid (Xs1.out.bl hb)
  have OS := hid y1
  have US := hid fun k (hk : (Value.slice DS xs.length dS).ownBlock = some k) => (y1.own_lt hk).2
  clear hb y1
  go_wp2_with fail
  refine (toBriefS_nest _ _ _ _ _ _ (L0.out.bl B_4.out) hn0 S0.out).mono ?_
  rintro e w5 ⟨g0, rs0, rfl, y2, y3, hb⟩
  have B_5 := hid (btr B_4.out hb)
  have hz_5 := hb.size
  have OS_5 := hid (OS.out.bl hb)
  have N0 := hid y2
  have E0 := hid y3
  have hgl0 : g0 < w5.heap.size := (y2.own.own_lt rfl).2
  clear hb y2 y3
  go_wp2_with fail
  refine (toStringS_row _ _ _ _ _ _ (L1.out.bl B_5.out) hn1).mono ?_
  rintro e w6 ⟨g1, rfl, y1, hg1, hb⟩
  have B_6 := hid (btr B_5.out hb)
  have hz_6 := hb.size
  have OS_6 := hid (OS_5.out.bl hb)
  have N0_6 := hid (N0.out.bl hb)
  have G1 := hid y1
  have hgl1 := y1.lt
  clear hb y1
  go_wp2_with fail
  refine (implBriefsUsed_any _ _ _ _ _ _ _ _ _ (Nat.le_refl _) (Nat.le_refl _) (by omega) (N0_6.out.rd0 E0.out (by have := HN0.out; omega)) (G1.out.rd0 HN1.out)).mono ?_
  intro e w7 hres
  unfold RetI at hres
  rw [HV.out] at hres
  obtain ⟨DG, dG, rfl, y1, hb⟩ := hres
  have B_7 := hid (btr B_6.out hb)
  have hz_7 := hb.size
  have OS_7 := hid (OS_6.out.bl hb)
  have N0_7 := hid (N0_6.out.bl hb)
  have G1_7 := hid (G1.out.kept (hb.block _ G1.out.lt))
  have OG := hid y1
  have UG := hid fun k (hk : (Value.slice DG xs.length dG).ownBlock = some k) => (y1.own_lt hk).2
  clear hb y1
  go_wp2_with fail
  refine (eqIntS_any _ _ _ _ _ _ _ _ _ _ _ ((OG.out.rd (by omega)).2) ((OS_7.out.rd (by omega)).2)).mono ?_
  rintro e w8 ⟨rfl, hb⟩
  rw [eqD_self]
  have B_8 := hid (btr B_7.out hb)
  have hz_8 := hb.size
  have OS_8 := hid (OS_7.out.bl hb)
  have N0_8 := hid (N0_7.out.bl hb)
  have G1_8 := hid (G1_7.out.kept (hb.block _ G1_7.out.lt))
  have OG_8 := hid (OG.out.bl hb)
  clear hb
  go_wp2_with fail
  refine (toBriefS_any _ _ _ _ _ _ (L0.out.bl B_8.out) hn0 S0.out).mono ?_
  rintro e w9 ⟨gz0, rfl, y1, hb⟩
  have B_9 := hid (btr B_8.out hb)
  have hz_9 := hb.size
  have OS_9 := hid (OS_8.out.bl hb)
  have N0_9 := hid (N0_8.out.bl hb)
  have G1_9 := hid (G1_8.out.kept (hb.block _ G1_8.out.lt))
  have OG_9 := hid (OG_8.out.bl hb)
  have Z0 := hid y1
  clear hb y1
  go_wp2_with fail
  refine (eqBriefS_any _ _ _ _ _ _ _ _ _ _ _ (N0_9.out.rd0 E0.out (by have := HN0.out; omega)) Z0.out).mono ?_
  rintro e w10 ⟨rfl, hb⟩
  rw [eqD_self]
  have B_10 := hid (btr B_9.out hb)
  have hz_10 := hb.size
  have OS_10 := hid (OS_9.out.bl hb)
  have N0_10 := hid (N0_9.out.bl hb)
  have G1_10 := hid (G1_9.out.kept (hb.block _ G1_9.out.lt))
  have OG_10 := hid (OG_9.out.bl hb)
  have Z0_10 := hid (Z0.out.bl hb)
  clear hb
  go_wp2_with fail
  refine (toStringS_any _ _ _ _ _ _ (L1.out.bl B_10.out) hn1).mono ?_
  rintro e w11 ⟨gz1, rfl, y1, hb⟩
  have B_11 := hid (btr B_10.out hb)
  have hz_11 := hb.size
  have OS_11 := hid (OS_10.out.bl hb)
  have N0_11 := hid (N0_10.out.bl hb)
  have G1_11 := hid (G1_10.out.kept (hb.block _ G1_10.out.lt))
  have OG_11 := hid (OG_10.out.bl hb)
  have Z1 := hid y1
  clear hb y1
  go_wp2_with fail
  refine (eqStringS_any _ _ _ _ _ _ _ _ _ _ _ (G1_11.out.rd0 HN1.out) Z1.out).mono ?_
  rintro e w12 ⟨rfl, hb⟩
  rw [eqD_self]
  have B_12 := hid (btr B_11.out hb)
  have hz_12 := hb.size
  have OS_12 := hid (OS_11.out.bl hb)
  have N0_12 := hid (N0_11.out.bl hb)
  have G1_12 := hid (G1_11.out.kept (hb.block _ G1_11.out.lt))
  have OG_12 := hid (OG_11.out.bl hb)
  have Z1_12 := hid (Z1.out.bl hb)
  clear hb
  have ls0 : sumB (lensB rs0) ≤ 1048576 := by rw [lensB_of E0.out]; have := Q0.out; omega
  have lr0 : rs0.length ≤ 1048576 := by have h1 := congrArg List.length E0.out; rw [List.length_map] at h1; have := HN0.out; omega
  have HLN0 := hid (dRows_le E0.out S0.out)
  go_wp2_with fail
  refine (markBriefS_some g0 n0 n0 _ _ rs0 1 _ N0_12.out (by omega) lr0 (by omega) HLN0.out (by omega) (by omega)).mono ?_
  rintro e w13 ⟨rfl, -, hc⟩
  have B_13 := hid (B_12.out.trans (hc.below B_12.out.size (fun k hk => by obtain ⟨hk, hk2⟩ := hk; omega)))
  have hz_13 := hc.size
  have OS_13 := hid (OS_12.out.flat intS_flat hc fun k hv hk => by have hu := US.out k hv; obtain ⟨hk, hk2⟩ := hk; omega)
  have G1_13 := hid (G1_12.out.chg hc (fun hk => by have hk0 := hk; obtain ⟨hk, hk2⟩ := hk; omega))
  have OG_13 := hid (OG_12.out.flat intS_flat hc fun k hv hk => by have hu := (OG_12.out.own_lt hv).1; obtain ⟨hk, hk2⟩ := hk; omega)
  clear hc
  obtain ⟨mq0, hmk⟩ : ∃ mk, 1 + (sumB (lensB rs0) : Int) = mk := ⟨_, rfl⟩
  have mqa0 : 0 ≤ mq0 := by omega
  have mqb0 : mq0 ≤ 1048577 := by omega
  rw [hmk]
  clear hmk
  go_wp2_with fail
  refine (markStringS_row g1 n1 n1 l1 mq0 _ G1_13.out HN1.out hn1 (by omega) (by omega)).mono ?_
  rintro e w14 ⟨rfl, -, hc⟩
  have B_14 := hid (B_13.out.trans (hc.below B_13.out.size (fun k hk => by omega)))
  have hz_14 := hc.size
  have OS_14 := hid (OS_13.out.flat intS_flat hc fun k hv hk => by have hu := US.out k hv; omega)
  have OG_14 := hid (OG_13.out.flat intS_flat hc fun k hv hk => by have hu := (OG_13.out.own_lt hv).1; omega)
  clear hc
  obtain ⟨mq1, hmk⟩ : ∃ mk, mq0 + (n1 : Int) = mk := ⟨_, rfl⟩
  have mqa1 : 0 ≤ mq1 := by omega
  have mqb1 : mq1 ≤ 2097153 := by omega
  rw [hmk]
  clear hmk
  have nkk : ¬ mq1 < 0 := by omega
  go_wp2_with fail
  refine (eqIntS_any _ _ _ _ _ _ _ _ _ _ _ ((OG_14.out.rd (by omega)).2) ((OS_14.out.rd (by omega)).2)).mono ?_
  rintro e w15 ⟨rfl, hb⟩
  rw [eqD_self]
  have B_15 := hid (btr B_14.out hb)
  have hz_15 := hb.size
  have OS_15 := hid (OS_14.out.bl hb)
  have OG_15 := hid (OG_14.out.bl hb)
  clear hb
  go_wp2_with fail
  refine (markIntS_res DG xs.length dG _ xs 1 _ OG_15.out rfl hxl (by omega) (by omega)).mono ?_
  rintro e w16 ⟨rfl, y1, hc⟩
  have B_16 := hid (B_15.out.trans (hc.below B_15.out.size (fun k hk => by have hu9 := (OG_15.out.own_lt hk).1; omega)))
  have hz_16 := hc.size
  have OS_16 := hid (OS_15.out.flat intS_flat hc fun k hv hk => by have hu := US.out k hv; have hu9 := (OG_15.out.own_lt hk).1; omega)
  have RG := hid y1
  clear hc y1
  have htt : ((1 + (xs.length : Int)) != (1 + (xs.length : Int))) = false := by simp
  have htn : ¬ (1 + (xs.length : Int)) < 0 := by omega
  go_wp2_with fail
  refine (heldIntS_any _ _ _ _ 1 _ RG.out hxl (by omega) (by omega)).mono ?_
  rintro e w' ⟨rfl, rfl⟩
  go_wp2_with fail
  refine (toBriefS_any _ _ _ _ _ _ (L0.out.bl B_16.out) hn0 S0.out).mono ?_
  rintro e w17 ⟨gh0, rfl, y1, hb⟩
  have B_17 := hid (btr B_16.out hb)
  have hz_17 := hb.size
  have OS_17 := hid (OS_16.out.bl hb)
  have RG_17 := hid (RG.out.bl hb)
  have Xh0 := hid (y1.wide (lo' := 0) (Nat.zero_le _) (Nat.le_refl _))
  clear hb y1
  go_wp2_with fail
  refine (toStringS_any _ _ _ _ _ _ (L1.out.bl B_17.out) hn1).mono ?_
  rintro e w18 ⟨gh1, rfl, y1, hb⟩
  have B_18 := hid (btr B_17.out hb)
  have hz_18 := hb.size
  have OS_18 := hid (OS_17.out.bl hb)
  have RG_18 := hid (RG_17.out.bl hb)
  have Xh0_18 := hid (Xh0.out.bl hb)
  have Xh1 := hid (y1.wide (lo' := 0) (Nat.zero_le _) (Nat.le_refl _))
  clear hb y1
  go_wp2_with fail
  refine (implBriefsUsed_any _ _ _ _ _ _ _ _ _ (Nat.le_refl _) (Nat.le_refl _) (by omega) (Xh0_18.out) (Xh1.out)).mono ?_
  intro e w19 hres
  unfold RetI at hres
  rw [HV.out] at hres
  obtain ⟨DH, dH, rfl, y1, hb⟩ := hres
  have B_19 := hid (btr B_18.out hb)
  have hz_19 := hb.size
  have OS_19 := hid (OS_18.out.bl hb)
  have RG_19 := hid (RG_18.out.bl hb)
  have Xh0_19 := hid (Xh0_18.out.bl hb)
  have Xh1_19 := hid (Xh1.out.bl hb)
  have OH := hid y1
  have UH := hid fun k (hk : (Value.slice DH xs.length dH).ownBlock = some k) => (y1.own_lt hk).2
  clear hb y1
  go_wp2_with fail
  refine (eqIntS_any _ _ _ _ _ _ _ _ _ _ _ ((OH.out.rd (by omega)).2) ((OS_19.out.rd (by omega)).2)).mono ?_
  rintro e w20 ⟨rfl, hb⟩
  rw [eqD_self]
  have B_20 := hid (btr B_19.out hb)
  have hz_20 := hb.size
  have OS_20 := hid (OS_19.out.bl hb)
  have RG_20 := hid (RG_19.out.bl hb)
  have OH_20 := hid (OH.out.bl hb)
  clear hb
  go_wp2_with fail
  refine (heldIntS_any _ _ _ _ 1 _ RG_20.out hxl (by omega) (by omega)).mono ?_
  rintro e w' ⟨rfl, rfl⟩
  go_wp2_with fail
  go_ret
  exact ⟨rfl, B_20.out⟩
end Go.Proofs.Ythijnojefeeaoaa
