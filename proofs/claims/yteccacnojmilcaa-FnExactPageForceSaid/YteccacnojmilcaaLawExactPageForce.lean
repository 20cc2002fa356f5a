/- The law FnExactPageForce returns true for all arguments that can be read. -/
import Derived.Test.YteccacnojmilcaaForce3
import Derived.Test.YteccacnojmilcaaForceB
import Derived.Test.YteccacnojmilcaaModNest
import Derived.Test.YteccacnojmilcaaSzUb
import Derived.Deep.RegionHeld3
namespace Go.Proofs.Yteccacnojmilcaa
open Go.RowKit
set_option maxRecDepth 100000 in
set_option maxHeartbeats 4000000 in
theorem lawExactPageForce (a0 : Int) (A1 : Option Addr) (n1 c1 : Nat) (l1 : List (List Int)) (a2 : Int) (a3 : Int) (w : World)
    (h1 : Rd (sliceS intS) 0 w.heap.size w A1 n1 l1) :
    Calls Try.prog 5 #[.int .i64 a0, .slice A1 n1 c1, .int .i64 a2, .int .i64 a3] w fun e w' => e = .returned (.bool true) ∧ Below w.heap.size w w' := by
  have L1 := hid h1
  have HN1 := hid h1.1
  have h63_1 := h1.2.1
  clear h1
  have BW0 := hid (Below.refl w.heap.size w)
  obtain ⟨xs, hV⟩ : ∃ xs : List (List Int), (forceV a0 l1 a2 a3).getD [] = xs := ⟨_, rfl⟩
  obtain ⟨ok, hVO⟩ : ∃ ok : Bool, (forceV a0 l1 a2 a3).isSome = ok := ⟨_, rfl⟩
  have hxl : xs.length ≤ 1048576 ∧ (∀ x ∈ xs, x.length ≤ 1048576) ∧ sumLen (xs.map List.length) ≤ 1048576 := by rw [← hV]; exact forceV_bd a0 l1 a2 a3
  have hxl1 := hxl.1
  have HXL := hid hxl.2
  clear hxl
  have HV := hid hV
  have HVO := hid hVO
  clear hV hVO
  have hokk : (ok != ok) = false := by simp
  go_enter Try.func5, Try.ntmps5
  go_wp2_with fail
  refine (szIntSS_any _ _ _ _ _ _ _ (L1.out.bl BW0.out) (by omega) (by omega)).mono ?_
  rintro e w' ⟨rfl, rfl⟩
  obtain ⟨s1, es1⟩ : ∃ s, szRows l1 1048576 = s := ⟨_, rfl⟩
  have su1 := szRows_ub (rows := l1) (l := 1048576) (by omega)
  rw [es1] at su1 ⊢
  have ES1 := hid es1
  clear es1
  by_cases sn1 : s1 < 0
  case pos =>
    go_wp2_with fail
    go_ret
    exact ⟨rfl, BW0.out⟩
  case neg =>
  obtain ⟨t1, t2⟩ := szRows_le (rows := l1) (l := 1048576) (by omega) (by have := ES1.out; omega)
  have hn1 : n1 ≤ 1048576 := by have := HN1.out; omega
  have S1 := hid (show ∀ x ∈ l1, x.length ≤ 1048576 from fun x hx => by have := t2 x hx; omega)
  have Q1 := hid (szRows_sum (rows := l1) (l := 1048576) (by omega) (by have := ES1.out; omega))
  clear t1 t2
  go_wp2_with fail
  refine (toIntSS_any _ _ _ _ _ _ (L1.out.bl BW0.out) hn1 S1.out).mono ?_
  rintro e w1 ⟨gs1, rfl, y1, hb⟩
  have B_1 := hid (btr BW0.out hb)
  have hz_1 := hb.size
  have Xs1 := hid (y1.wide (lo' := 0) (Nat.zero_le _) (Nat.le_refl _))
  clear hb y1
  go_wp2_with fail
  refine (specPageForce_any _ _ _ 0 _ _ _ _ _ (Xs1.out)).mono ?_
  intro e w2 hres
  unfold RetRB at hres
  rw [HV.out, HVO.out] at hres
  obtain ⟨DS, dS, rsS, rfl, y1, y2, hb⟩ := hres
  have B_2 := hid (btr B_1.out hb)
  have hz_2 := hb.size
  have Xs1_2 := hid (Xs1.out.bl hb)
  have OS := hid y1
  have ES := hid y2
  have US := hid fun k (hk : (Value.slice DS xs.length dS).ownBlock = some k) => (y1.own.own_lt hk).2
  clear hb y1 y2
  go_wp2_with fail
  refine (toIntSS_nest _ _ _ _ _ _ (L1.out.bl B_2.out) hn1 S1.out).mono ?_
  rintro e w3 ⟨g1, rs1, rfl, y2, y3, hb⟩
  have B_3 := hid (btr B_2.out hb)
  have hz_3 := hb.size
  have OS_3 := hid (OS.out.bl hb)
  have N1 := hid y2
  have E1 := hid y3
  clear hb y2 y3
  go_wp2_with fail
  refine (implPageForce_any _ _ _ 0 _ _ _ _ _ (N1.out.rd0 E1.out (by have := HN1.out; omega))).mono ?_
  intro e w4 hres
  unfold RetRB at hres
  rw [HV.out, HVO.out] at hres
  obtain ⟨DG, dG, rsG, rfl, y1, y2, hb⟩ := hres
  have B_4 := hid (btr B_3.out hb)
  have hz_4 := hb.size
  have OS_4 := hid (OS_3.out.bl hb)
  have N1_4 := hid (N1.out.bl hb)
  have OG := hid y1
  have EG := hid y2
  have UG := hid fun k (hk : (Value.slice DG xs.length dG).ownBlock = some k) => (y1.own.own_lt hk).2
  clear hb y1 y2
  go_wp2_with fail
  refine (eqIntSS_any _ _ _ _ _ _ _ _ _ _ _ ((OG.out.rd0 EG.out (by omega))) ((OS_4.out.rd0 ES.out (by omega)))).mono ?_
  rintro e w5 ⟨rfl, hb⟩
  rw [eqD_self]
  have B_5 := hid (btr B_4.out hb)
  have hz_5 := hb.size
  have OS_5 := hid (OS_4.out.bl hb)
  have N1_5 := hid (N1_4.out.bl hb)
  have OG_5 := hid (OG.out.bl hb)
  clear hb
  go_wp2_with fail
  refine (toIntSS_any _ _ _ _ _ _ (L1.out.bl B_5.out) hn1 S1.out).mono ?_
  rintro e w6 ⟨gz1, rfl, y1, hb⟩
  have B_6 := hid (btr B_5.out hb)
  have hz_6 := hb.size
  have OS_6 := hid (OS_5.out.bl hb)
  have N1_6 := hid (N1_5.out.bl hb)
  have OG_6 := hid (OG_5.out.bl hb)
  have Z1 := hid y1
  clear hb y1
  go_wp2_with fail
  refine (eqIntSS_any _ _ _ _ _ _ _ _ _ _ _ (N1_6.out.rd0 E1.out (by have := HN1.out; omega)) Z1.out).mono ?_
  rintro e w7 ⟨rfl, hb⟩
  rw [eqD_self]
  have B_7 := hid (btr B_6.out hb)
  have hz_7 := hb.size
  have OS_7 := hid (OS_6.out.bl hb)
  have N1_7 := hid (N1_6.out.bl hb)
  have OG_7 := hid (OG_6.out.bl hb)
  have Z1_7 := hid (Z1.out.bl hb)
  clear hb
  have ls1 : sumLen (lensR rs1) ≤ 1048576 := by rw [lensR_of E1.out]; have := Q1.out; omega
  have lr1 : rs1.length ≤ 1048576 := by have h1 := congrArg List.length E1.out; rw [List.length_map] at h1; have := HN1.out; omega
  have HLN1 := hid (rows_le E1.out S1.out)
  go_wp2_with fail
  refine (markIntSS_any _ _ _ _ _ _ _ rs1 1 _ N1_7.out lr1 (by omega) HLN1.out (by omega) (by omega)).mono ?_
  rintro e w8 ⟨rfl, -, hc⟩
  have B_8 := hid (B_7.out.trans (hc.below B_7.out.size (fun k hk => by obtain ⟨hk, hk2⟩ := hk; omega)))
  have hz_8 := hc.size
  have OS_8 := hid (OS_7.out.keep hc (fun k hv hk => by have hu := US.out k hv; obtain ⟨hk, hk2⟩ := hk; omega) (fun r hr hk => by have hu := (OS_7.out.row r hr).2.1; have hu2 := hk; obtain ⟨hk, hk2⟩ := hk; omega))
  have OG_8 := hid (OG_7.out.keep hc (fun k hv hk => by have hu := (OG_7.out.own.own_lt hv).1; obtain ⟨hk, hk2⟩ := hk; omega) (fun r hr hk => by have hu := (OG_7.out.row r hr).1; have hu2 := hk; obtain ⟨hk, hk2⟩ := hk; omega))
  clear hc
  obtain ⟨mq1, hmk⟩ : ∃ mk, 1 + (sumLen (lensR rs1) : Int) = mk := ⟨_, rfl⟩
  have mqa1 : 0 ≤ mq1 := by omega
  have mqb1 : mq1 ≤ 3145729 := by omega
  rw [hmk]
  clear hmk
  have nkk : ¬ mq1 < 0 := by omega
  go_wp2_with fail
  refine (eqIntSS_any _ _ _ _ _ _ _ _ _ _ _ ((OG_8.out.rd0 EG.out (by omega))) ((OS_8.out.rd0 ES.out (by omega)))).mono ?_
  rintro e w9 ⟨rfl, hb⟩
  rw [eqD_self]
  have B_9 := hid (btr B_8.out hb)
  have hz_9 := hb.size
  have OS_9 := hid (OS_8.out.bl hb)
  have OG_9 := hid (OG_8.out.bl hb)
  clear hb
  have lsG : sumLen (lensR rsG) ≤ 1048576 := by rw [lensR_of EG.out]; exact HXL.out.2
  have lrG : rsG.length ≤ 1048576 := by have h1 := congrArg List.length EG.out; rw [List.length_map] at h1; omega
  have HLNG := hid (rows_le EG.out HXL.out.1)
  go_wp2_with fail
  refine (markIntSS_any _ _ _ _ _ _ _ rsG 1 _ OG_9.out lrG (by omega) HLNG.out (by omega) (by omega)).mono ?_
  rintro e w10 ⟨rfl, y1, hc⟩
  have B_10 := hid (B_9.out.trans (hc.below B_9.out.size (fun k hk => by obtain ⟨hk, hk2⟩ := hk; omega)))
  have hz_10 := hc.size
  have OS_10 := hid (OS_9.out.keep hc (fun k hv hk => by have hu := US.out k hv; obtain ⟨hk, hk2⟩ := hk; omega) (fun r hr hk => by have hu := (OS_9.out.row r hr).2.1; have hu2 := hk; obtain ⟨hk, hk2⟩ := hk; omega))
  have RG := hid (show Rd (sliceS intS) 0 w10.heap.size w10 DG xs.length (marksSS 1 (lensR rsG)) from y1.rd0 (markR_lists _ _) (by rw [marksSS_length]; simp only [lensR, List.length_map]; omega))
  clear hc y1
  have htt : ((1 + (sumLen (lensR rsG) : Int)) != (1 + (sumLen (lensR rsG) : Int))) = false := by simp
  have htn : ¬ (1 + (sumLen (lensR rsG) : Int)) < 0 := by omega
  go_wp2_with fail
  refine (heldIntSS_any _ _ _ _ (lensR rsG) 1 _ RG.out (by omega) (lens_le HLNG.out) (by omega) (by omega)).mono ?_
  rintro e w' ⟨rfl, rfl⟩
  go_wp2_with fail
  refine (toIntSS_any _ _ _ _ _ _ (L1.out.bl B_10.out) hn1 S1.out).mono ?_
  rintro e w11 ⟨gh1, rfl, y1, hb⟩
  have B_11 := hid (btr B_10.out hb)
  have hz_11 := hb.size
  have OS_11 := hid (OS_10.out.bl hb)
  have RG_11 := hid (RG.out.bl hb)
  have Xh1 := hid (y1.wide (lo' := 0) (Nat.zero_le _) (Nat.le_refl _))
  clear hb y1
  go_wp2_with fail
  refine (implPageForce_any _ _ _ 0 _ _ _ _ _ (Xh1.out)).mono ?_
  intro e w12 hres
  unfold RetRB at hres
  rw [HV.out, HVO.out] at hres
  obtain ⟨DH, dH, rsH, rfl, y1, y2, hb⟩ := hres
  have B_12 := hid (btr B_11.out hb)
  have hz_12 := hb.size
  have OS_12 := hid (OS_11.out.bl hb)
  have RG_12 := hid (RG_11.out.bl hb)
  have Xh1_12 := hid (Xh1.out.bl hb)
  have OH := hid y1
  have EH := hid y2
  have UH := hid fun k (hk : (Value.slice DH xs.length dH).ownBlock = some k) => (y1.own.own_lt hk).2
  clear hb y1 y2
  go_wp2_with fail
  refine (eqIntSS_any _ _ _ _ _ _ _ _ _ _ _ ((OH.out.rd0 EH.out (by omega))) ((OS_12.out.rd0 ES.out (by omega)))).mono ?_
  rintro e w13 ⟨rfl, hb⟩
  rw [eqD_self]
  have B_13 := hid (btr B_12.out hb)
  have hz_13 := hb.size
  have OS_13 := hid (OS_12.out.bl hb)
  have RG_13 := hid (RG_12.out.bl hb)
  have OH_13 := hid (OH.out.bl hb)
  clear hb
  go_wp2_with fail
  refine (heldIntSS_any _ _ _ _ (lensR rsG) 1 _ RG_13.out (by omega) (lens_le HLNG.out) (by omega) (by omega)).mono ?_
  rintro e w' ⟨rfl, rfl⟩
  go_wp2_with fail
  go_ret
  exact ⟨rfl, B_13.out⟩
end Go.Proofs.Yteccacnojmilcaa
