/- The law FnBriefsUsed returns true for all arguments that can be read. -/
import Derived.Test.YthijnojefeeaoaaFew
import Derived.Test.YthijnojefeeaoaaAppM
import Derived.Test.YthijnojefeeaoaaHasInt
import Derived.Test.YthijnojefeeaoaaSame
import Derived.Test.YthijnojefeeaoaaUsedR
import Derived.Test.YthijnojefeeaoaaUsedW
import Derived.Test.YthijnojefeeaoaaRegInv
namespace Go.Proofs.Ythijnojefeeaoaa
open Go.RowKit
attribute [local go_sem] Oper.semAt_some
theorem any_take {α : Type} [Inhabited α] {l : List α} {k : Nat} (h : k < l.length) (p : α → Bool) : (l.take (k + 1)).any p = ((l.take k).any p || p (gt l k)) := by
  rw [take_gt h, List.any_append]; simp
set_option maxRecDepth 100000 in
set_option maxHeartbeats 1000000 in
theorem lawBriefsUsed (A0 : Option Addr) (n0 c0 : Nat) (l0 : List UInt8) (A9 : Option Addr) (n9 c9 : Nat) (l9 : List UInt8) (w : World) (hnc : n0 ≤ c0) (hx : Rd byteS 0 w.heap.size w A0 n0 l0) (_hnc9 : n9 ≤ c9) (hx9 : Rd byteS 0 w.heap.size w A9 n9 l9) :
    Calls Try.prog 4 #[.slice A0 n0 c0, .slice A9 n9 c9] w fun e w' => e = .returned (.bool true) ∧ Below w.heap.size w w' := by
  obtain ⟨i1, hi1, hz0, hz1, hz2⟩ := info_parts (show (Try.prog.info? 31).map (fun i => (i.zero, i.size, i.bytes)) = some (some (.agg #[.string ⟨#[]⟩, .slice none 0 0]), 2, 40) by kernel_rfl)
  have HJ := hid (And.intro hi1 (And.intro hz0 (And.intro hz1 hz2)))
  clear hi1 hz0 hz1 hz2
  have hn63 := hx.2.1
  have HX := hid hx
  clear hx
  have hn93 := hx9.2.1
  clear hx9
  by_cases hn0 : n0 ≤ 1048576
  case neg =>
    have gn0 : (1048576 : Int) < (n0 : Int) := by omega
    go_enter Try.func4, Try.ntmps4
    go_wp2_with fail
    go_ret
    exact ⟨rfl, Below.refl _ _⟩
  by_cases hn9 : n9 ≤ 1048576
  case neg =>
    have gn9 : (1048576 : Int) < (n9 : Int) := by omega
    have gn0 : ¬ (1048576 : Int) < (n0 : Int) := by omega
    go_enter Try.func4, Try.ntmps4
    go_wp2_with fail
    go_ret
    exact ⟨rfl, Below.refl _ _⟩
  have gn0 : ¬ (1048576 : Int) < (n0 : Int) := by omega
  have gn9 : ¬ (1048576 : Int) < (n9 : Int) := by omega
  go_enter Try.func4, Try.ntmps4
  go_wp2_with fail
  refine (DrawBriefsUsed_any A0 n0 c0 l0 w hnc HX.out).mono ?_
  rintro e w1 ⟨A, n, c, bs, B, m, d, ws, rfl, ⟨hnc1, hn6, hsm⟩, ⟨hmd, hm8, hd63, hws⟩, hx1, hy1, hb1⟩
  have HB := hid hb1
  have RX1 := hid hx1
  have RY1 := hid hy1
  clear hx1 hy1 hb1 hsm hws
  have hul := usedV_len bs ws
  have HI := hid (implBriefsUsed_any A B n c m d bs ws w1 hnc1 hmd hd63 RX1.out RY1.out)
  have HS := hid fun W hb => specBriefsUsed_any A B n c m d bs ws W hmd hd63 (RX1.out.bl (w' := W) hb) (RY1.out.bl hb)
  obtain ⟨X, hX⟩ : ∃ X, usedV bs ws = X := ⟨_, rfl⟩
  rw [hX] at HI HS hul
  have HXV := hid hX
  clear hX
  go_wp2_with fail
  refine HI.out.mono ?_
  intro e w2 hres
  obtain ⟨A7, c7, rfl, h7, hR7, hb2⟩ := i_rd0 hres hul
  have HB2 := hid hb2
  have RU2 := hid hR7
  clear hres hR7 hb2 HI
  go_wp2_with fail
  refine (HS.out w2 HB2.out).mono ?_
  intro e w3 hres
  obtain ⟨A8, c8, rfl, h8, hR8, hb3⟩ := i_rd0 hres hul
  have RU3 := hid (RU2.out.bl hb3)
  have RV3 := hid hR8
  have HB3 := hid (btr HB2.out hb3)
  clear hres hR8 hb3 HS
  go_wp2_with fail
  refine (sameInts_any _ _ _ _ _ _ _ _ _ _ _ RU3.out RV3.out).mono ?_
  rintro e w4 ⟨rfl, hb4⟩
  have RU4 := hid (RU3.out.bl hb4)
  have RV4 := hid (RV3.out.bl hb4)
  have HB4 := hid (btr HB3.out hb4)
  clear hb4 RU3 RV3 RU2 HB2 HB3
  rw [eqD_self]
  obtain ⟨U, hU⟩ : ∃ U, X.length = U := ⟨_, rfl⟩
  rw [hU] at RU4 RV4 h7 h8 hul ⊢
  have HU := hid hU
  clear hU
  by_cases hU0 : U = 0
  case pos =>
    subst hU0
    go_wp2_with fail
    refine (sameInts_any _ _ _ _ _ _ _ _ _ _ _ RU4.out RV4.out).mono ?_
    rintro e w5 ⟨rfl, hb5⟩
    have HB5 := hid (btr HB4.out hb5)
    clear hb5
    rw [eqD_self]
    go_wp2_with fail
    go_ret
    exact ⟨rfl, HB.out.trans (HB5.out.mono HB.out.size)⟩
  case neg =>
  have hUb : ((U : Int) == 0) = false := by rw [beq_eq_false_iff_ne]; omega
  have hUn : ¬ (U : Int) = 0 := by omega
  have hdo : deskOk bs ws = true := by
    cases h : deskOk bs ws with
    | true => rfl
    | false =>
      exfalso
      have h1 := HXV.out
      unfold usedV at h1
      rw [h] at h1
      have h2 := HU.out
      rw [← h1] at h2
      exact hU0 h2.symm
  have hXu : (usedN bs ws).map (fun j : Nat => (j : Int)) = X := by rw [← HXV.out]; unfold usedV; rw [hdo]
  obtain ⟨us, hus⟩ : ∃ us, usedN bs ws = us := ⟨_, rfl⟩
  have hin : ∀ j, j ∈ us ↔ j < n ∧ (bestV bs ws).contains (gt bs j).1 = true := fun j => by
    rw [← hus]
    unfold usedN
    rw [List.mem_filter, List.mem_range, ← RX1.out.1]
  rw [hus] at hXu
  have hul2 : us.length = U := by rw [← HU.out, ← hXu, List.length_map]
  subst hXu
  have HIN := hid hin
  have HUL := hid hul2
  have HDO := hid hdo
  have hbo : bestO bs ws = some (bestV bs ws) := by unfold bestO; rw [hdo]
  have hbl := bestO_len bs ws
  rw [hbo] at hbl
  have RX4 := hid (RX1.out.bl HB4.out)
  have RY4 := hid (RY1.out.bl HB4.out)
  have hbest := implCopyBest_any A B n c m d bs ws w4 hnc1 hmd hd63 RX4.out RY4.out
  rw [hbo] at hbest
  obtain ⟨V, hV⟩ : ∃ V, bestV bs ws = V := ⟨_, rfl⟩
  rw [hV] at hbest hbl HIN
  have HBE := hid hbest
  have HBL := hid hbl
  clear hdo hin hul2 hbo hbl hbest hus hV HXV RV4 RX1 RY1
  go_wp2_with fail
  refine HBE.out.mono ?_
  intro e w5 hres
  obtain ⟨A5, c5, rfl, h5, _, hR5, hb5⟩ := sb_rd hres HBL.out
  simp only [Option.getD_some, Option.isSome_some] at h5 hR5 ⊢
  have hVl := HBL.out
  simp only [Option.getD_some] at hVl
  obtain ⟨v, hv⟩ : ∃ v, V.length = v := ⟨_, rfl⟩
  rw [hv] at h5 hR5 hVl ⊢
  have HVL := hid hv
  have RG := hid hR5
  have RX := hid (RX4.out.bl hb5)
  have RY := hid (RY4.out.bl hb5)
  have RU := hid (RU4.out.bl hb5)
  have HB5 := hid (HB.out.trans ((btr HB4.out hb5).mono HB.out.size))
  clear hres hR5 hb5 HBE HBL hv RX4 RY4 RU4 HB HB4
  go_wp2_with fail
  go_loopg [11, 12, 13] n (fun gk i l12 l13 wr => ∃ k : Nat, k + gk = n ∧ i = .int .i64 k ∧ Below w5.heap.size w5 wr)
  case atStart => exact ⟨0, Nat.zero_add _, rfl, Below.refl _ _⟩
  case round =>
    obtain ⟨k, hkg, rfl, hb⟩ := hrel
    have HKG := hid hkg
    have HB := hid hb
    have hk : k ≤ n := by omega
    have hwz := hb.size
    clear hkg hb
    by_cases hlt : k < n
    case pos =>
      have hki : (k : Int) < (n : Int) := by omega
      obtain ⟨bA, oA, rfl, _, hbA, hcA⟩ := RX.out.2.2 (by omega)
      obtain ⟨_, _, x0, _, x2, _, _⟩ := hcA.brief hlt
      obtain ⟨mk, hmk⟩ : ∃ mk, (gt bs k).1 = mk := ⟨_, rfl⟩
      rw [hmk] at x0 x2
      have HMK := hid hmk
      have HX0 := hid x0
      clear hcA hmk x0
      obtain ⟨wo, hwo⟩ : ∃ x : World, x = wr := ⟨_, rfl⟩
      subst hwo
      obtain ⟨go_, hgo⟩ : ∃ x : Nat, x = gk := ⟨_, rfl⟩
      subst hgo
      go_wp2_with fail
      go_loopg [12, 13] v (fun gk fd j wr => ∃ q : Nat, q + gk = v ∧ j = .int .i64 q ∧ fd = .bool ((V.take q).any fun t => eqD t mk) ∧ Below w5.heap.size w5 wr)
      case atStart => exact ⟨0, Nat.zero_add _, rfl, by simp, HB.out⟩
      case round =>
        obtain ⟨q, hqg, rfl, rfl, hb⟩ := hrel
        have HQG := hid hqg
        have HB2 := hid hb
        have hq : q ≤ v := by omega
        have hwz2 := hb.size
        clear hqg hb
        obtain ⟨fd, hfd⟩ : ∃ fd, ((V.take q).any fun t => eqD t mk) = fd := ⟨_, rfl⟩
        rw [hfd]
        have HFD := hid hfd
        clear hfd
        by_cases hltq : q < v
        case pos =>
          have hqi : (q : Int) < (v : Int) := by omega
          obtain ⟨bG, oG, rfl, _, hbG, hcG⟩ := RG.out.2.2 (by omega)
          have y0 := bcl HB2.out (hcG.str hltq).1
          have HAT := hid (any_take (l := V) (k := q) (by rw [HVL.out]; exact hltq) fun t => eqD t mk)
          obtain ⟨t, ht⟩ : ∃ t, gt V q = t := ⟨_, rfl⟩
          rw [ht, HFD.out] at HAT
          rw [ht] at y0
          have z0 := bcl HB2.out HX0.out
          have ay := aft_cell (B := wr.heap.size) (w0 := wr) (block_lt_of_cell y0) y0
          have az := aft_cell (B := wr.heap.size) (w0 := wr) (block_lt_of_cell z0) z0
          clear hcG ht
          cases fd with
          | true =>
            go_wp2_with fail
            refine wp_region_aft (B := wr.heap.size) (w0 := wr) (Below.refl _ _) (by kernel_rfl) (by kernel_rfl) ?_
            repeat (go_big_quiet_step (fail))
            refine wpQuiet_nil ?_
            rintro w8 ⟨⟨w7, hb7⟩, hw7⟩
            have hw9 : w8 = w7 := hw7
            clear hw7
            subst hw9
            have HB7 := hid (HB2.out.trans (hb7.mono HB2.out.size))
            clear hb7 ay az y0 z0
            go_wp2_with fail
            go_roundg (gk - 1)
            case measure => have := HQG.out; omega
            case rel => exact ⟨q + 1, by have := HQG.out; omega, by go_num, by rw [HAT.out]; rfl, HB7.out⟩
          | false =>
            go_wp2_with fail
            refine wp_region_aft (B := wr.heap.size) (w0 := wr) (Below.refl _ _) (by kernel_rfl) (by kernel_rfl) ?_
            repeat (go_big_quiet_step (fail))
            refine wpQuiet_nil ?_
            rintro w8 ⟨⟨w7, hb7⟩, hw7⟩
            have hw9 : w8 = w7 := hw7
            clear hw7
            subst hw9
            have HB7 := hid (HB2.out.trans (hb7.mono HB2.out.size))
            clear hb7 ay az y0 z0
            have hbe : (t.toList == mk.toList) = eqD t mk := by
              by_cases h : t = mk
              · rw [h, str_eq, eqD_self]
              · rw [str_ne h, eqD_no h]
            rw [hbe]
            clear hbe
            go_wp2_with fail
            go_roundg (gk - 1)
            case measure => have := HQG.out; omega
            case rel => exact ⟨q + 1, by have := HQG.out; omega, by go_num, by rw [HAT.out]; rfl, HB7.out⟩
        case neg =>
          obtain rfl : q = v := by omega
          have hfv : hasJ (us.map fun j : Nat => (j : Int)) (k : Int) = fd := by
            have h1 := HFD.out
            rw [List.take_of_length_le (Nat.le_of_eq HVL.out)] at h1
            rw [← h1, Bool.eq_iff_iff, hasJ_iff, List.mem_map, List.any_eq_true]
            constructor
            · rintro ⟨j, hj, hjk⟩
              have : j = k := by omega
              subst this
              have := ((HIN.out j).1 hj).2
              rw [HMK.out, List.contains_iff_mem] at this
              exact ⟨mk, this, eqD_self _⟩
            · rintro ⟨t, ht, hte⟩
              rw [eqD_iff] at hte
              subst hte
              exact ⟨k, (HIN.out k).2 ⟨hlt, by rw [HMK.out, List.contains_iff_mem]; exact ht⟩, rfl⟩
          have HH := hid (hasInt_any A7 U c7 0 (us.map fun j : Nat => (j : Int)) (k : Int) wr (RU.out.bl HB2.out))
          rw [hfv] at HH
          clear hfv HFD
          go_wp2_with fail
          refine HH.out.mono ?_
          rintro e w8 ⟨rfl, rfl⟩
          cases fd <;> (
            go_wp2_with fail
            go_roundg (go_ - 1)
            case measure => have := HKG.out; omega
            case rel => exact ⟨k + 1, by have := HKG.out; omega, by go_num, HB2.out⟩)
    case neg =>
      obtain rfl : k = n := by omega
      obtain ⟨at_, hat⟩ : ∃ a, n9 % U = a := ⟨_, rfl⟩
      have ha1 : (n9 : Int) % (U : Int) = (at_ : Int) := by rw [← hat, Int.natCast_emod]
      have ha2 : Int.tmod (n9 : Int) (U : Int) = (at_ : Int) := by rw [Int.tmod_eq_emod_of_nonneg (by omega)]; exact ha1
      have hatU : at_ < U := by rw [← hat]; exact Nat.mod_lt _ (by omega)
      have hati : (at_ : Int) < (U : Int) := by omega
      clear hat ha1
      obtain ⟨bU, oU, rfl, _, hbU, hcU⟩ := RU.out.2.2 (by omega)
      have u0 := bcl HB.out (hcU.int hatU)
      rw [gt_map (by rw [HUL.out]; exact hatU)] at u0
      obtain ⟨j, hj⟩ : ∃ j, gt us at_ = j := ⟨_, rfl⟩
      have hjk : j < k := by
        have := ((HIN.out (gt us at_)).1 (gt_mem (by rw [HUL.out]; exact hatU))).1
        rw [hj] at this
        exact this
      rw [hj] at u0
      clear hcU hj
      have RX2 := hid (RX.out.bl HB.out)
      have RY2 := hid (RY.out.bl HB.out)
      obtain ⟨ps, hpl, hpA, hps⟩ := prs_ex RX2.out
      obtain ⟨bA, oA, rfl, hbA⟩ := hpA (by omega)
      have HPL := hid hpl
      have HPS := hid fun i hi => hps i hi bA oA rfl
      clear hpl hpA hps
      have hji : (j : Int) < (k : Int) := by omega
      have hjc : (j : Int) ≤ (c : Int) := by omega
      have hjcn : j ≤ c := by omega
      have hc0 : ¬ (c = 0) := by omega
      have hj1 : (j : Int) + 1 ≤ (k : Int) := by omega
      have hj1c : (j : Int) + 1 ≤ (c : Int) := by omega
      have hj1n : j + 1 ≤ k := by omega
      have hj1cn : j + 1 ≤ c := by omega
      have hw1 : IntKind.i64.wrap ((j : Int) + 1) = (j : Int) + 1 := IntWalk.i64_in _ (by omega)
      have hplk : (ps.take j).length = j := by rw [List.length_take, HPL.out]; omega
      have hpld : (ps.drop (j + 1)).length = k - (j + 1) := by rw [List.length_drop, HPL.out]
      have hjj : j + (k - (j + 1)) = k - 1 := by omega
      have HTC := hid fun i (hi : i < j) => show wr.cell? ⟨bA, oA + i * 2, none⟩ = some (.string (gt (ps.take j) i).1) ∧ (gt (ps.take j) i).1.size ≤ 9223372036854775807 ∧ wr.cell? ⟨bA, oA + i * 2 + 1, none⟩ = some (gt (ps.take j) i).2 ∧ (gt (ps.take j) i).2.oneCell' = true by
        have hg : gt (ps.take j) i = gt ps i := by simp [gt, hi]
        obtain ⟨p1, p2, p3, p4, A1, c1, p5, _⟩ := HPS.out i (by omega)
        rw [hg]
        rw [← p4] at p1 p2
        exact ⟨p1, p2, p3, by rw [p5]; rfl⟩
      have HDC := hid fun i (hi : i < k - (j + 1)) => show wr.cell? ⟨bA, oA + (j + 1) * 2 + i * 2, none⟩ = some (.string (gt (ps.drop (j + 1)) i).1) ∧ (gt (ps.drop (j + 1)) i).1.size ≤ 9223372036854775807 ∧ wr.cell? ⟨bA, oA + (j + 1) * 2 + i * 2 + 1, none⟩ = some (gt (ps.drop (j + 1)) i).2 ∧ (gt (ps.drop (j + 1)) i).2.oneCell' = true by
        have hg : gt (ps.drop (j + 1)) i = gt ps (j + 1 + i) := by simp [gt]
        obtain ⟨p1, p2, p3, p4, A1, c1, p5, _⟩ := HPS.out (j + 1 + i) (by omega)
        rw [hg]
        rw [← p4] at p1 p2
        rw [show oA + (j + 1 + i) * 2 = oA + (j + 1) * 2 + i * 2 by omega] at p1 p3
        exact ⟨p1, p2, p3, by rw [p5]; rfl⟩
      have hrel : ∀ i, i < k - 1 → ∃ i', i' < k ∧ gt (ps.take j ++ ps.drop (j + 1)) i = gt ps i' ∧ gt (bs.take j ++ bs.drop (j + 1)) i = gt bs i' := fun i hi => by
        have hbk := RX2.out.1
        have hpk := HPL.out
        by_cases h : i < j
        · refine ⟨i, by omega, ?_, ?_⟩
          · rw [gt_append (by rw [List.length_take]; omega)]; simp [gt, h]
          · rw [gt_append (by rw [List.length_take]; omega)]; simp [gt, h]
        · have e1 : (ps.take j).length = j := hplk
          have e2 : (bs.take j).length = j := by rw [List.length_take]; omega
          refine ⟨i + 1, by omega, ?_, ?_⟩
          · unfold gt
            rw [List.getD_eq_getElem?_getD, List.getD_eq_getElem?_getD, List.getElem?_append_right (by omega), e1, List.getElem?_drop, show j + 1 + (i - j) = i + 1 by omega]
          · unfold gt
            rw [List.getD_eq_getElem?_getD, List.getD_eq_getElem?_getD, List.getElem?_append_right (by omega), e2, List.getElem?_drop, show j + 1 + (i - j) = i + 1 by omega]
      obtain ⟨hb0, hs0⟩ := desk_yes HDO.out
      have hsl : List.Sublist (bs.take j ++ bs.drop (j + 1)) bs := by
        have h1 : List.Sublist (bs.take j ++ bs.drop (j + 1)) (bs.take j ++ bs.drop j) := List.Sublist.append (List.Sublist.refl _) (List.drop_sublist_drop_left bs (Nat.le_succ j))
        rwa [List.take_append_drop] at h1
      have hlo : deskOk (bs.take j ++ bs.drop (j + 1)) ws = true := by unfold deskOk; rw [briefs_sub hsl hb0, hs0]; rfl
      obtain ⟨P, hP⟩ : ∃ P, gt (costs 1 0 (bs.take j ++ bs.drop (j + 1)) ws) 0 = P := ⟨_, rfl⟩
      obtain ⟨G, hG⟩ : ∃ G, gt (costs 1 0 bs ws) 0 = G := ⟨_, rfl⟩
      have hGP : G ≤ P := by
        rw [← hG, ← hP]
        exact least_sub (fun b hb => hsl.subset hb) (fun b hb => (briefs_wd hb0 b hb).1) ws
      have hlp : leastV 1 0 (bs.take j ++ bs.drop (j + 1)) ws = P := by unfold leastV; rw [hlo]; exact hP
      have hlg : leastV 1 0 bs ws = G := by unfold leastV; rw [HDO.out]; exact hG
      have hlsl : (bs.take j ++ bs.drop (j + 1)).length = k - 1 := by have := RX2.out.1; rw [List.length_append, List.length_take, List.length_drop]; omega
      have HRE := hid hrel
      have HLP := hid hlp
      have HLG := hid hlg
      have HLS := hid hlsl
      clear hrel hb0 hs0 hsl hlo hP hG hlp hlg hlsl
      by_cases hcj : c = j + 1
      case pos =>
        subst hcj
        have hpld0 : (ps.drop (j + 1)).length = 0 := by rw [hpld]; omega
        have hjj0 : j + 0 = k - 1 := by omega
        go_wp2_with fail
        refine wp_region_invH (by kernel_rfl) (by kernel_rfl) (fun L act X => ∃ v15 v91 v92 v93 v94 v95 v96 v97 v98 v99 v100 : Value, act = { tmps := #[Value.slice A0 n0 c0, Value.slice A9 n9 c9, undef, undef, u4, Value.slice (some ⟨bA, oA, none⟩) k (j + 1), Value.slice B m d, Value.slice (some ⟨bU, oU, none⟩) U c7, Value.slice A8 U c8, Value.slice A5 v c5, Value.bool true, Value.int IntKind.i64 ↑k, u12, u13, Value.int IntKind.i64 ↑j, v15, Value.slice A0 n0 c0, Value.int IntKind.i64 ↑n0, Value.bool false, Value.bool false, Value.slice A9 n9 c9, Value.int IntKind.i64 ↑n9, Value.bool false, Value.bool false, Value.tuple #[Value.slice (some ⟨bA, oA, none⟩) k (j + 1), Value.slice B m d], Value.slice A0 n0 c0, Value.tuple #[Value.slice (some ⟨bA, oA, none⟩) k (j + 1), Value.slice B m d], Value.slice (some ⟨bA, oA, none⟩) k (j + 1), Value.slice B m d, Value.slice (some ⟨bA, oA, none⟩) k (j + 1), Value.slice B m d, Value.slice (some ⟨bU, oU, none⟩) U c7, Value.slice (some ⟨bA, oA, none⟩) k (j + 1), Value.slice B m d, Value.slice A8 U c8, Value.slice (some ⟨bU, oU, none⟩) U c7, Value.slice A8 U c8, Value.bool true, Value.bool false, Value.bool false, Value.slice (some ⟨bU, oU, none⟩) U c7, Value.int IntKind.i64 ↑U, Value.bool false, Value.bool false, undef, undef, undef, Value.tuple #[Value.slice A5 v c5, Value.bool true], Value.slice (some ⟨bA, oA, none⟩) k (j + 1), Value.slice B m d, Value.tuple #[Value.slice A5 v c5, Value.bool true], Value.slice A5 v c5, Value.bool true, Value.int IntKind.i64 ↑k, Value.slice (some ⟨bA, oA, none⟩) k (j + 1), Value.int IntKind.i64 ↑k, Value.bool false, u57, u58, u59, u60, u61, u62, u63, u64, u65, u66, u67, u68, u69, u70, u71, u72, u73, u74, u75, u76, u77, u78, u79, u80, u81, u82, Value.slice (some ⟨bU, oU, none⟩) U c7, Value.slice A9 n9 c9, Value.int IntKind.i64 ↑n9, Value.slice (some ⟨bU, oU, none⟩) U c7, Value.int IntKind.i64 ↑U, Value.int IntKind.i64 ↑at_, Value.pointer (some ⟨bU, oU + at_, none⟩), Value.int IntKind.i64 ↑j, v91, v92, v93, v94, v95, v96, v97, v98, v99, v100, undef, undef, undef, undef, undef, undef, undef, undef, undef, undef], defers := [] } ∧
          (Below wr.heap.size wr X) ∧ (L 0 = false → L 4 = false) ∧ (L 4 = false → L 9 = false) ∧ (L 9 = false → L 10 = false) ∧ (L 0 = true → L 4 = false → ∃ g : Nat, v91 = .slice (some ⟨g, 0, none⟩) 0 0 ∧ OwnR brvS wr.heap.size X 31 (.slice (some ⟨g, 0, none⟩) 0 0) []) ∧ (L 1 = true → v92 = .slice (some ⟨bA, oA, none⟩) k (j + 1)) ∧ (L 2 = true → v93 = .int .i64 j) ∧ (L 3 = true → v94 = .slice (some ⟨bA, oA, none⟩) j (j + 1)) ∧ (L 4 = true → L 9 = false → ∃ (A1 : Option Addr) (c2 : Nat), v95 = .slice A1 j c2 ∧ OwnR brvS wr.heap.size X 31 (.slice A1 j c2) (ps.take j)) ∧ (L 5 = true → v96 = .slice (some ⟨bA, oA, none⟩) k (j + 1)) ∧ (L 6 = true → v97 = .int .i64 j) ∧ (L 7 = true → v98 = .int .i64 ((j : Int) + 1)) ∧ (L 8 = true → v99 = .slice (some ⟨bA, oA, none⟩) 0 0) ∧ (L 9 = true → ∃ (A1 : Option Addr) (c2 : Nat), v100 = .slice A1 (k - 1) c2 ∧ OwnR brvS wr.heap.size X 31 (.slice A1 (k - 1) c2) (ps.take j ++ ps.drop (j + 1))) ∧ (L 10 = true → v15 = v100)) ?_ ⟨?_, ?_, ?_, ?_, ?_, ?_, ?_, ?_, ?_, ?_, ?_, trivial⟩ ?_
        · exact ⟨_, _, _, _, _, _, _, _, _, _, _, rfl, bdr _, fun _ => rfl, fun _ => rfl, fun _ => rfl, fun h => (by cases h), fun h => (by cases h), fun h => (by cases h), fun h => (by cases h), fun h => (by cases h), fun h => (by cases h), fun h => (by cases h), fun h => (by cases h), fun h => (by cases h), fun h => (by cases h), fun h => (by cases h)⟩
        · rintro L act X K0 ⟨v15, v91, v92, v93, v94, v95, v96, v97, v98, v99, v100, rfl, hB, o0, o1, o2, f0, f1, f2, f3, f4, f5, f6, f7, f8, f9, f10⟩ hL hd hK
          have hb := bnew X (.cells #[] 31)
          clear hd
          refine ⟨rfl, ?_⟩
          go_simp
          exact hK _ _ ⟨_, _, _, _, _, _, _, _, _, _, _, rfl, btr hB hb, fun h => (by cases h), o1, o2, fun _ _ => ⟨_, rfl, OwnR.nil hB.size #[] rfl⟩, f1, f2, f3, fun h h9 => (by obtain ⟨A1, c2, e, l⟩ := f4 h h9; exact ⟨A1, c2, e, l.al _⟩), f5, f6, f7, f8, fun h => (by obtain ⟨A1, c2, e, l⟩ := f9 h; exact ⟨A1, c2, e, l.al _⟩), f10⟩
        · rintro L act X K0 ⟨v15, v91, v92, v93, v94, v95, v96, v97, v98, v99, v100, rfl, hB, o0, o1, o2, f0, f1, f2, f3, f4, f5, f6, f7, f8, f9, f10⟩ hL hd hK
          clear hd
          refine ⟨rfl, ?_⟩
          go_simp
          exact hK _ _ ⟨_, _, _, _, _, _, _, _, _, _, _, rfl, hB, o0, o1, o2, f0, fun _ => rfl, f2, f3, f4, f5, f6, f7, f8, f9, f10⟩
        · rintro L act X K0 ⟨v15, v91, v92, v93, v94, v95, v96, v97, v98, v99, v100, rfl, hB, o0, o1, o2, f0, f1, f2, f3, f4, f5, f6, f7, f8, f9, f10⟩ hL hd hK
          clear hd
          refine ⟨rfl, ?_⟩
          go_simp
          exact hK _ _ ⟨_, _, _, _, _, _, _, _, _, _, _, rfl, hB, o0, o1, o2, f0, f1, fun _ => rfl, f3, f4, f5, f6, f7, f8, f9, f10⟩
        · rintro L act X K0 ⟨v15, v91, v92, v93, v94, v95, v96, v97, v98, v99, v100, rfl, hB, o0, o1, o2, f0, f1, f2, f3, f4, f5, f6, f7, f8, f9, f10⟩ hL hd hK
          have d1 := hd ⟨1, .data⟩ (by simp) rfl
          obtain rfl := f1 d1
          have d2 := hd ⟨2, .data⟩ (by simp) rfl
          obtain rfl := f2 d2
          clear hd
          refine ⟨rfl, ?_⟩
          go_simp
          rw [if_pos (by omega)]
          exact hK _ _ ⟨_, _, _, _, _, _, _, _, _, _, _, rfl, hB, o0, o1, o2, f0, f1, f2, fun _ => rfl, f4, f5, f6, f7, f8, f9, f10⟩
        · rintro L act X K0 ⟨v15, v91, v92, v93, v94, v95, v96, v97, v98, v99, v100, rfl, hB, o0, o1, o2, f0, f1, f2, f3, f4, f5, f6, f7, f8, f9, f10⟩ hL hd hK
          have d0 := hd ⟨0, .data⟩ (by simp) rfl
          have d3 := hd ⟨3, .data⟩ (by simp) rfl
          obtain rfl := f3 d3
          obtain ⟨g, rfl, lE⟩ := f0 d0 hL
          have hXs := hB.size
          clear hd
          refine ⟨rfl, ?_⟩
          refine wp_append_brvs (.tmp 91) (.tmp 94) _ rfl Try.underlying23 HJ.out rfl (v := .slice (some ⟨g, 0, none⟩) 0 0) rfl lE rfl hplk (fun i hi => by obtain ⟨t1, t2, t3, t4⟩ := HTC.out i hi; exact ⟨bcl hB t1, t2, bcl hB t3, t4⟩) (by simp; omega) (by simp; omega) hXs ?_
          intro A' c' X2 hO2 hc hv
          rw [List.nil_append, List.length_nil, Nat.zero_add] at hO2
          rw [List.length_nil, Nat.zero_add]
          have hb : Below wr.heap.size X X2 := ⟨hc.os, hc.tape, hc.output, hc.size, fun i hi => hc.block i (by have := hB.size; omega) (fun e => by have := (lE.own_lt e).1; omega)⟩
          exact hK _ _ ⟨_, _, _, _, _, _, _, _, _, _, _, rfl, hB.trans hb, fun h => absurd ((d0).symm.trans h) (by decide), fun h => (by cases h), o2, fun _ h => (by cases h), f1, f2, f3, fun _ _ => ⟨A', c', rfl, hO2⟩, f5, f6, f7, f8, fun h => absurd ((o1 hL).symm.trans h) (by decide), f10⟩
        · rintro L act X K0 ⟨v15, v91, v92, v93, v94, v95, v96, v97, v98, v99, v100, rfl, hB, o0, o1, o2, f0, f1, f2, f3, f4, f5, f6, f7, f8, f9, f10⟩ hL hd hK
          clear hd
          refine ⟨rfl, ?_⟩
          go_simp
          exact hK _ _ ⟨_, _, _, _, _, _, _, _, _, _, _, rfl, hB, o0, o1, o2, f0, f1, f2, f3, f4, fun _ => rfl, f6, f7, f8, f9, f10⟩
        · rintro L act X K0 ⟨v15, v91, v92, v93, v94, v95, v96, v97, v98, v99, v100, rfl, hB, o0, o1, o2, f0, f1, f2, f3, f4, f5, f6, f7, f8, f9, f10⟩ hL hd hK
          clear hd
          refine ⟨rfl, ?_⟩
          go_simp
          exact hK _ _ ⟨_, _, _, _, _, _, _, _, _, _, _, rfl, hB, o0, o1, o2, f0, f1, f2, f3, f4, f5, fun _ => rfl, f7, f8, f9, f10⟩
        · rintro L act X K0 ⟨v15, v91, v92, v93, v94, v95, v96, v97, v98, v99, v100, rfl, hB, o0, o1, o2, f0, f1, f2, f3, f4, f5, f6, f7, f8, f9, f10⟩ hL hd hK
          have d6 := hd ⟨6, .data⟩ (by simp) rfl
          obtain rfl := f6 d6
          clear hd
          refine ⟨rfl, ?_⟩
          go_simp
          exact hK _ _ ⟨_, _, _, _, _, _, _, _, _, _, _, rfl, hB, o0, o1, o2, f0, f1, f2, f3, f4, f5, f6, fun _ => rfl, f8, f9, f10⟩
        · rintro L act X K0 ⟨v15, v91, v92, v93, v94, v95, v96, v97, v98, v99, v100, rfl, hB, o0, o1, o2, f0, f1, f2, f3, f4, f5, f6, f7, f8, f9, f10⟩ hL hd hK
          have d5 := hd ⟨5, .data⟩ (by simp) rfl
          obtain rfl := f5 d5
          have d7 := hd ⟨7, .data⟩ (by simp) rfl
          obtain rfl := f7 d7
          clear hd
          refine ⟨rfl, ?_⟩
          go_simp
          exact hK _ _ ⟨_, _, _, _, _, _, _, _, _, _, _, rfl, hB, o0, o1, o2, f0, f1, f2, f3, f4, f5, f6, f7, fun _ => rfl, f9, f10⟩
        · rintro L act X K0 ⟨v15, v91, v92, v93, v94, v95, v96, v97, v98, v99, v100, rfl, hB, o0, o1, o2, f0, f1, f2, f3, f4, f5, f6, f7, f8, f9, f10⟩ hL hd hK
          have d4 := hd ⟨4, .data⟩ (by simp) rfl
          have d8 := hd ⟨8, .data⟩ (by simp) rfl
          obtain rfl := f8 d8
          obtain ⟨A1, c2, rfl, lE⟩ := f4 d4 hL
          have hXs := hB.size
          clear hd
          refine ⟨rfl, ?_⟩
          refine wp_append_brvs (.tmp 95) (.tmp 99) _ rfl Try.underlying23 HJ.out rfl (v := .slice A1 j c2) rfl lE rfl hpld0 (fun i hi => absurd hi (by omega)) (by rw [hplk]; omega) (by rw [hplk]; omega) hXs ?_
          intro A' c' X2 hO2 hc hv
          rw [hplk, hjj0] at hO2
          rw [hplk, hjj0]
          have hb : Below wr.heap.size X X2 := ⟨hc.os, hc.tape, hc.output, hc.size, fun i hi => hc.block i (by have := hB.size; omega) (fun e => by have := (lE.own_lt e).1; omega)⟩
          exact hK _ _ ⟨_, _, _, _, _, _, _, _, _, _, _, rfl, hB.trans hb, o0, fun h => absurd ((d4).symm.trans h) (by decide), fun h => (by cases h), fun _ h => absurd (d4.symm.trans h) (by decide), f1, f2, f3, fun _ h => (by cases h), f5, f6, f7, f8, fun _ => ⟨A', c', rfl, hO2⟩, fun h => absurd ((o2 hL).symm.trans h) (by decide)⟩
        · rintro L act X K0 ⟨v15, v91, v92, v93, v94, v95, v96, v97, v98, v99, v100, rfl, hB, o0, o1, o2, f0, f1, f2, f3, f4, f5, f6, f7, f8, f9, f10⟩ hL hd hK
          have d9 := hd ⟨9, .data⟩ (by simp) rfl
          obtain ⟨A1, c2, rfl, lE⟩ := f9 d9
          clear hd
          refine ⟨rfl, ?_⟩
          go_simp
          exact hK _ _ ⟨_, _, _, _, _, _, _, _, _, _, _, rfl, hB, o0, o1, fun h => absurd ((d9).symm.trans h) (by decide), f0, f1, f2, f3, f4, f5, f6, f7, f8, fun _ => ⟨A1, c2, rfl, lE⟩, fun _ => rfl⟩
        · rintro L act X hLL ⟨v15, v91, v92, v93, v94, v95, v96, v97, v98, v99, v100, rfl, hB, o0, o1, o2, f0, f1, f2, f3, f4, f5, f6, f7, f8, f9, f10⟩
          obtain ⟨A1, c2, rfl, lO⟩ := f9 (hLL 9 (by simp))
          obtain rfl := f10 (hLL 10 (by simp))
          have hb := hB
          clear f0 f1 f2 f3 f4 f5 f6 f7 f8 f9 f10 hB o0 o1 o2 hLL
          have HBX := hid hb
          have hcap := (own_cap lO).1
          obtain ⟨hkf, hF⟩ := br_rd (ds := bs.take j ++ bs.drop (j + 1)) lO (by rw [HLS.out, List.length_append, hplk, hpld]; exact hjj) (by rw [HLS.out]; omega) (fun i hi => by
            rw [HLS.out] at hi
            obtain ⟨i2, h1, h2, h3⟩ := HRE.out i hi
            rw [h2, h3]
            obtain ⟨_, _, _, p4, A3, c3, p5, p6, p7⟩ := HPS.out i2 h1
            exact ⟨p4, A3, c3, p5, p6, p7.bl hb⟩)
          have HL1 := hid (implCopyLeast_any A1 B (k - 1) c2 m d (bs.take j ++ bs.drop (j + 1)) ws X hcap hmd hd63 hF (RY2.out.bl hb))
          have HL2 := hid fun W (hw : Below X.heap.size X W) => implCopyLeast_any (some ⟨bA, oA, none⟩) B k (j + 1) m d bs ws W hnc1 hmd hd63 ((RX2.out.bl hb).bl hw) ((RY2.out.bl hb).bl hw)
          rw [HLP.out] at HL1
          rw [HLG.out] at HL2
          clear hb lO hkf hF hcap
          go_wp2_with fail
          refine HL1.out.mono ?_
          rintro e w8 ⟨rfl, hb8⟩
          have HB8 := hid hb8
          clear hb8
          go_wp2_with fail
          refine (HL2.out w8 HB8.out).mono ?_
          rintro e w9 ⟨rfl, hb9⟩
          have HB9 := hid (btr HB8.out hb9)
          clear hb9
          go_wp2_with fail
          go_ret
          exact ⟨rfl, HB5.out.trans ((HB.out.trans ((HBX.out.trans (HB9.out.mono HBX.out.size)).mono HB.out.size)).mono HB5.out.size)⟩
      case neg =>
        go_wp2_with fail
        refine wp_region_invH (by kernel_rfl) (by kernel_rfl) (fun L act X => ∃ v15 v91 v92 v93 v94 v95 v96 v97 v98 v99 v100 : Value, act = { tmps := #[Value.slice A0 n0 c0, Value.slice A9 n9 c9, undef, undef, u4, Value.slice (some ⟨bA, oA, none⟩) k c, Value.slice B m d, Value.slice (some ⟨bU, oU, none⟩) U c7, Value.slice A8 U c8, Value.slice A5 v c5, Value.bool true, Value.int IntKind.i64 ↑k, u12, u13, Value.int IntKind.i64 ↑j, v15, Value.slice A0 n0 c0, Value.int IntKind.i64 ↑n0, Value.bool false, Value.bool false, Value.slice A9 n9 c9, Value.int IntKind.i64 ↑n9, Value.bool false, Value.bool false, Value.tuple #[Value.slice (some ⟨bA, oA, none⟩) k c, Value.slice B m d], Value.slice A0 n0 c0, Value.tuple #[Value.slice (some ⟨bA, oA, none⟩) k c, Value.slice B m d], Value.slice (some ⟨bA, oA, none⟩) k c, Value.slice B m d, Value.slice (some ⟨bA, oA, none⟩) k c, Value.slice B m d, Value.slice (some ⟨bU, oU, none⟩) U c7, Value.slice (some ⟨bA, oA, none⟩) k c, Value.slice B m d, Value.slice A8 U c8, Value.slice (some ⟨bU, oU, none⟩) U c7, Value.slice A8 U c8, Value.bool true, Value.bool false, Value.bool false, Value.slice (some ⟨bU, oU, none⟩) U c7, Value.int IntKind.i64 ↑U, Value.bool false, Value.bool false, undef, undef, undef, Value.tuple #[Value.slice A5 v c5, Value.bool true], Value.slice (some ⟨bA, oA, none⟩) k c, Value.slice B m d, Value.tuple #[Value.slice A5 v c5, Value.bool true], Value.slice A5 v c5, Value.bool true, Value.int IntKind.i64 ↑k, Value.slice (some ⟨bA, oA, none⟩) k c, Value.int IntKind.i64 ↑k, Value.bool false, u57, u58, u59, u60, u61, u62, u63, u64, u65, u66, u67, u68, u69, u70, u71, u72, u73, u74, u75, u76, u77, u78, u79, u80, u81, u82, Value.slice (some ⟨bU, oU, none⟩) U c7, Value.slice A9 n9 c9, Value.int IntKind.i64 ↑n9, Value.slice (some ⟨bU, oU, none⟩) U c7, Value.int IntKind.i64 ↑U, Value.int IntKind.i64 ↑at_, Value.pointer (some ⟨bU, oU + at_, none⟩), Value.int IntKind.i64 ↑j, v91, v92, v93, v94, v95, v96, v97, v98, v99, v100, undef, undef, undef, undef, undef, undef, undef, undef, undef, undef], defers := [] } ∧
          (Below wr.heap.size wr X) ∧ (L 0 = false → L 4 = false) ∧ (L 4 = false → L 9 = false) ∧ (L 9 = false → L 10 = false) ∧ (L 0 = true → L 4 = false → ∃ g : Nat, v91 = .slice (some ⟨g, 0, none⟩) 0 0 ∧ OwnR brvS wr.heap.size X 31 (.slice (some ⟨g, 0, none⟩) 0 0) []) ∧ (L 1 = true → v92 = .slice (some ⟨bA, oA, none⟩) k c) ∧ (L 2 = true → v93 = .int .i64 j) ∧ (L 3 = true → v94 = .slice (some ⟨bA, oA, none⟩) j c) ∧ (L 4 = true → L 9 = false → ∃ (A1 : Option Addr) (c2 : Nat), v95 = .slice A1 j c2 ∧ OwnR brvS wr.heap.size X 31 (.slice A1 j c2) (ps.take j)) ∧ (L 5 = true → v96 = .slice (some ⟨bA, oA, none⟩) k c) ∧ (L 6 = true → v97 = .int .i64 j) ∧ (L 7 = true → v98 = .int .i64 ((j : Int) + 1)) ∧ (L 8 = true → v99 = .slice (some ⟨bA, oA + (j + 1) * 2, none⟩) (k - (j + 1)) (c - (j + 1))) ∧ (L 9 = true → ∃ (A1 : Option Addr) (c2 : Nat), v100 = .slice A1 (k - 1) c2 ∧ OwnR brvS wr.heap.size X 31 (.slice A1 (k - 1) c2) (ps.take j ++ ps.drop (j + 1))) ∧ (L 10 = true → v15 = v100)) ?_ ⟨?_, ?_, ?_, ?_, ?_, ?_, ?_, ?_, ?_, ?_, ?_, trivial⟩ ?_
        · exact ⟨_, _, _, _, _, _, _, _, _, _, _, rfl, bdr _, fun _ => rfl, fun _ => rfl, fun _ => rfl, fun h => (by cases h), fun h => (by cases h), fun h => (by cases h), fun h => (by cases h), fun h => (by cases h), fun h => (by cases h), fun h => (by cases h), fun h => (by cases h), fun h => (by cases h), fun h => (by cases h), fun h => (by cases h)⟩
        · rintro L act X K0 ⟨v15, v91, v92, v93, v94, v95, v96, v97, v98, v99, v100, rfl, hB, o0, o1, o2, f0, f1, f2, f3, f4, f5, f6, f7, f8, f9, f10⟩ hL hd hK
          have hb := bnew X (.cells #[] 31)
          clear hd
          refine ⟨rfl, ?_⟩
          go_simp
          exact hK _ _ ⟨_, _, _, _, _, _, _, _, _, _, _, rfl, btr hB hb, fun h => (by cases h), o1, o2, fun _ _ => ⟨_, rfl, OwnR.nil hB.size #[] rfl⟩, f1, f2, f3, fun h h9 => (by obtain ⟨A1, c2, e, l⟩ := f4 h h9; exact ⟨A1, c2, e, l.al _⟩), f5, f6, f7, f8, fun h => (by obtain ⟨A1, c2, e, l⟩ := f9 h; exact ⟨A1, c2, e, l.al _⟩), f10⟩
        · rintro L act X K0 ⟨v15, v91, v92, v93, v94, v95, v96, v97, v98, v99, v100, rfl, hB, o0, o1, o2, f0, f1, f2, f3, f4, f5, f6, f7, f8, f9, f10⟩ hL hd hK
          clear hd
          refine ⟨rfl, ?_⟩
          go_simp
          exact hK _ _ ⟨_, _, _, _, _, _, _, _, _, _, _, rfl, hB, o0, o1, o2, f0, fun _ => rfl, f2, f3, f4, f5, f6, f7, f8, f9, f10⟩
        · rintro L act X K0 ⟨v15, v91, v92, v93, v94, v95, v96, v97, v98, v99, v100, rfl, hB, o0, o1, o2, f0, f1, f2, f3, f4, f5, f6, f7, f8, f9, f10⟩ hL hd hK
          clear hd
          refine ⟨rfl, ?_⟩
          go_simp
          exact hK _ _ ⟨_, _, _, _, _, _, _, _, _, _, _, rfl, hB, o0, o1, o2, f0, f1, fun _ => rfl, f3, f4, f5, f6, f7, f8, f9, f10⟩
        · rintro L act X K0 ⟨v15, v91, v92, v93, v94, v95, v96, v97, v98, v99, v100, rfl, hB, o0, o1, o2, f0, f1, f2, f3, f4, f5, f6, f7, f8, f9, f10⟩ hL hd hK
          have d1 := hd ⟨1, .data⟩ (by simp) rfl
          obtain rfl := f1 d1
          have d2 := hd ⟨2, .data⟩ (by simp) rfl
          obtain rfl := f2 d2
          clear hd
          refine ⟨rfl, ?_⟩
          go_simp
          exact hK _ _ ⟨_, _, _, _, _, _, _, _, _, _, _, rfl, hB, o0, o1, o2, f0, f1, f2, fun _ => rfl, f4, f5, f6, f7, f8, f9, f10⟩
        · rintro L act X K0 ⟨v15, v91, v92, v93, v94, v95, v96, v97, v98, v99, v100, rfl, hB, o0, o1, o2, f0, f1, f2, f3, f4, f5, f6, f7, f8, f9, f10⟩ hL hd hK
          have d0 := hd ⟨0, .data⟩ (by simp) rfl
          have d3 := hd ⟨3, .data⟩ (by simp) rfl
          obtain rfl := f3 d3
          obtain ⟨g, rfl, lE⟩ := f0 d0 hL
          have hXs := hB.size
          clear hd
          refine ⟨rfl, ?_⟩
          refine wp_append_brvs (.tmp 91) (.tmp 94) _ rfl Try.underlying23 HJ.out rfl (v := .slice (some ⟨g, 0, none⟩) 0 0) rfl lE rfl hplk (fun i hi => by obtain ⟨t1, t2, t3, t4⟩ := HTC.out i hi; exact ⟨bcl hB t1, t2, bcl hB t3, t4⟩) (by simp; omega) (by simp; omega) hXs ?_
          intro A' c' X2 hO2 hc hv
          rw [List.nil_append, List.length_nil, Nat.zero_add] at hO2
          rw [List.length_nil, Nat.zero_add]
          have hb : Below wr.heap.size X X2 := ⟨hc.os, hc.tape, hc.output, hc.size, fun i hi => hc.block i (by have := hB.size; omega) (fun e => by have := (lE.own_lt e).1; omega)⟩
          exact hK _ _ ⟨_, _, _, _, _, _, _, _, _, _, _, rfl, hB.trans hb, fun h => absurd ((d0).symm.trans h) (by decide), fun h => (by cases h), o2, fun _ h => (by cases h), f1, f2, f3, fun _ _ => ⟨A', c', rfl, hO2⟩, f5, f6, f7, f8, fun h => absurd ((o1 hL).symm.trans h) (by decide), f10⟩
        · rintro L act X K0 ⟨v15, v91, v92, v93, v94, v95, v96, v97, v98, v99, v100, rfl, hB, o0, o1, o2, f0, f1, f2, f3, f4, f5, f6, f7, f8, f9, f10⟩ hL hd hK
          clear hd
          refine ⟨rfl, ?_⟩
          go_simp
          exact hK _ _ ⟨_, _, _, _, _, _, _, _, _, _, _, rfl, hB, o0, o1, o2, f0, f1, f2, f3, f4, fun _ => rfl, f6, f7, f8, f9, f10⟩
        · rintro L act X K0 ⟨v15, v91, v92, v93, v94, v95, v96, v97, v98, v99, v100, rfl, hB, o0, o1, o2, f0, f1, f2, f3, f4, f5, f6, f7, f8, f9, f10⟩ hL hd hK
          clear hd
          refine ⟨rfl, ?_⟩
          go_simp
          exact hK _ _ ⟨_, _, _, _, _, _, _, _, _, _, _, rfl, hB, o0, o1, o2, f0, f1, f2, f3, f4, f5, fun _ => rfl, f7, f8, f9, f10⟩
        · rintro L act X K0 ⟨v15, v91, v92, v93, v94, v95, v96, v97, v98, v99, v100, rfl, hB, o0, o1, o2, f0, f1, f2, f3, f4, f5, f6, f7, f8, f9, f10⟩ hL hd hK
          have d6 := hd ⟨6, .data⟩ (by simp) rfl
          obtain rfl := f6 d6
          clear hd
          refine ⟨rfl, ?_⟩
          go_simp
          exact hK _ _ ⟨_, _, _, _, _, _, _, _, _, _, _, rfl, hB, o0, o1, o2, f0, f1, f2, f3, f4, f5, f6, fun _ => rfl, f8, f9, f10⟩
        · rintro L act X K0 ⟨v15, v91, v92, v93, v94, v95, v96, v97, v98, v99, v100, rfl, hB, o0, o1, o2, f0, f1, f2, f3, f4, f5, f6, f7, f8, f9, f10⟩ hL hd hK
          have d5 := hd ⟨5, .data⟩ (by simp) rfl
          obtain rfl := f5 d5
          have d7 := hd ⟨7, .data⟩ (by simp) rfl
          obtain rfl := f7 d7
          clear hd
          refine ⟨rfl, ?_⟩
          go_simp
          exact hK _ _ ⟨_, _, _, _, _, _, _, _, _, _, _, rfl, hB, o0, o1, o2, f0, f1, f2, f3, f4, f5, f6, f7, fun _ => rfl, f9, f10⟩
        · rintro L act X K0 ⟨v15, v91, v92, v93, v94, v95, v96, v97, v98, v99, v100, rfl, hB, o0, o1, o2, f0, f1, f2, f3, f4, f5, f6, f7, f8, f9, f10⟩ hL hd hK
          have d4 := hd ⟨4, .data⟩ (by simp) rfl
          have d8 := hd ⟨8, .data⟩ (by simp) rfl
          obtain rfl := f8 d8
          obtain ⟨A1, c2, rfl, lE⟩ := f4 d4 hL
          have hXs := hB.size
          clear hd
          refine ⟨rfl, ?_⟩
          refine wp_append_brvs (.tmp 95) (.tmp 99) _ rfl Try.underlying23 HJ.out rfl (v := .slice A1 j c2) rfl lE rfl hpld (fun i hi => by obtain ⟨t1, t2, t3, t4⟩ := HDC.out i hi; exact ⟨bcl hB t1, t2, bcl hB t3, t4⟩) (by rw [hplk]; omega) (by rw [hplk]; omega) hXs ?_
          intro A' c' X2 hO2 hc hv
          rw [hplk, hjj] at hO2
          rw [hplk, hjj]
          have hb : Below wr.heap.size X X2 := ⟨hc.os, hc.tape, hc.output, hc.size, fun i hi => hc.block i (by have := hB.size; omega) (fun e => by have := (lE.own_lt e).1; omega)⟩
          exact hK _ _ ⟨_, _, _, _, _, _, _, _, _, _, _, rfl, hB.trans hb, o0, fun h => absurd ((d4).symm.trans h) (by decide), fun h => (by cases h), fun _ h => absurd (d4.symm.trans h) (by decide), f1, f2, f3, fun _ h => (by cases h), f5, f6, f7, f8, fun _ => ⟨A', c', rfl, hO2⟩, fun h => absurd ((o2 hL).symm.trans h) (by decide)⟩
        · rintro L act X K0 ⟨v15, v91, v92, v93, v94, v95, v96, v97, v98, v99, v100, rfl, hB, o0, o1, o2, f0, f1, f2, f3, f4, f5, f6, f7, f8, f9, f10⟩ hL hd hK
          have d9 := hd ⟨9, .data⟩ (by simp) rfl
          obtain ⟨A1, c2, rfl, lE⟩ := f9 d9
          clear hd
          refine ⟨rfl, ?_⟩
          go_simp
          exact hK _ _ ⟨_, _, _, _, _, _, _, _, _, _, _, rfl, hB, o0, o1, fun h => absurd ((d9).symm.trans h) (by decide), f0, f1, f2, f3, f4, f5, f6, f7, f8, fun _ => ⟨A1, c2, rfl, lE⟩, fun _ => rfl⟩
        · rintro L act X hLL ⟨v15, v91, v92, v93, v94, v95, v96, v97, v98, v99, v100, rfl, hB, o0, o1, o2, f0, f1, f2, f3, f4, f5, f6, f7, f8, f9, f10⟩
          obtain ⟨A1, c2, rfl, lO⟩ := f9 (hLL 9 (by simp))
          obtain rfl := f10 (hLL 10 (by simp))
          have hb := hB
          clear f0 f1 f2 f3 f4 f5 f6 f7 f8 f9 f10 hB o0 o1 o2 hLL
          have HBX := hid hb
          have hcap := (own_cap lO).1
          obtain ⟨hkf, hF⟩ := br_rd (ds := bs.take j ++ bs.drop (j + 1)) lO (by rw [HLS.out, List.length_append, hplk, hpld]; exact hjj) (by rw [HLS.out]; omega) (fun i hi => by
            rw [HLS.out] at hi
            obtain ⟨i2, h1, h2, h3⟩ := HRE.out i hi
            rw [h2, h3]
            obtain ⟨_, _, _, p4, A3, c3, p5, p6, p7⟩ := HPS.out i2 h1
            exact ⟨p4, A3, c3, p5, p6, p7.bl hb⟩)
          have HL1 := hid (implCopyLeast_any A1 B (k - 1) c2 m d (bs.take j ++ bs.drop (j + 1)) ws X hcap hmd hd63 hF (RY2.out.bl hb))
          have HL2 := hid fun W (hw : Below X.heap.size X W) => implCopyLeast_any (some ⟨bA, oA, none⟩) B k c m d bs ws W hnc1 hmd hd63 ((RX2.out.bl hb).bl hw) ((RY2.out.bl hb).bl hw)
          rw [HLP.out] at HL1
          rw [HLG.out] at HL2
          clear hb lO hkf hF hcap
          go_wp2_with fail
          refine HL1.out.mono ?_
          rintro e w8 ⟨rfl, hb8⟩
          have HB8 := hid hb8
          clear hb8
          go_wp2_with fail
          refine (HL2.out w8 HB8.out).mono ?_
          rintro e w9 ⟨rfl, hb9⟩
          have HB9 := hid (btr HB8.out hb9)
          clear hb9
          go_wp2_with fail
          go_ret
          exact ⟨rfl, HB5.out.trans ((HB.out.trans ((HBX.out.trans (HB9.out.mono HBX.out.size)).mono HB.out.size)).mono HB5.out.size)⟩
end Go.Proofs.Ythijnojefeeaoaa
