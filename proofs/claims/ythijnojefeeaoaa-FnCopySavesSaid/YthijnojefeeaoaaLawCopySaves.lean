/- The law FnCopySaves returns true for all arguments that can be read. -/
import Derived.Test.YthijnojefeeaoaaFew
import Derived.Test.YthijnojefeeaoaaUsedW
namespace Go.Proofs.Ythijnojefeeaoaa
open Go.RowKit
attribute [local go_sem] Oper.semAt_some
set_option maxRecDepth 100000 in
set_option maxHeartbeats 400000 in
theorem lawCopySaves (A0 : Option Addr) (n0 c0 : Nat) (l0 : List UInt8) (w : World) (hnc : n0 ≤ c0) (hx : Rd byteS 0 w.heap.size w A0 n0 l0) :
    Calls Try.prog 3 #[.slice A0 n0 c0] w fun e w' => e = .returned (.bool true) ∧ Below w.heap.size w w' := by
  obtain ⟨i1, hi1, hz0, hz1, hz2⟩ := info_parts (show (Try.prog.info? 31).map (fun i => (i.zero, i.size, i.bytes)) = some (some (.agg #[.string ⟨#[]⟩, .slice none 0 0]), 2, 40) by kernel_rfl)
  have HJ := hid (And.intro hi1 (And.intro hz0 (And.intro hz1 hz2)))
  clear hi1 hz0 hz1 hz2
  have hn63 := hx.2.1
  have HX := hid hx
  clear hx
  by_cases hn : n0 ≤ 1048576
  case neg =>
    have h1 : (1048576 : Int) < (n0 : Int) := by omega
    go_enter Try.func3, Try.ntmps3
    go_wp2_with fail
    go_ret
    exact ⟨rfl, Below.refl _ _⟩
  have h1 : ¬ (1048576 : Int) < (n0 : Int) := by omega
  go_enter Try.func3, Try.ntmps3
  go_wp2_with fail
  refine (DrawCopySaves_any A0 n0 c0 l0 w hnc HX.out).mono ?_
  rintro e w1 ⟨A, n, c, bs, B, m, d, ws, rfl, ⟨hnc1, hn6, hsm⟩, ⟨hmd, hm8, hd63, hws⟩, hx1, hy1, hb1⟩
  have HB1 := hid hb1
  have RX := hid hx1
  have RY := hid hy1
  clear hx1 hy1 hb1
  go_wp2_with fail
  refine (implCopySaves_any A B n c m d bs ws w1 hnc1 hmd hd63 RX.out RY.out).mono ?_
  rintro e w2 ⟨rfl, hb2⟩
  have HB2 := hid hb2
  have RX2 := hid (RX.out.bl hb2)
  have RY2 := hid (RY.out.bl hb2)
  clear hb2
  obtain ⟨G, hG⟩ : ∃ G, savesV bs ws = G := ⟨_, rfl⟩
  have HSP := hid (specCopySaves_any A B n c m d bs ws w2 hmd hd63 RX2.out RY2.out)
  rw [hG] at HSP ⊢
  have HG := hid hG
  clear hG
  go_wp2_with fail
  refine HSP.out.mono ?_
  rintro e w3 ⟨rfl, hb3⟩
  have HB3 := hid (HB1.out.trans ((btr HB2.out hb3).mono HB1.out.size))
  have RX3 := hid (RX2.out.bl hb3)
  have RY3 := hid (RY2.out.bl hb3)
  clear hb3 HSP
  by_cases hdo : deskOk bs ws = true
  case neg =>
    have hg : G = -1 := by
      have := HG.out
      unfold savesV at this
      rw [Bool.not_eq_true] at hdo
      rw [hdo] at this
      exact this.symm
    subst hg
    go_wp2_with fail
    go_ret
    exact ⟨rfl, HB3.out⟩
  case pos =>
    have hg := HG.out
    unfold savesV at hg
    rw [hdo] at hg
    dsimp only at hg
    obtain ⟨k1, k2, k3, k4, k5⟩ := desk_len hdo
    have k6 := fun b hb => (k3 b hb).1
    have hwl := words_le bs ws k6
    have hlt : ¬ G < 0 := by omega
    have hns := fun h => none_saves (ws := ws) k6 h
    have hfl := few_least ws k6
    have hfo : deskOk (fewB bs ws) ws = true := by
      have := desk_yes hdo
      unfold deskOk
      rw [few_ok ws this.1, this.2]
      rfl
    have hsv : savesV (fewB bs ws) ws = G := by
      unfold savesV
      rw [hfo]
      dsimp only
      rw [hfl]
      exact hg
    rw [hg] at hns
    have hus : usedV bs ws = (usedN bs ws).map fun j : Nat => (j : Int) := by unfold usedV; rw [hdo]
    have hul := usedV_len bs ws
    have hU := implBriefsUsed_any A B n c m d bs ws w3 hnc1 hmd hd63 RX3.out RY3.out
    have hfew := few_eq bs ws
    have hin : ∀ j ∈ usedN bs ws, j < n := fun j hj => by
      have := (List.mem_filter.1 hj).1
      rw [List.mem_range, ← RX.out.1] at this
      exact this
    obtain ⟨us, hus2⟩ : ∃ us, usedN bs ws = us := ⟨_, rfl⟩
    rw [hus2] at hus hns hfew hin
    rw [hus] at hU hul
    rw [List.length_map] at hul
    have HU := hid hU
    have HSV := hid hsv
    have HNS := hid hns
    have HFW := hid hfew
    have HIN := hid hin
    clear hg k1 k2 k3 k4 k5 k6 hwl hns hfl hfo hsv hus hU hfew hin hus2
    go_wp2_with fail
    refine HU.out.mono ?_
    intro e w4 hres
    obtain ⟨A4, c4, rfl, huc, hR4, hb4⟩ := i_rd0 hres (by rw [List.length_map]; exact hul)
    rw [List.length_map] at huc hR4 ⊢
    have HB4 := hid (HB3.out.trans (hb4.mono HB3.out.size))
    have RX4 := hid (RX3.out.bl hb4)
    have RY4 := hid (RY3.out.bl hb4)
    have RU4 := hid hR4
    obtain ⟨ps, hpl, hpA, hps⟩ := prs_ex RX4.out
    have HPL := hid hpl
    have HPA := hid hpA
    have HPS := hid hps
    have O0 := hid (OwnR.nil (S := brvS) (e := 31) (base := w4.heap.size) (w := w4) (Nat.le_refl _) #[] rfl)
    have HBN := hid (bnew w4 (.cells #[] 31))
    obtain ⟨U, hUl⟩ : ∃ U, us.length = U := ⟨_, rfl⟩
    rw [hUl] at huc hR4 RU4 hul ⊢
    have HUL := hid hUl
    clear hres hR4 hb4 HU hpl hpA hps hUl
    go_wp2_with fail
    go_loopg [8, 9] U (fun gk l8 i wr => ∃ (k : Nat) (A8 : Option Addr) (c8 : Nat), k + gk = U ∧ i = .int .i64 k ∧ l8 = .slice A8 k c8 ∧ OwnR brvS w4.heap.size wr 31 (.slice A8 k c8) ((us.take k).map (gt ps)) ∧ Below w4.heap.size w4 wr)
    case atStart => exact ⟨0, _, _, Nat.zero_add _, rfl, rfl, O0.out, HBN.out⟩
    case round =>
      clear O0 HBN
      obtain ⟨k, A8, c8, hkg, rfl, rfl, hO, hb⟩ := hrel
      have HKG := hid hkg
      have HO := hid hO
      have HB := hid hb
      have hk : k ≤ U := by omega
      have hwz := hb.size
      clear hkg hO hb
      by_cases hlt2 : k < U
      case pos =>
        have hki : (k : Int) < (U : Int) := by omega
        obtain ⟨j, hj⟩ : ∃ j, gt us k = j := ⟨_, rfl⟩
        have hjn : j < n := by
          have := HIN.out _ (gt_mem (l := us) (k := k) (by rw [HUL.out]; exact hlt2))
          rw [hj] at this
          exact this
        obtain ⟨ub, uo, hA4, _, hub, hcu⟩ := RU4.out.2.2 (by omega)
        subst hA4
        have q0 := bcl HB.out (hcu.int hlt2)
        rw [gt_map (by rw [HUL.out]; exact hlt2), hj] at q0
        obtain ⟨b, off, hA, hbb⟩ := HPA.out (by omega)
        subst hA
        obtain ⟨p1, p2, p3, p4, A1, c1, p5, _⟩ := HPS.out j hjn b off rfl
        have hy1 : (gt ps j).2.oneCell' = true := by rw [p5]; rfl
        have q1 := bcl HB.out p1
        have q2 := bcl HB.out p3
        have hji : (j : Int) < (n : Int) := by omega
        obtain ⟨y, hy⟩ : ∃ y, gt ps j = y := ⟨_, rfl⟩
        rw [hy] at q2 p4 hy1
        rw [← p4] at q1 p2
        have hlk : ((us.take k).map (gt ps)).length = k := by rw [List.length_map, List.length_take, HUL.out]; omega
        have hap : (us.take (k + 1)).map (gt ps) = (us.take k).map (gt ps) ++ [y] := by
          rw [take_gt (by rw [HUL.out]; exact hlt2), List.map_append, hj, List.map_cons, List.map_nil, hy]
        have HAP := hid hap
        have HY := hid hy
        obtain ⟨LL, hLL⟩ : ∃ LL, (us.take k).map (gt ps) = LL := ⟨_, rfl⟩
        rw [hLL] at HO hlk HAP
        have h1c : ∀ u ∈ [Value.string y.1, y.2], u.oneCell' = true := fun u hu => by
          rcases List.mem_cons.1 hu with rfl | hu
          · rfl
          · rw [List.mem_singleton] at hu
            rw [hu]
            exact hy1
        clear p1 p3 p4 p5 hcu hap hj hy hLL
        go_wp2_with (at_builtin; go_loud (refine wpList_append_R rfl (.tmp 44) (.tmp 52) _ rfl brvS Try.underlying23 HJ.out rfl (by decide) rfl (HO.out.al _) (y := y) rfl (heap_alloc_new _ _) rfl h1c ⟨rfl, p2, rfl⟩ (by omega) (by omega) (by simp; omega) ?_; intro A6 c6 w5 hO5 hb5))
        have hb6 := ((bnew wr (.cells #[.string y.1, y.2] 31)).mono (B' := w4.heap.size) (by omega)).trans hb5
        rw [hlk] at hO5
        go_roundg (gk - 1)
        case measure => have := HKG.out; omega
        case rel => exact ⟨k + 1, A6, c6, by have := HKG.out; omega, by go_num, rfl, by rw [HAP.out]; exact hO5, HB.out.trans hb6⟩
      case neg =>
        obtain rfl : k = U := by omega
        have htk : us.take k = us := List.take_of_length_le (Nat.le_of_eq HUL.out)
        have hO := HO.out
        rw [htk] at hO
        have hcap := (own_cap hO).1
        have hfl : (fewB bs ws).length = k := by rw [← HFW.out, List.length_map, HUL.out]
        obtain ⟨hkf, hF⟩ := br_rd (ds := fewB bs ws) hO (by rw [hfl, List.length_map, HUL.out]) (by omega) (fun i hi => by
          rw [hfl] at hi
          have hiu : i < us.length := by rw [HUL.out]; exact hi
          rw [← HFW.out, gt_map hiu, gt_map hiu]
          obtain ⟨b, off, hA, hbb⟩ := HPA.out (by have := HIN.out _ (gt_mem hiu); omega)
          obtain ⟨_, _, _, p4, A1, c1, p5, p6, p7⟩ := HPS.out _ (HIN.out _ (gt_mem hiu)) b off hA
          exact ⟨p4, A1, c1, p5, p6, p7.bl HB.out⟩)
        have HS := hid (implCopySaves_any A8 B k c8 m d (fewB bs ws) ws wr hcap hmd hd63 hF (RY4.out.bl HB.out))
        rw [HSV.out] at HS
        clear htk hO hfl hF hkf
        go_wp2_with fail
        refine HS.out.mono ?_
        rintro e w5 ⟨rfl, hb5⟩
        have HB5 := hid ((HB4.out.trans (HB.out.mono HB4.out.size)).trans (hb5.mono (by have := HB4.out.size; omega)))
        clear hb5 HO HB RX RY RX2 RY2 RX3 RY3 RX4 RY4 RU4 HS
        by_cases hU0 : k = 0
        · have hg0 : G = 0 := HNS.out (List.length_eq_zero_iff.1 (by rw [HUL.out]; exact hU0))
          have hU1 : ¬ (0 : Int) < (k : Int) := by omega
          have hge : (G == 0) = true := by rw [hg0]; rfl
          go_wp2_with fail
          go_ret
          exact ⟨rfl, HB5.out⟩
        · have hU1 : (0 : Int) < (k : Int) := by omega
          go_wp2_with fail
          go_ret
          exact ⟨rfl, HB5.out⟩
end Go.Proofs.Ythijnojefeeaoaa
