/- What the reference's CopyRead returns. -/
import Derived.Test.YthijnojefeeaoaaCopyReadR
namespace Go.Proofs.Ythijnojefeeaoaa
open Go.RowKit Go.Shelf
attribute [local go_sem] Oper.semAt_some
set_option maxRecDepth 100000 in
set_option maxHeartbeats 1000000 in
theorem specCopyRead_any (A B : Option Addr) (n c m d : Nat) (bs : List BriefT) (ts : List ByteArray) (w : World) (hx : Rd briefS 0 w.heap.size w A n bs) (hy : Rd strS 0 w.heap.size w B m ts) :
    Calls Try.prog 49 #[.slice A n c, .slice B m d] w (RetSB w (readV bs ts)) := by
  obtain ⟨i0, hi1, hz0, hz1, hz2⟩ := info_parts (show (Try.prog.info? 9).map (fun i => (i.zero, i.size, i.bytes)) = some (some (.string ByteArray.empty), 1, 16) by kernel_rfl)
  have HI := hid (And.intro hi1 (And.intro hz0 (And.intro hz1 hz2)))
  clear hi1 hz0 hz1 hz2
  have hm63 := hy.2.1
  have hn63 := hx.2.1
  have HX := hid hx
  have HY := hid hy
  have b0 := bnew w (.cells #[] 9)
  have hbv := specBriefsValid_any A n c 0 bs _ (hx.bl b0)
  have O0 := hid (OwnR.nil (S := strS) (e := 9) (base := w.heap.size) (w := w) (Nat.le_refl _) #[] rfl)
  have HB0 := hid b0
  clear hx hy b0
  by_cases hbo : briefsOk bs = true
  case neg =>
    have hv := hid (show readV bs ts = none by unfold readV; rw [if_neg hbo])
    rw [Bool.not_eq_true] at hbo
    rw [hbo] at hbv
    have HBV := hid hbv
    clear hbv hbo
    go_enter Try.func49, Try.ntmps49
    go_wp2_with fail
    refine HBV.out.mono ?_
    rintro e w1 ⟨rfl, hb1⟩
    have hO := O0.out.bl hb1
    have hb2 := btr HB0.out hb1
    clear hb1
    go_wp2_with fail
    go_ret2
    exact RetSB.of (l := []) (by rw [hv.out]; rfl) (by rw [hv.out]; rfl) rfl hO hb2
  case pos =>
    rw [hbo] at hbv
    have HBV := hid hbv
    have HV := hid (show readV bs ts = readG bs [] ts by unfold readV; rw [if_pos hbo])
    have HBO := hid hbo
    clear hbv hbo
    go_enter Try.func49, Try.ntmps49
    go_wp2_with fail
    refine HBV.out.mono ?_
    rintro e w1 ⟨rfl, hb1⟩
    have HO1 := hid (O0.out.bl hb1)
    have HB1 := hid (btr HB0.out hb1)
    clear hb1 HBV O0 HB0
    go_wp2_with fail
    go_loopg [6, 7, 8, 9] m (fun gk l6 i l8 l9 wr => ∃ (k : Nat) (A6 : Option Addr) (c6 : Nat) (acc : List ByteArray), k + gk = m ∧ i = .int .i64 k ∧ l6 = .slice A6 acc.length c6 ∧ OwnR strS w.heap.size wr 9 (.slice A6 acc.length c6) acc ∧ acc.length ≤ 20 ∧ readV bs ts = readG bs acc (ts.drop k) ∧ Below w.heap.size w wr)
    case atStart => exact ⟨0, _, _, [], Nat.zero_add _, rfl, rfl, HO1.out, Nat.zero_le _, HV.out, HB1.out⟩
    case round =>
      clear HO1 HB1 HV
      obtain ⟨k, A6, c6, acc, hkg, rfl, rfl, hO, ha20, hv, hb⟩ := hrel
      have HKG := hid hkg
      have HO := hid hO
      have HV := hid hv
      have HB := hid hb
      have hk : k ≤ m := by omega
      have hwz := hb.size
      clear hkg hO hv hb
      by_cases hlt : k < m
      case neg =>
        obtain rfl : k = m := by omega
        have hv : readV bs ts = some acc := by
          rw [HV.out, List.drop_eq_nil_of_le (by rw [← HY.out.1]; exact Nat.le_refl _), readG]
        have HVS := hid hv
        clear hv
        go_wp2_with fail
        go_ret2
        exact RetSB.of (by rw [HVS.out]; rfl) (by rw [HVS.out]; rfl) rfl HO.out HB.out
      case pos =>
        have hki : (k : Int) < (m : Int) := by omega
        have hkt : k < ts.length := by rw [← HY.out.1]; exact hlt
        obtain ⟨bB, oB, rfl, _, hbB, hcB⟩ := HY.out.2.2 (by omega)
        have yy := (hcB.str hlt).1
        have hts := (hcB.str hlt).2
        have hv := HV.out
        rw [drop_gt hkt, readG] at hv
        obtain ⟨t, ht⟩ : ∃ t, gt ts k = t := ⟨_, rfl⟩
        rw [ht] at hv yy hts
        have HV2 := hid hv
        have y0 := bcl HB.out yy
        have HYY := hid yy
        have hwv := specWordValid_any t wr hts
        have HBS := hid HB.out.size
        clear hv hcB ht HV yy
        -- the token is put down if it is a word
        have mid : ∃ X0 : List ByteArray, X0 = (if wordOk t then [t] else []) := ⟨_, rfl⟩
        obtain ⟨wr0, hwr0⟩ : ∃ x : World, x = wr := ⟨_, rfl⟩
        subst hwr0
        obtain ⟨gko, hgko⟩ : ∃ x : Nat, x = gk := ⟨_, rfl⟩
        subst hgko
        cases hwo : wordOk t with
        | true =>
          rw [hwo] at hwv
          have HWV := hid hwv
          clear hwv mid
          go_wp2_with fail
          refine HWV.out.mono ?_
          rintro e w3 ⟨rfl, rfl⟩
          go_wp2_with (at_builtin; go_loud (refine wpList_append_R2 rfl (.tmp 27) (.tmp 32) _ rfl strS Try.underlying24 HI.out rfl (by decide) rfl (HO.out.al _) (y := t) rfl (heap_alloc_new _ _) rfl (by simp [Value.oneCell']) ⟨rfl, hts⟩ (by omega) (by omega) (by simp; omega) ?_; intro A7 c7 w5 hO5 hc5 hv5))
          have hb5 : Below w.heap.size (wr0.alloc (.cells #[.string t] 9)) w5 := ⟨hc5.os, hc5.tape, hc5.output, hc5.size, fun i hi => hc5.block i (by rw [World.size_alloc]; omega) (fun e => by have := (HO.out.own_lt e).1; omega)⟩
          have hb6 := ((bnew wr0 (.cells #[.string t] 9)).mono (B' := w.heap.size) (by omega)).trans hb5
          go_loopg [6, 8, 9] n (fun gk l6 fd j wr => ∃ (q : Nat) (A7 : Option Addr) (c7 : Nat) (X : List ByteArray) (f : Bool), q + gk = n ∧ j = .int .i64 q ∧ fd = .bool f ∧ l6 = .slice A7 (acc.length + X.length) c7 ∧ OwnR strS w.heap.size wr 9 (.slice A7 (acc.length + X.length) c7) (acc ++ X) ∧ putR bs t q X f ∧ Below w.heap.size w wr)
          case atStart => exact ⟨0, A7, c7, [t], true, Nat.zero_add _, rfl, rfl, rfl, hO5, .inl ⟨rfl, by rw [hwo]; rfl, hwo.symm⟩, HB.out.trans hb6⟩
          case round =>
            obtain ⟨q, A7, c7, X, f, hqg, rfl, rfl, rfl, hO, hp, hb⟩ := hrel
            have HQG := hid hqg
            have HOX := hid hO
            have HPR := hid hp
            have HBX := hid hb
            have hX3 := putR_len HBO.out hp
            have hq : q ≤ n := by omega
            have hwz2 := hb.size
            clear hqg hO hp hb
            by_cases hltq : q < n
            case pos =>
              have hqi : (q : Int) < (n : Int) := by omega
              have hqb : q < bs.length := by rw [← HX.out.1]; exact hltq
              obtain ⟨bA, oA, rfl, _, hbA, hcA⟩ := HX.out.2.2 (by omega)
              obtain ⟨A1, c1, x0, x1, x2, _, x4⟩ := hcA.brief hltq
              have z0 := bcl HBX.out x0
              have z1 := bcl HBX.out x1
              have zy := bcl HBX.out HYY.out
              have X4 := hid (x4.bl HBX.out)
              have a0 := aft_cell (B := wr.heap.size) (w0 := wr) (block_lt_of_cell z0) z0
              have ay := aft_cell (B := wr.heap.size) (w0 := wr) (block_lt_of_cell zy) zy
              have hcmp : ((gt bs q).1.toList == t.toList) = eqD (gt bs q).1 t := by
                by_cases h : (gt bs q).1 = t
                · rw [h, str_eq, eqD_self]
                · rw [str_ne h, eqD_no h]
              have hno := fun h => putR_no HPR.out hqb h
              have hye := fun h => putR_yes HBO.out HPR.out hqb h
              obtain ⟨B2, hB2⟩ : ∃ B2, gt bs q = B2 := ⟨_, rfl⟩
              rw [hB2] at z0 z1 X4 a0 hcmp hno hye
              obtain ⟨u, hu⟩ : ∃ u, B2.2.length = u := ⟨_, rfl⟩
              rw [hu] at z1 X4
              have HU := hid hu
              have hu3 : u ≤ 3 := by
                have := (briefs_wd HBO.out _ (gt_mem hqb)).2
                rw [hB2, hu] at this
                exact this
              have HNO := hid hno
              have HYE := hid hye
              have HZ1 := hid z1
              clear hcA x0 x1 x4 hno hye hB2 hu z0 zy z1
              go_wp2_with fail
              refine wp_region_aft (B := wr.heap.size) (w0 := wr) (Below.refl _ _) (by kernel_rfl) (by kernel_rfl) ?_
              repeat (go_big_quiet_step (fail))
              refine wpQuiet_nil ?_
              rintro w8 ⟨⟨w7, hb7⟩, hw7⟩
              have hw9 : w8 = w7 := hw7
              clear hw7
              subst hw9
              have hz8 := hb7.size
              have HB7 := hid (HBX.out.trans (hb7.mono HBX.out.size))
              have HO8 := hid (HOX.out.bl hb7)
              have X8 := hid (X4.out.bl hb7)
              have z1 := bcl hb7 HZ1.out
              clear hb7 a0 ay hcmp HOX X4 HZ1
              obtain ⟨E, hE⟩ : ∃ E, eqD B2.1 t = E := ⟨_, rfl⟩
              rw [hE]
              cases E with
              | false =>
                have HP2 := hid (HNO.out hE)
                clear hE z1
                go_wp2_with fail
                go_roundg (gk - 1)
                case measure => have := HQG.out; omega
                case rel => exact ⟨q + 1, A7, c7, X, f, by have := HQG.out; omega, by go_num, rfl, rfl, HO8.out, HP2.out, HB7.out⟩
              | true =>
                obtain ⟨e1, e2⟩ := HYE.out hE
                have HP2 := hid e2
                have hO9 := HO8.out
                rw [e1] at hO9 ⊢
                simp only [List.append_nil, List.length_nil, Nat.add_zero] at hO9 ⊢
                have HO9 := hid hO9
                clear hE e1 e2 hO9 HO8
                go_wp2_with (at_builtin; go_loud (refine wpList_append_strs rfl (.tmp 50) (.tmp 55) _ rfl Try.underlying24 HI.out rfl rfl HO9.out rfl HU.out X8.out (by omega) (by omega) ?_; intro A9 c9 w9 hO10 hc10 hv10))
                have hb10 : Below w.heap.size w8 w9 := ⟨hc10.os, hc10.tape, hc10.output, hc10.size, fun i hi => hc10.block i (by omega) (fun e => by have := (HO9.out.own_lt e).1; omega)⟩
                go_roundg (gk - 1)
                case measure => have := HQG.out; omega
                case rel => exact ⟨q + 1, A9, c9, B2.2, true, by have := HQG.out; omega, by go_num, rfl, by rw [HU.out], by rw [HU.out]; exact hO10, HP2.out, HB7.out.trans hb10⟩
            case neg =>
              obtain rfl : q = n := by omega
              have hpe := HPR.out
              rw [HX.out.1] at hpe
              have hpc := putR_end hpe
              have hv := HV2.out
              rw [hpc] at hv
              clear hpe hpc
              cases f with
              | false =>
                rw [if_neg (by simp)] at hv
                dsimp only at hv
                have HVS := hid hv
                have hOe := OwnR.nil (S := strS) (e := 9) (base := w.heap.size) (w := wr) (by omega) #[] rfl
                have HOE := hid hOe
                clear hv hOe
                go_wp2_with fail
                go_ret2
                exact RetSB.of (l := []) (by rw [HVS.out]; rfl) (by rw [HVS.out]; rfl) rfl HOE.out (bal HBX.out _)
              | true =>
                rw [if_pos rfl] at hv
                dsimp only at hv
                by_cases h20 : acc.length + X.length ≤ 20
                case pos =>
                  have h20i : ¬ (20 : Int) < (acc.length : Int) + (X.length : Int) := by omega
                  rw [if_pos (by rw [List.length_append]; exact h20)] at hv
                  have HV4 := hid hv
                  clear hv
                  go_wp2_with fail
                  go_roundg (gko - 1)
                  case measure => have := HKG.out; omega
                  case rel => exact ⟨k + 1, A7, c7, acc ++ X, by have := HKG.out; omega, by go_num, by rw [List.length_append], by rw [List.length_append]; exact HOX.out, by rw [List.length_append]; exact h20, HV4.out, HBX.out⟩
                case neg =>
                  have h20i : (20 : Int) < (acc.length : Int) + (X.length : Int) := by omega
                  rw [if_neg (by rw [List.length_append]; exact h20)] at hv
                  have HVS := hid hv
                  have hOe := OwnR.nil (S := strS) (e := 9) (base := w.heap.size) (w := wr) (by omega) #[] rfl
                  have HOE := hid hOe
                  clear hv hOe
                  go_wp2_with fail
                  go_ret2
                  exact RetSB.of (l := []) (by rw [HVS.out]; rfl) (by rw [HVS.out]; rfl) rfl HOE.out (bal HBX.out _)
        | false =>
          rw [hwo] at hwv
          have HWV := hid hwv
          clear hwv mid
          go_wp2_with fail
          refine HWV.out.mono ?_
          rintro e w3 ⟨rfl, rfl⟩
          go_wp2_with fail
          go_loopg [6, 8, 9] n (fun gk l6 fd j wr => ∃ (q : Nat) (A7 : Option Addr) (c7 : Nat) (X : List ByteArray) (f : Bool), q + gk = n ∧ j = .int .i64 q ∧ fd = .bool f ∧ l6 = .slice A7 (acc.length + X.length) c7 ∧ OwnR strS w.heap.size wr 9 (.slice A7 (acc.length + X.length) c7) (acc ++ X) ∧ putR bs t q X f ∧ Below w.heap.size w wr)
          case atStart => exact ⟨0, A6, c6, [], false, Nat.zero_add _, rfl, rfl, rfl, by rw [List.append_nil]; exact HO.out, .inl ⟨rfl, by rw [hwo]; rfl, hwo.symm⟩, HB.out⟩
          case round =>
            obtain ⟨q, A7, c7, X, f, hqg, rfl, rfl, rfl, hO, hp, hb⟩ := hrel
            have HQG := hid hqg
            have HOX := hid hO
            have HPR := hid hp
            have HBX := hid hb
            have hX3 := putR_len HBO.out hp
            have hq : q ≤ n := by omega
            have hwz2 := hb.size
            clear hqg hO hp hb
            by_cases hltq : q < n
            case pos =>
              have hqi : (q : Int) < (n : Int) := by omega
              have hqb : q < bs.length := by rw [← HX.out.1]; exact hltq
              obtain ⟨bA, oA, rfl, _, hbA, hcA⟩ := HX.out.2.2 (by omega)
              obtain ⟨A1, c1, x0, x1, x2, _, x4⟩ := hcA.brief hltq
              have z0 := bcl HBX.out x0
              have z1 := bcl HBX.out x1
              have zy := bcl HBX.out HYY.out
              have X4 := hid (x4.bl HBX.out)
              have a0 := aft_cell (B := wr.heap.size) (w0 := wr) (block_lt_of_cell z0) z0
              have ay := aft_cell (B := wr.heap.size) (w0 := wr) (block_lt_of_cell zy) zy
              have hcmp : ((gt bs q).1.toList == t.toList) = eqD (gt bs q).1 t := by
                by_cases h : (gt bs q).1 = t
                · rw [h, str_eq, eqD_self]
                · rw [str_ne h, eqD_no h]
              have hno := fun h => putR_no HPR.out hqb h
              have hye := fun h => putR_yes HBO.out HPR.out hqb h
              obtain ⟨B2, hB2⟩ : ∃ B2, gt bs q = B2 := ⟨_, rfl⟩
              rw [hB2] at z0 z1 X4 a0 hcmp hno hye
              obtain ⟨u, hu⟩ : ∃ u, B2.2.length = u := ⟨_, rfl⟩
              rw [hu] at z1 X4
              have HU := hid hu
              have hu3 : u ≤ 3 := by
                have := (briefs_wd HBO.out _ (gt_mem hqb)).2
                rw [hB2, hu] at this
                exact this
              have HNO := hid hno
              have HYE := hid hye
              have HZ1 := hid z1
              clear hcA x0 x1 x4 hno hye hB2 hu z0 zy z1
              go_wp2_with fail
              refine wp_region_aft (B := wr.heap.size) (w0 := wr) (Below.refl _ _) (by kernel_rfl) (by kernel_rfl) ?_
              repeat (go_big_quiet_step (fail))
              refine wpQuiet_nil ?_
              rintro w8 ⟨⟨w7, hb7⟩, hw7⟩
              have hw9 : w8 = w7 := hw7
              clear hw7
              subst hw9
              have hz8 := hb7.size
              have HB7 := hid (HBX.out.trans (hb7.mono HBX.out.size))
              have HO8 := hid (HOX.out.bl hb7)
              have X8 := hid (X4.out.bl hb7)
              have z1 := bcl hb7 HZ1.out
              clear hb7 a0 ay hcmp HOX X4 HZ1
              obtain ⟨E, hE⟩ : ∃ E, eqD B2.1 t = E := ⟨_, rfl⟩
              rw [hE]
              cases E with
              | false =>
                have HP2 := hid (HNO.out hE)
                clear hE z1
                go_wp2_with fail
                go_roundg (gk - 1)
                case measure => have := HQG.out; omega
                case rel => exact ⟨q + 1, A7, c7, X, f, by have := HQG.out; omega, by go_num, rfl, rfl, HO8.out, HP2.out, HB7.out⟩
              | true =>
                obtain ⟨e1, e2⟩ := HYE.out hE
                have HP2 := hid e2
                have hO9 := HO8.out
                rw [e1] at hO9 ⊢
                simp only [List.append_nil, List.length_nil, Nat.add_zero] at hO9 ⊢
                have HO9 := hid hO9
                clear hE e1 e2 hO9 HO8
                go_wp2_with (at_builtin; go_loud (refine wpList_append_strs rfl (.tmp 50) (.tmp 55) _ rfl Try.underlying24 HI.out rfl rfl HO9.out rfl HU.out X8.out (by omega) (by omega) ?_; intro A9 c9 w9 hO10 hc10 hv10))
                have hb10 : Below w.heap.size w8 w9 := ⟨hc10.os, hc10.tape, hc10.output, hc10.size, fun i hi => hc10.block i (by omega) (fun e => by have := (HO9.out.own_lt e).1; omega)⟩
                go_roundg (gk - 1)
                case measure => have := HQG.out; omega
                case rel => exact ⟨q + 1, A9, c9, B2.2, true, by have := HQG.out; omega, by go_num, rfl, by rw [HU.out], by rw [HU.out]; exact hO10, HP2.out, HB7.out.trans hb10⟩
            case neg =>
              obtain rfl : q = n := by omega
              have hpe := HPR.out
              rw [HX.out.1] at hpe
              have hpc := putR_end hpe
              have hv := HV2.out
              rw [hpc] at hv
              clear hpe hpc
              cases f with
              | false =>
                rw [if_neg (by simp)] at hv
                dsimp only at hv
                have HVS := hid hv
                have hOe := OwnR.nil (S := strS) (e := 9) (base := w.heap.size) (w := wr) (by omega) #[] rfl
                have HOE := hid hOe
                clear hv hOe
                go_wp2_with fail
                go_ret2
                exact RetSB.of (l := []) (by rw [HVS.out]; rfl) (by rw [HVS.out]; rfl) rfl HOE.out (bal HBX.out _)
              | true =>
                rw [if_pos rfl] at hv
                dsimp only at hv
                by_cases h20 : acc.length + X.length ≤ 20
                case pos =>
                  have h20i : ¬ (20 : Int) < (acc.length : Int) + (X.length : Int) := by omega
                  rw [if_pos (by rw [List.length_append]; exact h20)] at hv
                  have HV4 := hid hv
                  clear hv
                  go_wp2_with fail
                  go_roundg (gko - 1)
                  case measure => have := HKG.out; omega
                  case rel => exact ⟨k + 1, A7, c7, acc ++ X, by have := HKG.out; omega, by go_num, by rw [List.length_append], by rw [List.length_append]; exact HOX.out, by rw [List.length_append]; exact h20, HV4.out, HBX.out⟩
                case neg =>
                  have h20i : (20 : Int) < (acc.length : Int) + (X.length : Int) := by omega
                  rw [if_neg (by rw [List.length_append]; exact h20)] at hv
                  have HVS := hid hv
                  have hOe := OwnR.nil (S := strS) (e := 9) (base := w.heap.size) (w := wr) (by omega) #[] rfl
                  have HOE := hid hOe
                  clear hv hOe
                  go_wp2_with fail
                  go_ret2
                  exact RetSB.of (l := []) (by rw [HVS.out]; rfl) (by rw [HVS.out]; rfl) rfl HOE.out (bal HBX.out _)
end Go.Proofs.Ythijnojefeeaoaa
