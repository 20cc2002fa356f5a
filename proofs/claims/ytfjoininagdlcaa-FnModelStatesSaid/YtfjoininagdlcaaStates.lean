/- ModelStates: what the reference's and the program's functions return. -/
import Derived.Test.YtfjoininagdlcaaSure
import Derived.Test.YtfjoininagdlcaaPagePure
import Derived.Test.YtfjoininagdlcaaRegInv
namespace Go.Proofs.Ytfjoininagdlcaa
open Go.RowKit Go.Shelf
attribute [local go_sem] Oper.semAt_some
set_option maxRecDepth 100000 in
set_option maxHeartbeats 2000000 in
theorem wholePage_any (n k : Nat) (hn : n ≤ 6) (hk : k ≤ 8) (w : World) :
    Calls Try.prog 69 #[.int .i64 n, .int .i64 k] w fun e w' => ∃ D dd, e = .returned (.slice D k dd) ∧ Rd (sliceS intS) 0 w'.heap.size w' D k (wholeP n k) ∧ Below w.heap.size w w' := by
  obtain ⟨j0, hj1, hy0, hy1, hy2⟩ := info_parts (show (Try.prog.info? 23).map (fun i => (i.zero, i.size, i.bytes)) = some (some (.slice none 0 0), 1, 24) by kernel_rfl)
  have HJ := hid (And.intro hj1 (And.intro hy0 (And.intro hy1 hy2)))
  clear hj1 hy0 hy1 hy2
  obtain ⟨i0, hi1, hz0, hz1, hz2⟩ := info_parts (show (Try.prog.info? 3).map (fun i => (i.zero, i.size, i.bytes)) = some (some (.int .i64 0), 1, 8) by kernel_rfl)
  have HI0 := hid (And.intro hi1 (And.intro hz0 (And.intro hz1 hz2)))
  clear hi1 hz0 hz1 hz2
  go_enter Try.func69, Try.ntmps69
  go_wp2_with fail
  go_loopg [5, 10] k (fun gk out i wr => ∃ (a : Nat) (rs : List RowD) (g d0 : Nat), a + gk = k ∧ i = .int .i64 a ∧ out = .slice (some ⟨g, 0, none⟩) rs.length d0 ∧ rs.length = a ∧ NestR w.heap.size wr.heap.size wr 23 3 (.slice (some ⟨g, 0, none⟩) rs.length d0) rs ∧ rs.map (·.2.2) = wholeP n a ∧ Below w.heap.size w wr)
  case atStart => exact ⟨0, [], _, _, Nat.zero_add _, rfl, rfl, rfl, NestR.nil (Nat.le_refl _) _ rfl, rfl, bnew _ _⟩
  case round =>
    obtain ⟨a, rs, g, d0, hkg, rfl, rfl, hrl, hN, hls, hb⟩ := hrel
    have HKG := hid hkg
    have HRL := hid hrl
    have HN := hid hN
    have HLS := hid hls
    have HB := hid hb
    have hak : a ≤ k := by omega
    have hrl8 : rs.length ≤ 8 := by omega
    have hwz := hb.size
    clear hkg hrl hN hls hb
    by_cases hlt : a < k
    case neg =>
      obtain rfl : a = k := by omega
      go_wp2_with fail
      go_ret
      have h2 := (HN.out.rd (by omega)).2
      rw [HLS.out] at h2
      refine ⟨some ⟨g, 0, none⟩, d0, by rw [HRL.out]; rfl, ?_, HB.out⟩
      rw [HRL.out] at h2
      exact h2.wide (Nat.zero_le _) (Nat.le_refl _)
    case pos =>
      have hki : (a : Int) < (k : Int) := by omega
      obtain ⟨wo, hwo⟩ : ∃ x : World, x = wr := ⟨_, rfl⟩
      subst hwo
      obtain ⟨go_, hgo⟩ : ∃ x : Nat, x = gk := ⟨_, rfl⟩
      subst hgo
      have ON0 := hid (OwnR.nil (S := intS) (base := wo.heap.size) (e := 3) (Nat.le_refl wo.heap.size) #[] rfl)
      go_wp2_with fail
      go_loopg [6, 14] n (fun gk words i wr => ∃ (j : Nat) (xs : List Int) (g2 d2 : Nat), j + gk = n ∧ i = .int .i64 j ∧ words = .slice (some ⟨g2, 0, none⟩) xs.length d2 ∧ xs = rowN j ∧ OwnR intS wo.heap.size wr 3 (.slice (some ⟨g2, 0, none⟩) xs.length d2) xs ∧ Below wo.heap.size wo wr)
      case atStart => exact ⟨0, [], _, _, Nat.zero_add _, rfl, rfl, rfl, ON0.out, bnew _ _⟩
      case round =>
        obtain ⟨j, xs, g2, d2, hjg, rfl, rfl, hxs, hO, hb2⟩ := hrel
        have HJG := hid hjg
        have HXS := hid hxs
        have HO := hid hO
        have HB2 := hid hb2
        have hwz2 := hb2.size
        have hj : j ≤ n := by omega
        have hxl : xs.length ≤ 6 := by rw [hxs, rowN_len]; omega
        clear hjg hxs hO hb2
        by_cases hjn : j < n
        case neg =>
          obtain rfl : j = n := by omega
          have hra := (HO.out.rowAt (by omega)).2
          have HRA := hid hra.1
          have hg2 := hra.2
          clear hra
          go_wp2_with (at_builtin; refine wpList_append_row rfl (.tmp 22) (.tmp 24) _ rfl Try.underlying24 HJ.out (v := .slice (some ⟨g, 0, none⟩) rs.length d0) rfl rfl ((HN.out.bl HB2.out).al _) (r := (g2, d2, xs)) rfl rfl (heap_alloc_new _ _) (HRA.out.al _) (by omega) (HN.out.fresh hg2).1 (HN.out.fresh hg2).2 (by omega) (by simp; omega) (by simp; omega) ?_; intro A3 c3 w3 hN3 hc3 hg3)
          obtain ⟨g', rfl⟩ := hg3
          have HN3 := hid hN3
          have HB3 := hid (((HB.out.trans (HB2.out.mono hwz)).alloc (by omega) _).trans (hc3.below (by simp; omega) fun k hk => (HN.out.own.own_lt hk).1))
          clear hN3 hc3
          go_roundg (go_ - 1)
          case measure => have := HKG.out; omega
          case rel => exact ⟨a + 1, rs ++ [(g2, d2, xs)], g', c3, by have := HKG.out; omega, by go_num, by rw [List.length_append]; rfl, by rw [List.length_append, HRL.out]; rfl, by rw [List.length_append]; exact HN3.out, by rw [List.map_append, HLS.out, wholeP_succ, ← HXS.out]; rfl, HB3.out⟩
        case pos =>
          have hji : (j : Int) < (n : Int) := by omega
          go_wp2_with (at_builtin; refine wpList_append_R rfl (.tmp 17) (.tmp 19) _ rfl intS Try.underlying23 HI0.out rfl (by decide) rfl (HO.out.al _) (y := (j : Int)) rfl (heap_alloc_new _ _) rfl (by simp [Value.oneCell']) rfl (by omega) (by omega) (by simp; omega) ?_; intro A2 c2 w6 hO4 hb4)
          obtain ⟨g', rfl, _⟩ := hO4.blk (by omega)
          have HO4 := hid hO4
          have HB5 := hid (Below.trans (bal HB2.out _) (hb4.mono (by simp)))
          clear hO4 hb4
          go_roundg (gk - 1)
          case measure => have := HJG.out; omega
          case rel => exact ⟨j + 1, xs ++ [(j : Int)], g', c2, by have := HJG.out; omega, by go_num, by rw [List.length_append]; rfl, by rw [rowN_succ, HXS.out], by rw [List.length_append]; exact HO4.out, HB5.out⟩
theorem OwnR.cellAt {base : Nat} {w : World} {g n c : Nat} {l : List Int} (h : OwnR intS base w 3 (.slice (some ⟨g, 0, none⟩) n c) l) (hm : l.length ≤ 9223372036854775807) {j : Nat} (hj : j < l.length) : w.cell? ⟨g, j, none⟩ = some (.int .i64 (gt l j)) := by
  obtain ⟨cur, h1, _, _, _, h5⟩ := (h.rowAt hm).2.1
  rw [cell_of_row w _ _ cur 3 (0, 0) h1]
  exact h5 j hj
theorem ends_step {l : List Int} {r : List (List Int)} {n t : Nat} (h : 1 ≤ t) : endsR l r n t = (rowN n).filter fun i => (endsR l r n (t - 1)).any fun j => decide (0 < gt (gt r j.toNat) i.toNat) := by
  cases t with
  | zero => omega
  | succ t => rfl
set_option maxRecDepth 100000 in
set_option maxHeartbeats 2000000 in
theorem specModelStates_any (A B : Option Addr) (n c m e0 lo : Nat) (k : Int) (l : List Int) (r : List (List Int)) (w : World) (hl : Rd intS lo w.heap.size w A n l) (hr : Rd (sliceS intS) lo w.heap.size w B m r) :
    Calls Try.prog 41 #[.agg #[.slice A n c, .slice B m e0], .int .i64 k] w (RetI w (statesV l r k)) := by
  obtain ⟨i0, hi1, hz0, hz1, hz2⟩ := info_parts (show (Try.prog.info? 3).map (fun i => (i.zero, i.size, i.bytes)) = some (some (.int .i64 0), 1, 8) by kernel_rfl)
  have HI0 := hid (And.intro hi1 (And.intro hz0 (And.intro hz1 hz2)))
  clear hi1 hz0 hz1 hz2
  have L := hid hl
  have R := hid hr
  clear hl hr
  have b0 := btr (bnew w (.cells #[.slice A n c, .slice B m e0] 26)) (bnew _ (.cells #[] 3))
  have c0 : ((w.alloc (.cells #[.slice A n c, .slice B m e0] 26)).alloc (.cells #[] 3)).heap[w.heap.size]? = some (.cells #[.slice A n c, .slice B m e0] 26 (0, 0)) := al_old (heap_alloc_new w _)
  have z0 : ((w.alloc (.cells #[.slice A n c, .slice B m e0] 26)).alloc (.cells #[] 3)).heap.size = w.heap.size + 2 := by simp
  have o0 : OwnR intS (w.heap.size + 1) ((w.alloc (.cells #[.slice A n c, .slice B m e0] 26)).alloc (.cells #[] 3)) 3 (.slice (some ⟨w.heap.size + 1, 0, none⟩) 0 0) [] := by
    have := OwnR.nil (S := intS) (base := w.heap.size + 1) (w := w.alloc (.cells #[.slice A n c, .slice B m e0] 26)) (e := 3) (by simp) #[] rfl
    rwa [World.size_alloc] at this
  obtain ⟨w0, hw0⟩ : ∃ x, (w.alloc (.cells #[.slice A n c, .slice B m e0] 26)).alloc (.cells #[] 3) = x := ⟨_, rfl⟩
  rw [hw0] at b0 c0 z0 o0
  have HW0 := hid hw0
  have B0 := hid b0
  have C0 := hid c0
  have O0 := hid o0
  have Z0 := hid z0
  clear b0 c0 z0 o0 hw0
  have VCL := hid (specModelValid_any A B n c m e0 lo l r w0 (L.out.bl B0.out) (R.out.bl B0.out))
  by_cases hok : modelOk l r = true
  case neg =>
    have hok' : modelOk l r = false := by simpa using hok
    have HF := hid (show statesV l r k = [] by unfold statesV; rw [hok']; rfl)
    clear hok
    go_enter Try.func41, Try.ntmps41
    go_wp2_with fail
    rw [HW0.out]
    refine VCL.out.mono ?_
    rintro e w1 ⟨rfl, hb1⟩
    have B1 := hid hb1
    clear hb1
    rw [hok']
    go_wp2_with fail
    go_ret
    rw [HF.out]
    exact ⟨_, 0, rfl, (O0.out.bl B1.out).low (by omega), btr B0.out B1.out⟩
  have hn6 : n ≤ 6 := by rw [L.out.1]; exact (modelOk_yes hok).2.1
  have hnl := hid L.out.1
  cases hib : inB k 1 8 with
  | false =>
    have HF := hid (show statesV l r k = [] by unfold statesV; rw [hib, Bool.and_false]; rfl)
    go_enter Try.func41, Try.ntmps41
    go_wp2_with fail
    rw [HW0.out]
    refine VCL.out.mono ?_
    rintro e w1 ⟨rfl, hb1⟩
    have B1 := hid hb1
    clear hb1
    rw [hok]
    clear hok
    go_wp2_with fail
    refine (l6In_any _ _ _ _).mono ?_
    rintro e w2 ⟨rfl, rfl⟩
    rw [hib]
    go_wp2_with fail
    go_ret
    rw [HF.out]
    exact ⟨_, 0, rfl, (O0.out.bl B1.out).low (by omega), btr B0.out B1.out⟩
  | true =>
    obtain ⟨hk1, hk8⟩ := inB_yes.1 hib
    obtain ⟨kk, rfl⟩ := Int.eq_ofNat_of_zero_le (show 0 ≤ k by omega)
    have HF := hid (show statesV l r (kk : Int) = endsR l r l.length (kk - 1) by unfold statesV; rw [hok, hib]; rfl)
    have HOK := hid hok
    go_enter Try.func41, Try.ntmps41
    go_wp2_with fail
    rw [HW0.out]
    refine VCL.out.mono ?_
    rintro e w1 ⟨rfl, hb1⟩
    have B1 := hid hb1
    have c1 := (hb1.block w.heap.size (by have := Z0.out; omega)).trans C0.out
    have C1 := hid c1
    obtain ⟨mc0, mc1, _, _⟩ := at_get' c1
    have hz1 := hb1.size
    clear hb1 c1
    rw [hok]
    clear hok
    go_wp2_with fail
    refine (l6In_any _ _ _ _).mono ?_
    rintro e w2 ⟨rfl, rfl⟩
    rw [hib]
    clear hib
    go_wp2_with fail
    have O1 := hid (O0.out.bl B1.out)
    have hn63 : n ≤ 9223372036854775807 := by omega
    have hww : w.heap.size + 1 < w1.heap.size := by have := Z0.out; omega
    have hkk1 : 1 ≤ kk := by omega
    have hkk8 : kk ≤ 8 := by omega
    have hn1 : 1 ≤ n := by rw [hnl.out]; exact (modelOk_yes HOK.out).1
    have HRS := hid (modelOk_yes HOK.out).2.2.2
    have HE0 := hid (show endsR l r l.length 0 = (rowN n).filter fun i => decide (0 < gt l i.toNat) by rw [hnl.out]; rfl)
    clear hk1 hk8 mc0 mc1
    go_loopg [5, 7] n (fun gk out i wr => ∃ (a : Nat) (ys : List Int) (g d2 : Nat), a + gk = n ∧ i = .int .i64 a ∧ out = .slice (some ⟨g, 0, none⟩) ys.length d2 ∧ ys = (rowN a).filter (fun i => decide (0 < gt l i.toNat)) ∧ OwnR intS (w.heap.size + 1) wr 3 (.slice (some ⟨g, 0, none⟩) ys.length d2) ys ∧ w1.heap.size ≤ wr.heap.size ∧ Below (w.heap.size + 1) w1 wr)
    case atStart => exact ⟨0, [], _, _, Nat.zero_add _, rfl, rfl, rfl, O1.out, Nat.le_refl _, Below.refl _ _⟩
    case round =>
      obtain ⟨a, ys, g, d2, hkg, rfl, rfl, hys, hO, hwz, hb⟩ := hrel
      have HKG := hid hkg
      have HYS := hid hys
      have HO := hid hO
      have HB := hid hb
      have han : a ≤ n := by omega
      have hyl : ys.length ≤ 6 := by have := List.length_filter_le (fun i => decide (0 < gt l i.toNat)) (rowN a); rw [rowN_len] at this; rw [hys]; omega
      have c1 : wr.heap[w.heap.size]? = some (.cells #[.slice A n c, .slice B m e0] 26 (0, 0)) := (hb.block w.heap.size (by omega)).trans C1.out
      obtain ⟨mc0, mc1, _, _⟩ := at_get' c1
      clear hkg hys hO hb
      by_cases hlt : a < n
      case neg =>
        obtain rfl : n = a := by omega
        have hE := hid (show ys = endsR l r n 0 by rw [HYS.out, hnl.out, HE0.out, hnl.out])
        have hm := hid (show m = n by rw [R.out.1, HRS.out.1, hnl.out])
        clear mc0 mc1 c1 HYS
        go_wp2_with fail
        go_loopg [5, 8] (kk - 1) (fun gk out st wr => ∃ (t : Nat) (xs : List Int) (g d2 : Nat), t + gk = kk ∧ 1 ≤ t ∧ st = .int .i64 t ∧ out = .slice (some ⟨g, 0, none⟩) xs.length d2 ∧ xs = endsR l r n (t - 1) ∧ OwnR intS (w.heap.size + 1) wr 3 (.slice (some ⟨g, 0, none⟩) xs.length d2) xs ∧ w1.heap.size ≤ wr.heap.size ∧ Below (w.heap.size + 1) w1 wr)
        case atStart => exact ⟨1, ys, g, d2, by omega, Nat.le_refl _, rfl, rfl, hE.out, HO.out, hwz, HB.out⟩
        case round =>
          clear hE HO HB hwz hyl
          obtain ⟨t, xs, g, d2, hkg, ht1, rfl, rfl, hxs, hO, hwz, hb⟩ := hrel
          have HKG := hid hkg
          have HXS := hid hxs
          have HO := hid hO
          have HB := hid hb
          have htk : t ≤ kk := by omega
          have hxl : xs.length ≤ 6 := by have := ends_len l r n (t - 1); rw [hxs]; omega
          have hxm := hid (show ∀ y ∈ xs, 0 ≤ y ∧ y < (n : Int) from fun y hy => by rw [hxs] at hy; exact rowN_mem.1 (ends_sub hy))
          clear hkg hxs hO hb
          by_cases hlt : t < kk
          case neg =>
            obtain rfl : kk = t := by omega
            go_wp2_with fail
            go_ret
            rw [HF.out, ← hnl.out, ← HXS.out]
            exact ⟨_, d2, rfl, HO.out.low (by omega), (btr B0.out B1.out).trans (HB.out.mono (by omega))⟩
          case pos =>
            have hti : (t : Int) < (kk : Int) := by omega
            obtain ⟨wo, hwo⟩ : ∃ x : World, x = wr := ⟨_, rfl⟩
            subst hwo
            obtain ⟨go1, hgo1⟩ : ∃ x : Nat, x = gk := ⟨_, rfl⟩
            subst hgo1
            have ON0 := hid (OwnR.nil (S := intS) (base := wo.heap.size) (e := 3) (Nat.le_refl wo.heap.size) #[] rfl)
            go_wp2_with fail
            go_loopg [9, 10] n (fun gk nx i wr => ∃ (a : Nat) (ys : List Int) (g2 d3 : Nat), a + gk = n ∧ i = .int .i64 a ∧ nx = .slice (some ⟨g2, 0, none⟩) ys.length d3 ∧ ys = (rowN a).filter (fun i => xs.any fun j => decide (0 < gt (gt r j.toNat) i.toNat)) ∧ OwnR intS wo.heap.size wr 3 (.slice (some ⟨g2, 0, none⟩) ys.length d3) ys ∧ Below wo.heap.size wo wr)
            case atStart => exact ⟨0, [], _, _, Nat.zero_add _, rfl, rfl, rfl, ON0.out, bnew _ _⟩
            case round =>
              obtain ⟨a, ys, g2, d3, hag, rfl, rfl, hys, hO2, hb2⟩ := hrel
              have HAG := hid hag
              have HYS := hid hys
              have HO2 := hid hO2
              have HB2 := hid hb2
              have hwz2 := hb2.size
              have han : a ≤ n := by omega
              have hyl : ys.length ≤ 6 := by have := List.length_filter_le (fun i : Int => xs.any fun j => decide (0 < gt (gt r j.toNat) i.toNat)) (rowN a); rw [rowN_len] at this; rw [hys]; omega
              clear hag hys hO2 hb2
              by_cases hltn : a < n
              case neg =>
                obtain rfl : n = a := by omega
                go_wp2_with fail
                go_roundg (go1 - 1)
                case measure => have := HKG.out; omega
                case rel => exact ⟨t + 1, ys, g2, d3, by have := HKG.out; omega, by omega, by go_num, rfl, by rw [HYS.out, Nat.add_sub_cancel, ends_step ht1, HXS.out], HO2.out.low (by omega), by omega, HB.out.trans (HB2.out.mono (by omega))⟩
              case pos =>
                have hai : (a : Int) < (n : Int) := by omega
                obtain ⟨wi, hwi⟩ : ∃ x : World, x = wr := ⟨_, rfl⟩
                subst hwi
                obtain ⟨go2, hgo2⟩ : ∃ x : Nat, x = gk := ⟨_, rfl⟩
                subst hgo2
                go_wp2_with fail
                go_loopg [11, 12] xs.length (fun gk hit j wr => ∃ (jj : Nat) (hv : Bool), jj + gk = xs.length ∧ j = .int .i64 jj ∧ hit = .bool hv ∧ hv = (xs.take jj).any (fun y => decide (0 < gt (gt r y.toNat) a)) ∧ Below wi.heap.size wi wr)
                case atStart => exact ⟨0, false, Nat.zero_add _, rfl, rfl, rfl, Below.refl _ _⟩
                case round =>
                  obtain ⟨jj, hv, hjg, rfl, rfl, hhv, hb3⟩ := hrel
                  have HJG := hid hjg
                  have HHV := hid hhv
                  have HB3 := hid hb3
                  have hwz3 := hb3.size
                  have hjn : jj ≤ xs.length := by omega
                  clear hjg hhv
                  by_cases hltj : jj < xs.length
                  case neg =>
                    obtain rfl : jj = xs.length := by omega
                    have HRW := hid (rowN_succ a)
                    have HX := hid (show (xs.any fun j => decide (0 < gt (gt r j.toNat) ((a : Int)).toNat)) = hv by rw [HHV.out, List.take_length, Int.toNat_natCast])
                    clear hb3
                    cases hv with
                    | true =>
                      go_wp2_with (at_builtin; refine wpList_append_R rfl (.tmp 74) (.tmp 76) _ rfl intS Try.underlying23 HI0.out rfl (by decide) rfl ((HO2.out.bl HB3.out).al _) (y := (a : Int)) rfl (heap_alloc_new _ _) rfl (by simp [Value.oneCell']) rfl (by omega) (by omega) (by simp; omega) ?_; intro A2 c2 w6 hO4 hb4)
                      obtain ⟨g', rfl, _⟩ := hO4.blk (by omega)
                      have HO4 := hid hO4
                      have HB5 := hid ((HB2.out.trans (HB3.out.mono hwz2)).trans (((bnew wr (.cells #[.int .i64 (a : Int)] 3)).mono (by omega)).trans hb4))
                      clear hO4 hb4
                      go_roundg (go2 - 1)
                      case measure => have := HAG.out; omega
                      case rel => exact ⟨a + 1, ys ++ [(a : Int)], g', c2, by have := HAG.out; omega, by go_num, by rw [List.length_append]; rfl, by rw [HRW.out, List.filter_append, ← HYS.out, List.filter_cons, HX.out]; rfl, by rw [List.length_append]; exact HO4.out, HB5.out⟩
                    | false =>
                      go_wp2_with fail
                      go_roundg (go2 - 1)
                      case measure => have := HAG.out; omega
                      case rel => exact ⟨a + 1, ys, g2, d3, by have := HAG.out; omega, by go_num, rfl, by rw [HRW.out, List.filter_append, ← HYS.out, List.filter_cons, HX.out]; simp, HO2.out.bl HB3.out, HB2.out.trans (HB3.out.mono hwz2)⟩
                  case pos =>
                    have hji : (jj : Int) < (xs.length : Int) := by omega
                    have HTK := hid (take_gt (l := xs) (k := jj) hltj)
                    cases hv with
                    | true =>
                      clear hb3
                      go_wp2_with fail
                      refine wp_region_aft (Below.refl wr.heap.size wr) (by kernel_rfl) (by kernel_rfl) ?_
                      repeat (go_big_quiet_step (fail))
                      refine wpQuiet_nil ?_
                      rintro w5 ⟨⟨_, hb5⟩, rfl⟩
                      have HB5 := hid (btr HB3.out hb5)
                      clear hb5
                      go_wp2_with fail
                      go_roundg (gk - 1)
                      case measure => have := HJG.out; omega
                      case rel => exact ⟨jj + 1, true, by have := HJG.out; omega, by go_num, rfl, by rw [HTK.out, List.any_append, ← HHV.out]; rfl, HB5.out⟩
                    | false =>
                      have hbA := (HB2.out.trans (HB3.out.mono hwz2))
                      have hoc := (HO.out.bl hbA).cellAt (by omega) hltj
                      obtain ⟨hy0, hyn⟩ := hxm.out _ (gt_mem hltj)
                      obtain ⟨y, hy⟩ := Int.eq_ofNat_of_zero_le hy0
                      rw [hy] at hoc hyn
                      have hyn2 : y < n := by omega
                      have hgw : g < wr.heap.size := block_lt_of_cell hoc
                      have hbW : Below (w.heap.size + 1) w1 wr := HB.out.trans (hbA.mono (by omega))
                      have c1 : wr.heap[w.heap.size]? = some (.cells #[.slice A n c, .slice B m e0] 26 (0, 0)) := (hbW.block w.heap.size (by omega)).trans C1.out
                      obtain ⟨mc0, mc1, _, _⟩ := at_get' c1
                      obtain ⟨bB, oB, rfl, _, hbB, hcB⟩ := R.out.2.2 (by rw [hm.out]; omega)
                      obtain ⟨RA, rc, rcell0, _, hrow⟩ := hcB.row (k := y) (by rw [hm.out]; exact hyn2)
                      have hrl : (gt r y).length = n := by have := (HRS.out.2 (gt r y) (gt_mem (by rw [HRS.out.1, ← hnl.out]; exact hyn2))).1; rw [this, hnl.out]
                      rw [hrl] at rcell0 hrow
                      have rcell : wr.cell? ⟨bB, oB + y, none⟩ = some (.slice RA n rc) := (World.cell?_of_block (hbW.block bB (by omega))).trans (bcl (btr B0.out B1.out) rcell0)
                      obtain ⟨b3, o3, rfl, _, hb33, hc3⟩ := hrow.2.2 (by omega)
                      have vcell : wr.cell? ⟨b3, o3 + a, none⟩ = some (.int .i64 (gt (gt r y) a)) := (World.cell?_of_block (hbW.block b3 (by omega))).trans (bcl (btr B0.out B1.out) (hc3.int hltn))
                      obtain ⟨v, hv⟩ : ∃ v, gt (gt r y) a = v := ⟨_, rfl⟩
                      rw [hv] at vcell
                      have HV := hid hv
                      have HY := hid hy
                      have hyni : (y : Int) < (m : Int) := by rw [hm.out]; omega
                      have ac1 := aft_cell (B := wr.heap.size) (w0 := wr) hgw hoc
                      have ac2 := aft_cell (B := wr.heap.size) (w0 := wr) (block_lt_of_cell mc1) mc1
                      have ac3 := aft_cell (B := wr.heap.size) (w0 := wr) (block_lt_of_cell rcell) rcell
                      have ac4 := aft_cell (B := wr.heap.size) (w0 := wr) (block_lt_of_cell vcell) vcell
                      clear hbA hy hy0 hbW c1 rcell0 hrow hrl hcB hc3 hv hb3 hoc mc0 mc1 rcell vcell
                      go_wp2_with fail
                      refine wp_region_aft (Below.refl wr.heap.size wr) (by kernel_rfl) (by kernel_rfl) ?_
                      repeat (go_big_quiet_step (fail))
                      refine wpQuiet_nil ?_
                      rintro w5 ⟨⟨_, hb5⟩, rfl⟩
                      have HB5 := hid (btr HB3.out hb5)
                      clear hb5 ac1 ac2 ac3 ac4
                      go_wp2_with fail
                      go_roundg (gk - 1)
                      case measure => have := HJG.out; omega
                      case rel => exact ⟨jj + 1, decide (0 < v), by have := HJG.out; omega, by go_num, rfl, by rw [HTK.out, List.any_append, ← HHV.out, HY.out]; simp only [List.any_cons, List.any_nil, Bool.or_false, Bool.false_or, Int.toNat_natCast, HV.out], HB5.out⟩
      case pos =>
        have hai : (a : Int) < (n : Int) := by omega
        have hl2 := (L.out.bl B0.out).bl B1.out
        obtain ⟨bl, ol, rfl, _, hbl, hcl⟩ := L.out.2.2 (by omega)
        have cl : wr.cell? ⟨bl, ol + a, none⟩ = some (.int .i64 (gt l a)) := by
          have h0 := bcl (btr B0.out B1.out) (hcl.int hlt)
          exact (World.cell?_of_block (HB.out.block bl (by omega))).trans h0
        have hblt : bl < wr.heap.size := by omega
        have HRW := hid (show rowN (a + 1) = rowN a ++ [(a : Int)] from rowN_succ a)
        obtain ⟨x, hx⟩ : ∃ x, gt l a = x := ⟨_, rfl⟩
        rw [hx] at cl
        have HX := hid (show gt l ((a : Int)).toNat = x by rw [Int.toNat_natCast]; exact hx)
        clear hl2 hcl hx c1
        by_cases hx0 : 0 < x
        case pos =>
          have hxd : decide (0 < x) = true := decide_eq_true hx0
          go_wp2_with (at_builtin; refine wpList_append_R rfl (.tmp 37) (.tmp 39) _ rfl intS Try.underlying23 HI0.out rfl (by decide) rfl (HO.out.al _) (y := (a : Int)) rfl (heap_alloc_new _ _) rfl (by simp [Value.oneCell']) rfl (by omega) (by omega) (by simp; omega) ?_; intro A2 c2 w6 hO4 hb4)
          obtain ⟨g', rfl, _⟩ := hO4.blk (by omega)
          have HO4 := hid hO4
          have hb5 := HB.out.trans (((bnew wr (.cells #[.int .i64 (a : Int)] 3)).mono (by omega)).trans hb4)
          have HB5 := hid hb5
          have hz5 := hb4.size
          clear hO4 hb4 hb5
          go_roundg (gk - 1)
          case measure => have := HKG.out; omega
          case rel => exact ⟨a + 1, ys ++ [(a : Int)], g', c2, by have := HKG.out; omega, by go_num, by rw [List.length_append]; rfl, by rw [HRW.out, List.filter_append, ← HYS.out, List.filter_cons, HX.out, hxd]; rfl, by rw [List.length_append]; exact HO4.out, by simp at hz5; omega, HB5.out⟩
        case neg =>
          have hxd : decide (0 < x) = false := decide_eq_false hx0
          go_wp2_with fail
          go_roundg (gk - 1)
          case measure => have := HKG.out; omega
          case rel => exact ⟨a + 1, ys, g, d2, by have := HKG.out; omega, by go_num, rfl, by rw [HRW.out, List.filter_append, ← HYS.out, List.filter_cons, HX.out, hxd]; simp, HO.out, hwz, HB.out⟩
set_option maxRecDepth 100000 in
set_option maxHeartbeats 2000000 in
theorem implModelStates_any (A B : Option Addr) (n c m e0 : Nat) (k : Int) (l : List Int) (r : List (List Int)) (w : World) (hl : Rd intS 0 w.heap.size w A n l) (hr : Rd (sliceS intS) 0 w.heap.size w B m r) :
    Calls Try.prog 40 #[.agg #[.slice A n c, .slice B m e0], .int .i64 k] w (RetI w (statesV l r k)) := by
  have L := hid hl
  have R := hid hr
  clear hl hr
  have RN := hid (show ∀ w' : World, RetI w' [] (.returned (.slice none 0 0)) w' from fun w' => ⟨none, 0, rfl, OwnR.nil0, Below.refl _ _⟩)
  have b0 := bnew w (.cells #[.slice A n c, .slice B m e0] 26)
  have c0 := heap_alloc_new w (.cells #[.slice A n c, .slice B m e0] 26)
  have B0 := hid b0
  have C0 := hid c0
  clear b0 c0
  have VCL := hid (implModelValid_any A B n c m e0 0 l r _ (L.out.bl B0.out) (R.out.bl B0.out))
  by_cases hok : modelOk l r = true
  case neg =>
    have hok' : modelOk l r = false := by simpa using hok
    have HF := hid (show statesV l r k = [] by unfold statesV; rw [hok']; rfl)
    clear hok
    go_enter Try.func40, Try.ntmps40
    go_wp2_with fail
    refine VCL.out.mono ?_
    rintro e w1 ⟨rfl, hb1⟩
    have B1 := hid (btr B0.out hb1)
    clear hb1
    rw [hok']
    go_wp2_with fail
    go_ret
    rw [HF.out]
    exact ⟨none, 0, rfl, OwnR.nil0, B1.out⟩
  by_cases hk1 : k < 1
  case pos =>
    have HF := hid (show statesV l r k = [] by unfold statesV; rw [inB_no.2 (by omega), Bool.and_false]; rfl)
    go_enter Try.func40, Try.ntmps40
    go_wp2_with fail
    refine VCL.out.mono ?_
    rintro e w1 ⟨rfl, hb1⟩
    have B1 := hid (btr B0.out hb1)
    clear hb1
    rw [hok]
    clear hok
    go_wp2_with fail
    go_ret
    rw [HF.out]
    exact ⟨none, 0, rfl, OwnR.nil0, B1.out⟩
  by_cases hk8 : 8 < k
  case pos =>
    have HF := hid (show statesV l r k = [] by unfold statesV; rw [inB_no.2 (by omega), Bool.and_false]; rfl)
    have hd1 : decide (k < 1) = false := decide_eq_false hk1
    go_enter Try.func40, Try.ntmps40
    go_wp2_with fail
    refine VCL.out.mono ?_
    rintro e w1 ⟨rfl, hb1⟩
    have B1 := hid (btr B0.out hb1)
    clear hb1
    rw [hok]
    clear hok
    go_wp2_with fail
    go_ret
    rw [HF.out]
    exact ⟨none, 0, rfl, OwnR.nil0, B1.out⟩
  obtain ⟨kk, rfl⟩ := Int.eq_ofNat_of_zero_le (show 0 ≤ k by omega)
  have hd1 : decide ((kk : Int) < 1) = false := decide_eq_false hk1
  have hd8 : decide ((8 : Int) < (kk : Int)) = false := decide_eq_false hk8
  have HKK := hid (show kk = kk - 1 + 1 by omega)
  have HF := hid (show statesV l r (kk : Int) = endsR l r l.length (kk - 1) by unfold statesV; rw [hok, inB_yes.2 ⟨by omega, by omega⟩]; rfl)
  have hkk8 : kk ≤ 8 := by omega
  have HOK := hid hok
  go_enter Try.func40, Try.ntmps40
  go_wp2_with fail
  refine VCL.out.mono ?_
  rintro e w1 ⟨rfl, hb1⟩
  have B1 := hid (btr B0.out hb1)
  have c1 := (hb1.block w.heap.size (by simp)).trans C0.out
  obtain ⟨mc0, mc1, _, _⟩ := at_get' c1
  clear hb1 c1
  rw [hok]
  clear hok
  obtain ⟨xs, hxs⟩ : ∃ xs, (seenV l r (wholeP n kk)).getD [] = xs := ⟨_, rfl⟩
  obtain ⟨ok, hokv⟩ : ∃ ok, (seenV l r (wholeP n kk)).isSome = ok := ⟨_, rfl⟩
  have hsl := hid (seenV_ok l r (wholeP n kk))
  have hn6 : n ≤ 6 := by rw [L.out.1]; exact (modelOk_yes HOK.out).2.1
  have hxl8 : xs.length ≤ 8 := by rw [← hxs]; exact hsl.out.1
  have SZ := hid fun X => modelSize_any A B n c m e0 X
  have WPC := hid fun X => wholePage_any n kk hn6 hkk8 X
  have PCL := hid (show ∀ X D dd, Below w1.heap.size w1 X → Rd (sliceS intS) 0 X.heap.size X D kk (wholeP n kk) → Calls Try.prog 29 #[.agg #[.slice A n c, .slice B m e0], .slice D kk dd] X fun e w' => ∃ D' dd', e = .returned (.tuple #[.slice D' xs.length dd', .bool ok]) ∧ Rd (sliceS intS) 0 w'.heap.size w' D' xs.length xs ∧ Below X.heap.size X w' from fun X D dd hbX hrd =>
    (implPageSeen_any A B D n c m e0 kk dd l r (wholeP n kk) X (L.out.bl (btr B1.out hbX)) (R.out.bl (btr B1.out hbX)) hrd).mono (by
      rintro e w' ⟨D', dd', rs, rfl, hN, hm, hb'⟩
      rw [hxs] at hm hN ⊢
      rw [hokv]
      have hrl : rs.length = xs.length := by have := congrArg List.length hm; rwa [List.length_map] at this
      have h2 := (hN.rd (by omega)).2
      rw [hm] at h2
      exact ⟨D', dd', rfl, h2.wide (Nat.zero_le _) (Nat.le_refl _), hb'⟩))
  have HXS := hid hxs
  have HOKV := hid hokv
  clear hxs hokv
  have LM := L
  go_wp2_with fail
  refine wp_region_invH (by kernel_rfl) (by kernel_rfl) (fun L a X => ∃ v19 v20 v21 v22 v23 v24 v18 v25 v26 v5 v6 : Value, a = { tmps := #[.agg #[.slice A n c, .slice B m e0], .int .i64 kk, .pointer (some ⟨w.heap.size, 0, none⟩), undef, .slice none 0 0, v5, v6, .agg #[.slice A n c, .slice B m e0], .bool true, .bool false, .bool false, .int .i64 kk, .bool false, .bool false, .bool false, .int .i64 kk, .bool false, .bool false, v18, v19, v20, v21, v22, v23, v24, v25, v26, undef, undef, undef, undef, undef, undef, undef, undef], defers := [] } ∧
    Below w1.heap.size w1 X ∧ (L 0 = true → v19 = .agg #[.slice A n c, .slice B m e0]) ∧ (L 1 = true → v20 = .agg #[.slice A n c, .slice B m e0]) ∧ (L 2 = true → v21 = .int .i64 n) ∧ (L 3 = true → v22 = .int .i64 kk) ∧ (L 4 = true → ∃ D dd, v23 = .slice D kk dd ∧ Rd (sliceS intS) 0 X.heap.size X D kk (wholeP n kk)) ∧ (L 5 = true → ∃ D dd, v24 = .tuple #[.slice D xs.length dd, .bool ok] ∧ Rd (sliceS intS) 0 X.heap.size X D xs.length xs) ∧ (L 6 = true → ∃ D dd, v18 = .tuple #[.slice D xs.length dd, .bool ok] ∧ Rd (sliceS intS) 0 X.heap.size X D xs.length xs) ∧ (L 7 = true → ∃ D dd, v25 = .slice D xs.length dd ∧ Rd (sliceS intS) 0 X.heap.size X D xs.length xs) ∧ (L 8 = true → v26 = .bool ok) ∧ (L 9 = true → ∃ D dd, v5 = .slice D xs.length dd ∧ Rd (sliceS intS) 0 X.heap.size X D xs.length xs) ∧ (L 10 = true → v6 = .bool ok)) ?_ ⟨?_, ?_, ?_, ?_, ?_, ?_, ?_, ?_, ?_, ?_, ?_, trivial⟩ ?_
  · exact ⟨_, _, _, _, _, _, _, _, _, _, _, rfl, bdr _, fun h => (by cases h), fun h => (by cases h), fun h => (by cases h), fun h => (by cases h), fun h => (by cases h), fun h => (by cases h), fun h => (by cases h), fun h => (by cases h), fun h => (by cases h), fun h => (by cases h), fun h => (by cases h)⟩
  · rintro L a X K0 ⟨v19, v20, v21, v22, v23, v24, v18, v25, v26, v5, v6, rfl, hI⟩ hL hd hK
    have HI := hid hI
    clear hI
    have q1 := bcl HI.out.1 mc0
    have q2 := bcl HI.out.1 mc1
    clear hd
    refine ⟨rfl, ?_⟩
    go_simp
    exact hK _ _ ⟨_, _, _, _, _, _, _, _, _, _, _, rfl, HI.out.1, fun _ => rfl, HI.out.2.2.1, HI.out.2.2.2.1, HI.out.2.2.2.2.1, HI.out.2.2.2.2.2.1, HI.out.2.2.2.2.2.2.1, HI.out.2.2.2.2.2.2.2.1, HI.out.2.2.2.2.2.2.2.2.1, HI.out.2.2.2.2.2.2.2.2.2.1, HI.out.2.2.2.2.2.2.2.2.2.2.1, HI.out.2.2.2.2.2.2.2.2.2.2.2⟩
  · rintro L a X K0 ⟨v19, v20, v21, v22, v23, v24, v18, v25, v26, v5, v6, rfl, hI⟩ hL hd hK
    have HI := hid hI
    clear hI
    have q1 := bcl HI.out.1 mc0
    have q2 := bcl HI.out.1 mc1
    clear hd
    refine ⟨rfl, ?_⟩
    go_simp
    exact hK _ _ ⟨_, _, _, _, _, _, _, _, _, _, _, rfl, HI.out.1, HI.out.2.1, fun _ => rfl, HI.out.2.2.2.1, HI.out.2.2.2.2.1, HI.out.2.2.2.2.2.1, HI.out.2.2.2.2.2.2.1, HI.out.2.2.2.2.2.2.2.1, HI.out.2.2.2.2.2.2.2.2.1, HI.out.2.2.2.2.2.2.2.2.2.1, HI.out.2.2.2.2.2.2.2.2.2.2.1, HI.out.2.2.2.2.2.2.2.2.2.2.2⟩
  · rintro L a X K0 ⟨v19, v20, v21, v22, v23, v24, v18, v25, v26, v5, v6, rfl, hI⟩ hL hd hK
    have HI := hid hI
    clear hI
    obtain rfl := HI.out.2.2.1 (hd ⟨1, .data⟩ (by simp) rfl)
    clear hd
    refine ⟨rfl, ?_⟩
    go_simp
    refine (SZ.out X).mono ?_
    rintro e w2 ⟨rfl, hb2⟩
    exact hK _ _ ⟨_, _, _, _, _, _, _, _, _, _, _, rfl, btr HI.out.1 hb2, HI.out.2.1, HI.out.2.2.1, fun _ => rfl, HI.out.2.2.2.2.1, fun h => by obtain ⟨D, dd, e, hr⟩ := HI.out.2.2.2.2.2.1 h; exact ⟨D, dd, e, hr.bl hb2⟩, fun h => by obtain ⟨D, dd, e, hr⟩ := HI.out.2.2.2.2.2.2.1 h; exact ⟨D, dd, e, hr.bl hb2⟩, fun h => by obtain ⟨D, dd, e, hr⟩ := HI.out.2.2.2.2.2.2.2.1 h; exact ⟨D, dd, e, hr.bl hb2⟩, fun h => by obtain ⟨D, dd, e, hr⟩ := HI.out.2.2.2.2.2.2.2.2.1 h; exact ⟨D, dd, e, hr.bl hb2⟩, HI.out.2.2.2.2.2.2.2.2.2.1, fun h => by obtain ⟨D, dd, e, hr⟩ := HI.out.2.2.2.2.2.2.2.2.2.2.1 h; exact ⟨D, dd, e, hr.bl hb2⟩, HI.out.2.2.2.2.2.2.2.2.2.2.2⟩
  · rintro L a X K0 ⟨v19, v20, v21, v22, v23, v24, v18, v25, v26, v5, v6, rfl, hI⟩ hL hd hK
    have HI := hid hI
    clear hI
    clear hd
    refine ⟨rfl, ?_⟩
    go_simp
    exact hK _ _ ⟨_, _, _, _, _, _, _, _, _, _, _, rfl, HI.out.1, HI.out.2.1, HI.out.2.2.1, HI.out.2.2.2.1, fun _ => rfl, HI.out.2.2.2.2.2.1, HI.out.2.2.2.2.2.2.1, HI.out.2.2.2.2.2.2.2.1, HI.out.2.2.2.2.2.2.2.2.1, HI.out.2.2.2.2.2.2.2.2.2.1, HI.out.2.2.2.2.2.2.2.2.2.2.1, HI.out.2.2.2.2.2.2.2.2.2.2.2⟩
  · rintro L a X K0 ⟨v19, v20, v21, v22, v23, v24, v18, v25, v26, v5, v6, rfl, hI⟩ hL hd hK
    have HI := hid hI
    clear hI
    obtain rfl := HI.out.2.2.2.1 (hd ⟨2, .data⟩ (by simp) rfl)
    obtain rfl := HI.out.2.2.2.2.1 (hd ⟨3, .data⟩ (by simp) rfl)
    clear hd
    refine ⟨rfl, ?_⟩
    go_simp
    refine (WPC.out X).mono ?_
    rintro e w2 ⟨D, dd, rfl, hrd, hb2⟩
    exact hK _ _ ⟨_, _, _, _, _, _, _, _, _, _, _, rfl, btr HI.out.1 hb2, HI.out.2.1, HI.out.2.2.1, HI.out.2.2.2.1, HI.out.2.2.2.2.1, fun _ => ⟨D, dd, rfl, hrd⟩, fun h => by obtain ⟨D, dd, e, hr⟩ := HI.out.2.2.2.2.2.2.1 h; exact ⟨D, dd, e, hr.bl hb2⟩, fun h => by obtain ⟨D, dd, e, hr⟩ := HI.out.2.2.2.2.2.2.2.1 h; exact ⟨D, dd, e, hr.bl hb2⟩, fun h => by obtain ⟨D, dd, e, hr⟩ := HI.out.2.2.2.2.2.2.2.2.1 h; exact ⟨D, dd, e, hr.bl hb2⟩, HI.out.2.2.2.2.2.2.2.2.2.1, fun h => by obtain ⟨D, dd, e, hr⟩ := HI.out.2.2.2.2.2.2.2.2.2.2.1 h; exact ⟨D, dd, e, hr.bl hb2⟩, HI.out.2.2.2.2.2.2.2.2.2.2.2⟩
  · rintro L a X K0 ⟨v19, v20, v21, v22, v23, v24, v18, v25, v26, v5, v6, rfl, hI⟩ hL hd hK
    have HI := hid hI
    clear hI
    obtain rfl := HI.out.2.1 (hd ⟨0, .data⟩ (by simp) rfl)
    obtain ⟨D, dd, rfl, hrd⟩ := HI.out.2.2.2.2.2.1 (hd ⟨4, .data⟩ (by simp) rfl)
    clear hd
    refine ⟨rfl, ?_⟩
    go_simp
    refine (PCL.out X D dd HI.out.1 hrd).mono ?_
    rintro e w2 ⟨D', dd', rfl, hrd', hb2⟩
    exact hK _ _ ⟨_, _, _, _, _, _, _, _, _, _, _, rfl, btr HI.out.1 hb2, HI.out.2.1, HI.out.2.2.1, HI.out.2.2.2.1, HI.out.2.2.2.2.1, fun _ => ⟨D, dd, rfl, hrd.bl hb2⟩, fun _ => ⟨D', dd', rfl, hrd'⟩, fun h => by obtain ⟨D, dd, e, hr⟩ := HI.out.2.2.2.2.2.2.2.1 h; exact ⟨D, dd, e, hr.bl hb2⟩, fun h => by obtain ⟨D, dd, e, hr⟩ := HI.out.2.2.2.2.2.2.2.2.1 h; exact ⟨D, dd, e, hr.bl hb2⟩, HI.out.2.2.2.2.2.2.2.2.2.1, fun h => by obtain ⟨D, dd, e, hr⟩ := HI.out.2.2.2.2.2.2.2.2.2.2.1 h; exact ⟨D, dd, e, hr.bl hb2⟩, HI.out.2.2.2.2.2.2.2.2.2.2.2⟩
  · rintro L a X K0 ⟨v19, v20, v21, v22, v23, v24, v18, v25, v26, v5, v6, rfl, hI⟩ hL hd hK
    have HI := hid hI
    clear hI
    obtain ⟨D, dd, rfl, hrd⟩ := HI.out.2.2.2.2.2.2.1 (hd ⟨5, .data⟩ (by simp) rfl)
    clear hd
    refine ⟨rfl, ?_⟩
    have HRD := hid hrd
    clear hrd
    go_simp
    exact hK _ _ ⟨_, _, _, _, _, _, _, _, _, _, _, rfl, HI.out.1, HI.out.2.1, HI.out.2.2.1, HI.out.2.2.2.1, HI.out.2.2.2.2.1, HI.out.2.2.2.2.2.1, fun _ => ⟨D, dd, rfl, HRD.out⟩, fun _ => ⟨D, dd, rfl, HRD.out⟩, HI.out.2.2.2.2.2.2.2.2.1, HI.out.2.2.2.2.2.2.2.2.2.1, HI.out.2.2.2.2.2.2.2.2.2.2.1, HI.out.2.2.2.2.2.2.2.2.2.2.2⟩
  · rintro L a X K0 ⟨v19, v20, v21, v22, v23, v24, v18, v25, v26, v5, v6, rfl, hI⟩ hL hd hK
    have HI := hid hI
    clear hI
    obtain ⟨D, dd, rfl, hrd⟩ := HI.out.2.2.2.2.2.2.2.1 (hd ⟨6, .data⟩ (by simp) rfl)
    clear hd
    refine ⟨rfl, ?_⟩
    have HRD := hid hrd
    clear hrd
    go_simp
    exact hK _ _ ⟨_, _, _, _, _, _, _, _, _, _, _, rfl, HI.out.1, HI.out.2.1, HI.out.2.2.1, HI.out.2.2.2.1, HI.out.2.2.2.2.1, HI.out.2.2.2.2.2.1, HI.out.2.2.2.2.2.2.1, fun _ => ⟨D, dd, rfl, HRD.out⟩, fun _ => ⟨D, dd, rfl, HRD.out⟩, HI.out.2.2.2.2.2.2.2.2.2.1, HI.out.2.2.2.2.2.2.2.2.2.2.1, HI.out.2.2.2.2.2.2.2.2.2.2.2⟩
  · rintro L a X K0 ⟨v19, v20, v21, v22, v23, v24, v18, v25, v26, v5, v6, rfl, hI⟩ hL hd hK
    have HI := hid hI
    clear hI
    obtain ⟨D, dd, rfl, hrd⟩ := HI.out.2.2.2.2.2.2.2.1 (hd ⟨6, .data⟩ (by simp) rfl)
    clear hd
    refine ⟨rfl, ?_⟩
    have HRD := hid hrd
    clear hrd
    go_simp
    exact hK _ _ ⟨_, _, _, _, _, _, _, _, _, _, _, rfl, HI.out.1, HI.out.2.1, HI.out.2.2.1, HI.out.2.2.2.1, HI.out.2.2.2.2.1, HI.out.2.2.2.2.2.1, HI.out.2.2.2.2.2.2.1, fun _ => ⟨D, dd, rfl, HRD.out⟩, HI.out.2.2.2.2.2.2.2.2.1, fun _ => rfl, HI.out.2.2.2.2.2.2.2.2.2.2.1, HI.out.2.2.2.2.2.2.2.2.2.2.2⟩
  · rintro L a X K0 ⟨v19, v20, v21, v22, v23, v24, v18, v25, v26, v5, v6, rfl, hI⟩ hL hd hK
    have HI := hid hI
    clear hI
    obtain ⟨D, dd, rfl, hrd⟩ := HI.out.2.2.2.2.2.2.2.2.1 (hd ⟨7, .data⟩ (by simp) rfl)
    clear hd
    refine ⟨rfl, ?_⟩
    have HRD := hid hrd
    clear hrd
    go_simp
    exact hK _ _ ⟨_, _, _, _, _, _, _, _, _, _, _, rfl, HI.out.1, HI.out.2.1, HI.out.2.2.1, HI.out.2.2.2.1, HI.out.2.2.2.2.1, HI.out.2.2.2.2.2.1, HI.out.2.2.2.2.2.2.1, HI.out.2.2.2.2.2.2.2.1, fun _ => ⟨D, dd, rfl, HRD.out⟩, HI.out.2.2.2.2.2.2.2.2.2.1, fun _ => ⟨D, dd, rfl, HRD.out⟩, HI.out.2.2.2.2.2.2.2.2.2.2.2⟩
  · rintro L a X K0 ⟨v19, v20, v21, v22, v23, v24, v18, v25, v26, v5, v6, rfl, hI⟩ hL hd hK
    have HI := hid hI
    clear hI
    obtain rfl := HI.out.2.2.2.2.2.2.2.2.2.1 (hd ⟨8, .data⟩ (by simp) rfl)
    clear hd
    refine ⟨rfl, ?_⟩
    go_simp
    exact hK _ _ ⟨_, _, _, _, _, _, _, _, _, _, _, rfl, HI.out.1, HI.out.2.1, HI.out.2.2.1, HI.out.2.2.2.1, HI.out.2.2.2.2.1, HI.out.2.2.2.2.2.1, HI.out.2.2.2.2.2.2.1, HI.out.2.2.2.2.2.2.2.1, HI.out.2.2.2.2.2.2.2.2.1, HI.out.2.2.2.2.2.2.2.2.2.1, HI.out.2.2.2.2.2.2.2.2.2.2.1, fun _ => rfl⟩
  · rintro L a X hLL ⟨v19, v20, v21, v22, v23, v24, v18, v25, v26, v5, v6, rfl, hI⟩
    obtain ⟨D, dd, rfl, hrd⟩ := hI.2.2.2.2.2.2.2.2.2.2.1 (hLL 9 (by simp))
    obtain rfl := hI.2.2.2.2.2.2.2.2.2.2.2 (hLL 10 (by simp))
    have hB3 := hI.1
    clear hI hLL
    have HB3 := hid hB3
    have HD := hid hrd
    clear hB3 hrd SZ WPC PCL mc0 mc1
    cases ok with
    | false =>
      go_wp2_with fail
      go_ret
      have hl : n = l.length := LM.out.1
      have he : endsR l r l.length (kk - 1) = [] := by
        refine states_none HOK.out (by omega) ?_
        have h := HOKV.out
        rw [hl] at h
        rw [← HKK.out]
        exact h
      rw [HF.out, he]
      exact ⟨none, 0, rfl, OwnR.nil0, btr B1.out HB3.out⟩
    | true =>
      have hl : n = l.length := LM.out.1
      have hst := states_some (l := l) (r := r) (s := kk - 1) HOK.out (by omega) (by
        have h := HOKV.out
        rw [hl] at h
        rw [← HKK.out]
        exact h)
      rw [← HKK.out, ← hl, HXS.out] at hst
      obtain ⟨hxl, hgt⟩ := hst
      obtain ⟨s, hs⟩ : ∃ s, kk - 1 = s := ⟨_, rfl⟩
      rw [hs] at hgt HF
      have hks : (kk : Int) - 1 = (s : Int) := by omega
      have hsx : s < xs.length := by omega
      have hsi : (s : Int) < (xs.length : Int) := by omega
      obtain ⟨b, off, rfl, _, hbb, hcx⟩ := HD.out.2.2 (by omega)
      obtain ⟨Ax, cx', cx, _, rx⟩ := hcx.row hsx
      have hpne := (hsl.out.2 (gt xs s) (by rw [HXS.out]; exact gt_mem hsx))
      have hpos : 0 < (gt xs s).length := List.length_pos_iff.2 hpne.1
      obtain ⟨b2, off2, rfl, _, hb2, hcy⟩ := rx.2.2 hpos
      obtain ⟨pl, hpe⟩ : ∃ p, gt xs s = p := ⟨_, rfl⟩
      rw [hpe] at cx rx hpne hpos hgt
      have HRX := hid rx
      have HGT := hid hgt
      have hl6 : pl.length ≤ 1048576 := by have := hpne.2; omega
      clear hcx hcy rx hpe hgt hpne
      go_wp2_with fail
      refine (clone_own b2 off2 _ _ 0 pl _ HRX.out hl6).mono ?_
      rintro e w4 ⟨D4, d4, rfl, hO4, -, hb4⟩
      have HO4 := hid hO4
      have HB4 := hid hb4
      clear hO4 hb4
      go_wp2_with fail
      go_ret
      have hF := HF.out
      rw [← hl, ← HGT.out] at hF
      rw [hF]
      exact ⟨D4, d4, rfl, HO4.out.low (btr B1.out HB3.out).size, btr (btr B1.out HB3.out) HB4.out⟩
end Go.Proofs.Ytfjoininagdlcaa
