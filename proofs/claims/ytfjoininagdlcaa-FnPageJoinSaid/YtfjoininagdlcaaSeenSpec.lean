/- PageSeen: what the reference returns. -/
import Derived.Test.YtfjoininagdlcaaManySpec
import Derived.Test.YtfjoininagdlcaaPagePure
import Derived.Test.YtfjoininagdlcaaForce2
import Derived.Deep.RegionHeld3
namespace Go.Proofs.Ytfjoininagdlcaa
open Go.RowKit Go.Shelf
attribute [local go_sem] Oper.semAt_some
theorem NestR.low {lo lo' hi : Nat} {w : World} {et ei : TypeId} {v : Value} {rs : List RowD} (h : NestR lo hi w et ei v rs) (hl : lo' ≤ lo) : NestR lo' hi w et ei v rs :=
  ⟨h.own.low hl, fun r hr => ⟨Nat.le_trans hl (h.row r hr).1, (h.row r hr).2⟩, h.one⟩
theorem forceL_in {a x : Int} : ∀ {page : List (List Int)} {i : Nat}, ∀ q ∈ forceL a x i page, q = [x] ∨ q ∈ page
  | [], _ => fun q hq => by cases hq
  | p :: r, i => fun q hq => by
    rw [forceL] at hq
    rcases List.mem_cons.1 hq with rfl | hq
    · split
      · exact .inl rfl
      · exact .inr List.mem_cons_self
    · rcases forceL_in q hq with h | h
      · exact .inl h
      · exact .inr (List.mem_cons_of_mem _ h)
theorem force_ok {n : Int} {page : List (List Int)} {a x : Int} (h : pageOk n page = true) (h0 : 0 ≤ x) (h1 : x < n) : pageOk n (forceL a x 0 page) = true := by
  unfold pageOk at h ⊢
  rw [Bool.and_eq_true, Bool.and_eq_true, decide_eq_true_eq, List.all_eq_true] at h ⊢
  refine ⟨h.1, by rw [forceL_len]; exact h.2.1, fun p hp => ?_⟩
  rcases forceL_in p hp with rfl | hp
  · show (placeFrom n (-1) [x] && _) = true
    rw [placeFrom, placeFrom, inB_yes.2 ⟨by omega, by omega⟩]; rfl
  · exact h.2.2 p hp
theorem both_force {l : List Int} {r page : List (List Int)} {a x : Int} (h : bothOk l r page = true) (h0 : 0 ≤ x) (h1 : x < l.length) : bothOk l r (forceL a x 0 page) = true := by
  unfold bothOk at h ⊢
  rw [Bool.and_eq_true] at h ⊢
  exact ⟨h.1, force_ok h.2 h0 h1⟩
set_option maxRecDepth 100000 in
set_option maxHeartbeats 2000000 in
theorem specPageSeen_any (A B C : Option Addr) (n c m e0 q d lo : Nat) (l : List Int) (r page : List (List Int)) (w : World) (hl : Rd intS lo w.heap.size w A n l) (hr : Rd (sliceS intS) lo w.heap.size w B m r) (hp : Rd (sliceS intS) lo w.heap.size w C q page) :
    Calls Try.prog 33 #[.agg #[.slice A n c, .slice B m e0], .slice C q d] w (RetRB w (seenV l r page)) := by
  obtain ⟨j0, hj1, hy0, hy1, hy2⟩ := info_parts (show (Try.prog.info? 23).map (fun i => (i.zero, i.size, i.bytes)) = some (some (.slice none 0 0), 1, 24) by kernel_rfl)
  have HJ := hid (And.intro hj1 (And.intro hy0 (And.intro hy1 hy2)))
  clear hj1 hy0 hy1 hy2
  obtain ⟨i0, hi1, hz0, hz1, hz2⟩ := info_parts (show (Try.prog.info? 3).map (fun i => (i.zero, i.size, i.bytes)) = some (some (.int .i64 0), 1, 8) by kernel_rfl)
  have HI0 := hid (And.intro hi1 (And.intro hz0 (And.intro hz1 hz2)))
  clear hi1 hz0 hz1 hz2
  have L := hid hl
  have R := hid hr
  have PG := hid hp
  have h63 := hp.2.1
  have hqp := hid hp.1
  clear hl hr hp
  have HS := hid (show manyV l r page < 1 → seenV l r page = none from fun h => by
    unfold manyV at h; unfold seenV
    by_cases hb : bothOk l r page = true
    · rw [if_pos hb] at h; rw [hb, decide_eq_false (by omega)]; rfl
    · rw [Bool.not_eq_true] at hb; rw [hb]; rfl)
  have b0 := bnew w (.cells #[.slice A n c, .slice B m e0] 26)
  have c0 := heap_alloc_new w (.cells #[.slice A n c, .slice B m e0] 26)
  have z0 : (w.alloc (.cells #[.slice A n c, .slice B m e0] 26)).heap.size = w.heap.size + 1 := by simp
  obtain ⟨w1, hw1⟩ : ∃ x, w.alloc (.cells #[.slice A n c, .slice B m e0] 26) = x := ⟨_, rfl⟩
  rw [hw1] at b0 c0 z0
  have B0 := hid b0
  have C0 := hid c0
  have Z0 := hid z0
  have HW1 := hid hw1
  clear b0 c0 z0 hw1
  have b1 := bnew w1 (.cells #[] 23)
  have z1 : (w1.alloc (.cells #[] 23)).heap.size = w1.heap.size + 1 := by simp
  have n1 : NestR w1.heap.size (w1.alloc (.cells #[] 23)).heap.size (w1.alloc (.cells #[] 23)) 23 3 (.slice (some ⟨w1.heap.size, 0, none⟩) 0 0) [] := NestR.nil (Nat.le_refl _) _ rfl
  have B1 := hid b1
  have N1 := hid n1
  have Z1 := hid z1
  clear b1 n1 z1
  have CALL1 := hid (show ∀ w', Below w.heap.size w w' → Calls Try.prog 15 #[.agg #[.slice A n c, .slice B m e0], .slice C q d] w' fun e w'' => e = .returned (.int .i64 (manyV l r page)) ∧ Below w'.heap.size w' w'' from fun w' hb => specReadingsMany_any A B C n c m e0 q d lo l r page w' (L.out.bl hb) (R.out.bl hb) (PG.out.bl hb))
  obtain ⟨mv, hmv⟩ : ∃ v, manyV l r page = v := ⟨_, rfl⟩
  rw [hmv] at HS CALL1
  have HMV := hid hmv
  clear hmv
  by_cases h1 : mv < 1
  case pos =>
    have HN := hid (HS.out h1)
    go_enter Try.func33, Try.ntmps33
    go_wp2_with fail
    rw [HW1.out, show w.heap.size + 1 = w1.heap.size from Z0.out.symm]
    refine (CALL1.out _ (btr B0.out B1.out)).mono ?_
    rintro e w2 ⟨rfl, hb2⟩
    have B2 := hid hb2
    clear hb2
    go_wp2_with fail
    go_ret2
    exact RetRB.of (xs := []) (rs := []) (by rw [HN.out]; rfl) (by rw [HN.out]; rfl) rfl (((N1.out.bl B2.out).wide B2.out.size).low (by have := Z0.out; omega)) rfl (btr (btr B0.out B1.out) B2.out)
  case neg =>
    have hmn : 1 ≤ mv := by omega
    obtain ⟨hok, hpos⟩ : bothOk l r page = true ∧ 0 < manyOf l r page (-1) := by
      have h := HMV.out
      unfold manyV at h
      by_cases hb : bothOk l r page = true
      · rw [if_pos hb] at h; exact ⟨hb, by omega⟩
      · rw [if_neg hb] at h; omega
    have HV := hid (show seenV l r page = some (seenL (standsF l r page) 0 page) by unfold seenV; rw [hok, decide_eq_true hpos]; rfl)
    have hpg := (bothOk_yes hok).2
    have hn8 : q ≤ 8 := by rw [hqp.out]; exact (pageOk_yes hpg).1
    have HPG := hid (pageOk_yes hpg).2
    have HL6 := hid (pageOk_len hpg)
    have HOK := hid hok
    clear hok hpos hpg
    go_enter Try.func33, Try.ntmps33
    go_wp2_with fail
    rw [HW1.out, show w.heap.size + 1 = w1.heap.size from Z0.out.symm]
    refine (CALL1.out _ (btr B0.out B1.out)).mono ?_
    rintro e w2 ⟨rfl, hb2⟩
    have B2 := hid hb2
    have hz2 := hb2.size
    clear hb2
    go_wp2_with fail
    go_loopg [6, 7] q (fun gk out i wr => ∃ (k : Nat) (rs : List RowD) (g d0 : Nat), k + gk = q ∧ i = .int .i64 k ∧ out = .slice (some ⟨g, 0, none⟩) rs.length d0 ∧ rs.length = k ∧ NestR w1.heap.size wr.heap.size wr 23 3 (.slice (some ⟨g, 0, none⟩) rs.length d0) rs ∧ rs.map (·.2.2) = (seenL (standsF l r page) 0 page).take k ∧ Below w1.heap.size w1 wr)
    case atStart => exact ⟨0, [], _, _, Nat.zero_add _, rfl, rfl, rfl, (N1.out.bl B2.out).wide B2.out.size, rfl, btr B1.out B2.out⟩
    case round =>
      obtain ⟨k, rs, g, d0, hkg, rfl, rfl, hrl, hN, hls, hb⟩ := hrel
      have HKG := hid hkg
      have HRL := hid hrl
      have HN := hid hN
      have HLS := hid hls
      have HB := hid hb
      have hkq : k ≤ q := by omega
      have hrl8 : rs.length ≤ 8 := by omega
      have hwz := hb.size
      clear hkg hrl hN hls hb
      by_cases hlt : k < q
      case neg =>
        obtain rfl : k = q := by omega
        go_wp2_with fail
        go_ret2
        exact RetRB.of (xs := seenL (standsF l r page) 0 page) (rs := rs) (by rw [HV.out]; rfl) (by rw [HV.out]; rfl) (by rw [HRL.out, seenL_len]; exact hqp.out) (HN.out.low (by have := Z0.out; omega)) (by rw [HLS.out, List.take_of_length_le (by rw [seenL_len, hqp.out]; omega)]) (btr B0.out HB.out)
      case pos =>
        have hki : (k : Int) < (q : Int) := by omega
        have hkp : k < page.length := by rw [← hqp.out]; exact hlt
        obtain ⟨b, off, rfl, _, hbb, hcx⟩ := PG.out.2.2 (by omega)
        obtain ⟨Ax, cx', cx0, _, rx⟩ := hcx.row hlt
        have cx := bcl (btr B0.out HB.out) cx0
        obtain ⟨p, hpe⟩ : ∃ p, gt page k = p := ⟨_, rfl⟩
        have HT := hid (take_gt (l := seenL (standsF l r page) 0 page) (k := k) (by rw [seenL_len]; exact hkp))
        have HGT := hid (show gt (seenL (standsF l r page) 0 page) k = p.filter (standsF l r page k) by rw [seenL_gt hkp, Nat.zero_add, hpe])
        have hp6 := HL6.out _ (gt_mem hkp)
        have hpb := HPG.out _ (gt_mem hkp)
        rw [hpe] at cx rx hp6 hpb
        have HRX := hid rx
        have HPB := hid hpb
        have HPE := hid hpe
        clear rx hpb hpe hcx cx0
        have MC0 := bcl HB.out (show w1.cell? ⟨w.heap.size, 0, none⟩ = some (.slice A n c) from (at_get' C0.out).1)
        have MC1 := bcl HB.out (show w1.cell? ⟨w.heap.size, 1, none⟩ = some (.slice B m e0) from (at_get' C0.out).2.1)
        have hblt : b < wr.heap.size := by have := Z0.out; omega
        obtain ⟨wo, hwo⟩ : ∃ x : World, x = wr := ⟨_, rfl⟩
        subst hwo
        obtain ⟨go_, hgo⟩ : ∃ x : Nat, x = gk := ⟨_, rfl⟩
        subst hgo
        clear B1 N1 Z1 CALL1 HS B2 hz2
        go_wp2_with fail
        have hn0 := OwnR.nil (S := intS) (base := wo.heap.size) (e := 3) (Nat.le_refl wo.heap.size) #[] rfl
        have ON0 := hid hn0
        clear hn0
        go_loopg [8, 9] p.length (fun gk words i wr => ∃ (j : Nat) (xs : List Int) (g2 d2 : Nat), j + gk = p.length ∧ i = .int .i64 j ∧ words = .slice (some ⟨g2, 0, none⟩) xs.length d2 ∧ xs = (p.take j).filter (standsF l r page k) ∧ OwnR intS wo.heap.size wr 3 (.slice (some ⟨g2, 0, none⟩) xs.length d2) xs ∧ Below wo.heap.size wo wr)
        case atStart => exact ⟨0, [], _, _, Nat.zero_add _, rfl, rfl, rfl, ON0.out, bnew _ _⟩
        case round =>
          obtain ⟨j, xs, g2, d2, hjg, rfl, rfl, hxs, hO, hb⟩ := hrel
          have HJG := hid hjg
          have HXS := hid hxs
          have HO := hid hO
          have HB2 := hid hb
          have hwz2 := hb.size
          have hj : j ≤ p.length := by omega
          have hxl : xs.length ≤ 6 := by have h1 := List.length_filter_le (standsF l r page k) (p.take j); have h2 := List.length_take_le j p; rw [hxs]; omega
          have cx2 := bcl hb cx
          have mc0 := bcl hb MC0
          have mc1 := bcl hb MC1
          clear hjg hxs hO hb
          by_cases hjn : j < p.length
          case neg =>
            obtain rfl : j = p.length := by omega
            have hra := (HO.out.rowAt (by omega)).2
            have HRA := hid hra.1
            have hg2 := hra.2
            have hxf : xs = p.filter (standsF l r page k) := by rw [HXS.out, List.take_length]
            have HXF := hid hxf
            clear hra hxf
            go_wp2_with (at_builtin; refine wpList_append_row rfl (.tmp 55) (.tmp 57) _ rfl Try.underlying24 HJ.out (v := .slice (some ⟨g, 0, none⟩) rs.length d0) rfl rfl ((HN.out.bl HB2.out).al _) (r := (g2, d2, xs)) rfl rfl (heap_alloc_new _ _) (HRA.out.al _) (by omega) (HN.out.fresh hg2).1 (HN.out.fresh hg2).2 (by omega) (by simp; omega) (by simp; omega) ?_; intro A3 c3 w3 hN3 hc3 hg3)
            obtain ⟨g', rfl⟩ := hg3
            have HN3 := hid hN3
            have HB3 := hid (((HB.out.trans (HB2.out.mono hwz)).alloc (by omega) _).trans (hc3.below (by simp; omega) fun k hk => (HN.out.own.own_lt hk).1))
            clear hN3 hc3
            go_roundg (go_ - 1)
            case measure => have := HKG.out; omega
            case rel => exact ⟨k + 1, rs ++ [(g2, d2, xs)], g', c3, by have := HKG.out; omega, by go_num, by rw [List.length_append]; rfl, by rw [List.length_append, HRL.out]; rfl, by rw [List.length_append]; exact HN3.out, by rw [List.map_append, HLS.out, HT.out, HGT.out, ← HXF.out]; rfl, HB3.out⟩
          case pos =>
            have hji : (j : Int) < (p.length : Int) := by omega
            obtain ⟨bx, ox, rfl, _, hbx, hcx⟩ := HRX.out.2.2 (by omega)
            have ci := bcl (btr (btr B0.out HB.out) HB2.out) (hcx.int hjn)
            obtain ⟨x, hxe⟩ : ∃ x, gt p j = x := ⟨_, rfl⟩
            have HTJ := hid (take_gt (l := p) (k := j) hjn)
            obtain ⟨hx0, hxn⟩ := HPB.out.2 x (hxe ▸ gt_mem hjn)
            rw [hxe] at ci
            have HXE := hid hxe
            have hbx2 : bx < wr.heap.size := by have := Z0.out; omega
            obtain ⟨mz, hmz⟩ : ∃ z, manyOf l r (forceL (k : Int) x 0 page) (-1) = z := ⟨_, rfl⟩
            have hxl0 : x < (l.length : Int) := hxn
            have hfo := both_force (a := (k : Int)) HOK.out hx0 hxl0
            have hln : n = l.length := L.out.1
            have FC := hid (show ∀ X, Below wr.heap.size wr X → Calls Try.prog 65 #[.slice (some ⟨b, off, none⟩) q d, .int .i64 k, .int .i64 x] X fun e w' => ∃ D dd, e = .returned (.slice D q dd) ∧ Rd (sliceS intS) 0 w'.heap.size w' D q (forceL (k : Int) x 0 page) ∧ Below X.heap.size X w' from fun X hbX =>
              (l5Force_any (some ⟨b, off, none⟩) q d lo page k x X (PG.out.bl (btr (btr (btr B0.out HB.out) HB2.out) hbX)) hn8 (fun p' hp' => ⟨(HPG.out p' hp').1, by have := HL6.out p' hp'; omega⟩)).mono (by
                rintro e w' ⟨D, dd, rs, rfl, hN, hm, -, hb'⟩
                have hlen : rs.length = q := by have := congrArg List.length hm; rw [List.length_map, forceL_len] at this; rw [this, hqp.out]
                have h2 := (hN.rd (by omega)).2
                rw [hm, hlen] at h2
                rw [hlen]
                exact ⟨D, dd, rfl, h2.wide (Nat.zero_le _) (Nat.le_refl _), hb'⟩))
            have MCL := hid (show ∀ X D dd, Below wr.heap.size wr X → Rd (sliceS intS) 0 X.heap.size X D q (forceL (k : Int) x 0 page) → Calls Try.prog 54 #[.agg #[.slice A n c, .slice B m e0], .slice D q dd, .int .i64 0, .int .i64 (-1)] X fun e w' => e = .returned (.int .i64 (mz : Nat)) ∧ Below X.heap.size X w' from fun X D dd hbX hrd => by
              have h := l5Many_any A B D n c m e0 q dd 0 l r _ hfo (forceL (k : Int) x 0 page) [] (-1) X rfl (by omega) ((L.out.bl (btr (btr (btr B0.out HB.out) HB2.out) hbX)).wide (Nat.zero_le _) (Nat.le_refl _)) ((R.out.bl (btr (btr (btr B0.out HB.out) HB2.out) hbX)).wide (Nat.zero_le _) (Nat.le_refl _)) hrd
              rw [hmz] at h
              exact h)
            have HMZ := hid hmz
            clear hcx hxe hmz hfo hln hxl0
            go_wp2_with fail
            refine wp_region_invG (by kernel_rfl) (by kernel_rfl) (fun L a X => ∃ v32 v33 v34 v35 v36 v37 v38 v39 v40 v41 v42 v43 v44 : Value, a = { tmps := #[.agg #[.slice A n c, .slice B m e0], .slice (some ⟨b, off, none⟩) q d, .pointer (some ⟨w.heap.size, 0, none⟩), undef, .slice none 0 0, .bool false, .slice (some ⟨g, 0, none⟩) rs.length d0, .int .i64 k, .slice (some ⟨g2, 0, none⟩) xs.length d2, .int .i64 j, .slice (some ⟨w1.heap.size, 0, none⟩) 0 0, .agg #[.slice A n c, .slice B m e0], .slice (some ⟨b, off, none⟩) q d, .int .i64 mv, .bool (decide (mv < 1)), undef, .int .i64 k, .slice (some ⟨b, off, none⟩) q d, .int .i64 q, .bool true, u20, u21, .slice (some ⟨wo.heap.size, 0, none⟩) 0 0, .int .i64 j, .slice (some ⟨b, off, none⟩) q d, .int .i64 k, .pointer (some ⟨b, off + k, none⟩), .slice (some ⟨bx, ox, none⟩) p.length cx', .int .i64 p.length, .bool true, u30, u31, v32, v33, v34, v35, v36, v37, v38, v39, v40, v41, v42, v43, v44, u45, u46, u47, u48, u49, u50, u51, u52, u53, u54, u55, u56, u57, u58, undef], defers := [] } ∧
              Below wr.heap.size wr X ∧ (L 0 = true → v32 = .agg #[.slice A n c, .slice B m e0]) ∧ (L 1 = true → v33 = .slice (some ⟨b, off, none⟩) q d) ∧ (L 2 = true → v34 = .int .i64 k) ∧ (L 3 = true → v35 = .slice (some ⟨b, off, none⟩) q d) ∧ (L 4 = true → v36 = .int .i64 k) ∧ (L 5 = true → v37 = .pointer (some ⟨b, off + k, none⟩)) ∧ (L 6 = true → v38 = .slice (some ⟨bx, ox, none⟩) p.length cx') ∧ (L 7 = true → v39 = .int .i64 j) ∧ (L 8 = true → v40 = .pointer (some ⟨bx, ox + j, none⟩)) ∧ (L 9 = true → v41 = .int .i64 x) ∧ (L 10 = true → ∃ D dd, v42 = .slice D q dd ∧ Rd (sliceS intS) 0 X.heap.size X D q (forceL (k : Int) x 0 page)) ∧ (L 11 = true → v43 = .int .i64 (mz : Nat)) ∧ (L 12 = true → v44 = .bool (decide (0 < mz)))) ?_ ⟨?_, ?_, ?_, ?_, ?_, ?_, ?_, ?_, ?_, ?_, ?_, ?_, ?_, trivial⟩ ?_
            · exact ⟨_, _, _, _, _, _, _, _, _, _, _, _, _, rfl, bdr _, fun h => (by cases h), fun h => (by cases h), fun h => (by cases h), fun h => (by cases h), fun h => (by cases h), fun h => (by cases h), fun h => (by cases h), fun h => (by cases h), fun h => (by cases h), fun h => (by cases h), fun h => (by cases h), fun h => (by cases h), fun h => (by cases h)⟩
            · rintro L a X K0 ⟨v32, v33, v34, v35, v36, v37, v38, v39, v40, v41, v42, v43, v44, rfl, hI⟩ hL hd hK
              have HI := hid hI
              clear hI
              have q1 := bcl HI.out.1 mc0
              have q2 := bcl HI.out.1 mc1
              clear hd
              refine ⟨rfl, ?_⟩
              go_simp
              exact hK _ _ ⟨_, _, _, _, _, _, _, _, _, _, _, _, _, rfl, HI.out.1, fun _ => rfl, HI.out.2.2.1, HI.out.2.2.2.1, HI.out.2.2.2.2.1, HI.out.2.2.2.2.2.1, HI.out.2.2.2.2.2.2.1, HI.out.2.2.2.2.2.2.2.1, HI.out.2.2.2.2.2.2.2.2.1, HI.out.2.2.2.2.2.2.2.2.2.1, HI.out.2.2.2.2.2.2.2.2.2.2.1, HI.out.2.2.2.2.2.2.2.2.2.2.2.1, HI.out.2.2.2.2.2.2.2.2.2.2.2.2.1, HI.out.2.2.2.2.2.2.2.2.2.2.2.2.2⟩
            · rintro L a X K0 ⟨v32, v33, v34, v35, v36, v37, v38, v39, v40, v41, v42, v43, v44, rfl, hI⟩ hL hd hK
              have HI := hid hI
              clear hI
              clear hd
              refine ⟨rfl, ?_⟩
              go_simp
              exact hK _ _ ⟨_, _, _, _, _, _, _, _, _, _, _, _, _, rfl, HI.out.1, HI.out.2.1, fun _ => rfl, HI.out.2.2.2.1, HI.out.2.2.2.2.1, HI.out.2.2.2.2.2.1, HI.out.2.2.2.2.2.2.1, HI.out.2.2.2.2.2.2.2.1, HI.out.2.2.2.2.2.2.2.2.1, HI.out.2.2.2.2.2.2.2.2.2.1, HI.out.2.2.2.2.2.2.2.2.2.2.1, HI.out.2.2.2.2.2.2.2.2.2.2.2.1, HI.out.2.2.2.2.2.2.2.2.2.2.2.2.1, HI.out.2.2.2.2.2.2.2.2.2.2.2.2.2⟩
            · rintro L a X K0 ⟨v32, v33, v34, v35, v36, v37, v38, v39, v40, v41, v42, v43, v44, rfl, hI⟩ hL hd hK
              have HI := hid hI
              clear hI
              clear hd
              refine ⟨rfl, ?_⟩
              go_simp
              exact hK _ _ ⟨_, _, _, _, _, _, _, _, _, _, _, _, _, rfl, HI.out.1, HI.out.2.1, HI.out.2.2.1, fun _ => rfl, HI.out.2.2.2.2.1, HI.out.2.2.2.2.2.1, HI.out.2.2.2.2.2.2.1, HI.out.2.2.2.2.2.2.2.1, HI.out.2.2.2.2.2.2.2.2.1, HI.out.2.2.2.2.2.2.2.2.2.1, HI.out.2.2.2.2.2.2.2.2.2.2.1, HI.out.2.2.2.2.2.2.2.2.2.2.2.1, HI.out.2.2.2.2.2.2.2.2.2.2.2.2.1, HI.out.2.2.2.2.2.2.2.2.2.2.2.2.2⟩
            · rintro L a X K0 ⟨v32, v33, v34, v35, v36, v37, v38, v39, v40, v41, v42, v43, v44, rfl, hI⟩ hL hd hK
              have HI := hid hI
              clear hI
              clear hd
              refine ⟨rfl, ?_⟩
              go_simp
              exact hK _ _ ⟨_, _, _, _, _, _, _, _, _, _, _, _, _, rfl, HI.out.1, HI.out.2.1, HI.out.2.2.1, HI.out.2.2.2.1, fun _ => rfl, HI.out.2.2.2.2.2.1, HI.out.2.2.2.2.2.2.1, HI.out.2.2.2.2.2.2.2.1, HI.out.2.2.2.2.2.2.2.2.1, HI.out.2.2.2.2.2.2.2.2.2.1, HI.out.2.2.2.2.2.2.2.2.2.2.1, HI.out.2.2.2.2.2.2.2.2.2.2.2.1, HI.out.2.2.2.2.2.2.2.2.2.2.2.2.1, HI.out.2.2.2.2.2.2.2.2.2.2.2.2.2⟩
            · rintro L a X K0 ⟨v32, v33, v34, v35, v36, v37, v38, v39, v40, v41, v42, v43, v44, rfl, hI⟩ hL hd hK
              have HI := hid hI
              clear hI
              clear hd
              refine ⟨rfl, ?_⟩
              go_simp
              exact hK _ _ ⟨_, _, _, _, _, _, _, _, _, _, _, _, _, rfl, HI.out.1, HI.out.2.1, HI.out.2.2.1, HI.out.2.2.2.1, HI.out.2.2.2.2.1, fun _ => rfl, HI.out.2.2.2.2.2.2.1, HI.out.2.2.2.2.2.2.2.1, HI.out.2.2.2.2.2.2.2.2.1, HI.out.2.2.2.2.2.2.2.2.2.1, HI.out.2.2.2.2.2.2.2.2.2.2.1, HI.out.2.2.2.2.2.2.2.2.2.2.2.1, HI.out.2.2.2.2.2.2.2.2.2.2.2.2.1, HI.out.2.2.2.2.2.2.2.2.2.2.2.2.2⟩
            · rintro L a X K0 ⟨v32, v33, v34, v35, v36, v37, v38, v39, v40, v41, v42, v43, v44, rfl, hI⟩ hL hd hK
              have HI := hid hI
              clear hI
              obtain rfl := HI.out.2.2.2.2.1 (hd ⟨3, .data⟩ (by simp) rfl)
              obtain rfl := HI.out.2.2.2.2.2.1 (hd ⟨4, .data⟩ (by simp) rfl)
              clear hd
              refine ⟨rfl, ?_⟩
              go_simp
              exact hK _ _ ⟨_, _, _, _, _, _, _, _, _, _, _, _, _, rfl, HI.out.1, HI.out.2.1, HI.out.2.2.1, HI.out.2.2.2.1, HI.out.2.2.2.2.1, HI.out.2.2.2.2.2.1, fun _ => rfl, HI.out.2.2.2.2.2.2.2.1, HI.out.2.2.2.2.2.2.2.2.1, HI.out.2.2.2.2.2.2.2.2.2.1, HI.out.2.2.2.2.2.2.2.2.2.2.1, HI.out.2.2.2.2.2.2.2.2.2.2.2.1, HI.out.2.2.2.2.2.2.2.2.2.2.2.2.1, HI.out.2.2.2.2.2.2.2.2.2.2.2.2.2⟩
            · rintro L a X K0 ⟨v32, v33, v34, v35, v36, v37, v38, v39, v40, v41, v42, v43, v44, rfl, hI⟩ hL hd hK
              have HI := hid hI
              clear hI
              obtain rfl := HI.out.2.2.2.2.2.2.1 (hd ⟨5, .data⟩ (by simp) rfl)
              have q1 := bcl HI.out.1 cx2
              clear hd
              refine ⟨rfl, ?_⟩
              go_simp
              exact hK _ _ ⟨_, _, _, _, _, _, _, _, _, _, _, _, _, rfl, HI.out.1, HI.out.2.1, HI.out.2.2.1, HI.out.2.2.2.1, HI.out.2.2.2.2.1, HI.out.2.2.2.2.2.1, HI.out.2.2.2.2.2.2.1, fun _ => rfl, HI.out.2.2.2.2.2.2.2.2.1, HI.out.2.2.2.2.2.2.2.2.2.1, HI.out.2.2.2.2.2.2.2.2.2.2.1, HI.out.2.2.2.2.2.2.2.2.2.2.2.1, HI.out.2.2.2.2.2.2.2.2.2.2.2.2.1, HI.out.2.2.2.2.2.2.2.2.2.2.2.2.2⟩
            · rintro L a X K0 ⟨v32, v33, v34, v35, v36, v37, v38, v39, v40, v41, v42, v43, v44, rfl, hI⟩ hL hd hK
              have HI := hid hI
              clear hI
              clear hd
              refine ⟨rfl, ?_⟩
              go_simp
              exact hK _ _ ⟨_, _, _, _, _, _, _, _, _, _, _, _, _, rfl, HI.out.1, HI.out.2.1, HI.out.2.2.1, HI.out.2.2.2.1, HI.out.2.2.2.2.1, HI.out.2.2.2.2.2.1, HI.out.2.2.2.2.2.2.1, HI.out.2.2.2.2.2.2.2.1, fun _ => rfl, HI.out.2.2.2.2.2.2.2.2.2.1, HI.out.2.2.2.2.2.2.2.2.2.2.1, HI.out.2.2.2.2.2.2.2.2.2.2.2.1, HI.out.2.2.2.2.2.2.2.2.2.2.2.2.1, HI.out.2.2.2.2.2.2.2.2.2.2.2.2.2⟩
            · rintro L a X K0 ⟨v32, v33, v34, v35, v36, v37, v38, v39, v40, v41, v42, v43, v44, rfl, hI⟩ hL hd hK
              have HI := hid hI
              clear hI
              obtain rfl := HI.out.2.2.2.2.2.2.2.1 (hd ⟨6, .data⟩ (by simp) rfl)
              obtain rfl := HI.out.2.2.2.2.2.2.2.2.1 (hd ⟨7, .data⟩ (by simp) rfl)
              clear hd
              refine ⟨rfl, ?_⟩
              go_simp
              exact hK _ _ ⟨_, _, _, _, _, _, _, _, _, _, _, _, _, rfl, HI.out.1, HI.out.2.1, HI.out.2.2.1, HI.out.2.2.2.1, HI.out.2.2.2.2.1, HI.out.2.2.2.2.2.1, HI.out.2.2.2.2.2.2.1, HI.out.2.2.2.2.2.2.2.1, HI.out.2.2.2.2.2.2.2.2.1, fun _ => rfl, HI.out.2.2.2.2.2.2.2.2.2.2.1, HI.out.2.2.2.2.2.2.2.2.2.2.2.1, HI.out.2.2.2.2.2.2.2.2.2.2.2.2.1, HI.out.2.2.2.2.2.2.2.2.2.2.2.2.2⟩
            · rintro L a X K0 ⟨v32, v33, v34, v35, v36, v37, v38, v39, v40, v41, v42, v43, v44, rfl, hI⟩ hL hd hK
              have HI := hid hI
              clear hI
              obtain rfl := HI.out.2.2.2.2.2.2.2.2.2.1 (hd ⟨8, .data⟩ (by simp) rfl)
              have q1 := bcl HI.out.1 ci
              clear hd
              refine ⟨rfl, ?_⟩
              go_simp
              exact hK _ _ ⟨_, _, _, _, _, _, _, _, _, _, _, _, _, rfl, HI.out.1, HI.out.2.1, HI.out.2.2.1, HI.out.2.2.2.1, HI.out.2.2.2.2.1, HI.out.2.2.2.2.2.1, HI.out.2.2.2.2.2.2.1, HI.out.2.2.2.2.2.2.2.1, HI.out.2.2.2.2.2.2.2.2.1, HI.out.2.2.2.2.2.2.2.2.2.1, fun _ => rfl, HI.out.2.2.2.2.2.2.2.2.2.2.2.1, HI.out.2.2.2.2.2.2.2.2.2.2.2.2.1, HI.out.2.2.2.2.2.2.2.2.2.2.2.2.2⟩
            · rintro L a X K0 ⟨v32, v33, v34, v35, v36, v37, v38, v39, v40, v41, v42, v43, v44, rfl, hI⟩ hL hd hK
              have HI := hid hI
              clear hI
              obtain rfl := HI.out.2.2.1 (hd ⟨1, .data⟩ (by simp) rfl)
              obtain rfl := HI.out.2.2.2.1 (hd ⟨2, .data⟩ (by simp) rfl)
              obtain rfl := HI.out.2.2.2.2.2.2.2.2.2.2.1 (hd ⟨9, .data⟩ (by simp) rfl)
              clear hd
              refine ⟨rfl, ?_⟩
              go_simp
              refine (FC.out X HI.out.1).mono ?_
              rintro e w2 ⟨D, dd, rfl, hrd, hb2⟩
              exact hK _ _ ⟨_, _, _, _, _, _, _, _, _, _, _, _, _, rfl, btr HI.out.1 hb2, HI.out.2.1, HI.out.2.2.1, HI.out.2.2.2.1, HI.out.2.2.2.2.1, HI.out.2.2.2.2.2.1, HI.out.2.2.2.2.2.2.1, HI.out.2.2.2.2.2.2.2.1, HI.out.2.2.2.2.2.2.2.2.1, HI.out.2.2.2.2.2.2.2.2.2.1, HI.out.2.2.2.2.2.2.2.2.2.2.1, fun _ => ⟨D, dd, rfl, hrd⟩, HI.out.2.2.2.2.2.2.2.2.2.2.2.2.1, HI.out.2.2.2.2.2.2.2.2.2.2.2.2.2⟩
            · rintro L a X K0 ⟨v32, v33, v34, v35, v36, v37, v38, v39, v40, v41, v42, v43, v44, rfl, hI⟩ hL hd hK
              have HI := hid hI
              clear hI
              obtain rfl := HI.out.2.1 (hd ⟨0, .data⟩ (by simp) rfl)
              obtain ⟨D, dd, rfl, hrd⟩ := HI.out.2.2.2.2.2.2.2.2.2.2.2.1 (hd ⟨10, .data⟩ (by simp) rfl)
              clear hd
              refine ⟨rfl, ?_⟩
              go_simp
              refine (MCL.out X D dd HI.out.1 hrd).mono ?_
              rintro e w2 ⟨rfl, hb2⟩
              exact hK _ _ ⟨_, _, _, _, _, _, _, _, _, _, _, _, _, rfl, btr HI.out.1 hb2, HI.out.2.1, HI.out.2.2.1, HI.out.2.2.2.1, HI.out.2.2.2.2.1, HI.out.2.2.2.2.2.1, HI.out.2.2.2.2.2.2.1, HI.out.2.2.2.2.2.2.2.1, HI.out.2.2.2.2.2.2.2.2.1, HI.out.2.2.2.2.2.2.2.2.2.1, HI.out.2.2.2.2.2.2.2.2.2.2.1, fun _ => ⟨D, dd, rfl, hrd.bl hb2⟩, fun _ => rfl, HI.out.2.2.2.2.2.2.2.2.2.2.2.2.2⟩
            · rintro L a X K0 ⟨v32, v33, v34, v35, v36, v37, v38, v39, v40, v41, v42, v43, v44, rfl, hI⟩ hL hd hK
              have HI := hid hI
              clear hI
              obtain rfl := HI.out.2.2.2.2.2.2.2.2.2.2.2.2.1 (hd ⟨11, .data⟩ (by simp) rfl)
              clear hd
              refine ⟨rfl, ?_⟩
              go_simp
              exact hK _ _ ⟨_, _, _, _, _, _, _, _, _, _, _, _, _, rfl, HI.out.1, HI.out.2.1, HI.out.2.2.1, HI.out.2.2.2.1, HI.out.2.2.2.2.1, HI.out.2.2.2.2.2.1, HI.out.2.2.2.2.2.2.1, HI.out.2.2.2.2.2.2.2.1, HI.out.2.2.2.2.2.2.2.2.1, HI.out.2.2.2.2.2.2.2.2.2.1, HI.out.2.2.2.2.2.2.2.2.2.2.1, HI.out.2.2.2.2.2.2.2.2.2.2.2.1, HI.out.2.2.2.2.2.2.2.2.2.2.2.2.1, fun _ => rfl⟩
            · rintro L a X hLL ⟨v32, v33, v34, v35, v36, v37, v38, v39, v40, v41, v42, v43, v44, rfl, hI⟩
              obtain rfl := hI.2.2.2.2.2.2.2.2.2.2.2.2.2 (hLL 12 (by simp))
              have HB3 := hid hI.1
              clear hI hLL
              have hst : standsF l r page k x = decide (0 < mz) := by unfold standsF; rw [HMZ.out]
              have HST := hid hst
              clear hst FC MCL
              have hX : wr.heap.size ≤ X.heap.size := HB3.out.size
              by_cases hz : 0 < mz
              case pos =>
                have hzd : decide (0 < mz) = true := decide_eq_true hz
                have ci3 := bcl HB3.out ci
                have cx3 := bcl HB3.out cx2
                go_wp2_with (at_builtin; refine wpList_append_R rfl (.tmp 45) (.tmp 53) _ rfl intS Try.underlying23 HI0.out rfl (by decide) rfl ((HO.out.bl HB3.out).al _) (y := x) rfl (heap_alloc_new _ _) rfl (by simp [Value.oneCell']) rfl (by omega) (by omega) (by simp; omega) ?_; intro A2 c2 w5 hO4 hb4)
                obtain ⟨g', rfl, _⟩ := hO4.blk (by omega)
                have HO4 := hid hO4
                have HB5 := hid (Below.trans (bal (btr HB2.out HB3.out) _) (hb4.mono (by simp)))
                clear hO4 hb4
                go_roundg (gk - 1)
                case measure => have := HJG.out; omega
                case rel => exact ⟨j + 1, xs ++ [x], g', c2, by have := HJG.out; omega, by go_num, by rw [List.length_append]; rfl, by rw [HTJ.out, List.filter_append, ← HXS.out, HXE.out, List.filter_cons, HST.out, hzd]; rfl, by rw [List.length_append]; exact HO4.out, HB5.out⟩
              case neg =>
                have hzd : decide (0 < mz) = false := decide_eq_false hz
                go_wp2_with fail
                go_roundg (gk - 1)
                case measure => have := HJG.out; omega
                case rel => exact ⟨j + 1, xs, g2, d2, by have := HJG.out; omega, by go_num, rfl, by rw [HTJ.out, List.filter_append, ← HXS.out, HXE.out, List.filter_cons, HST.out, hzd]; simp, HO.out.bl HB3.out, btr HB2.out HB3.out⟩
end Go.Proofs.Ytfjoininagdlcaa
