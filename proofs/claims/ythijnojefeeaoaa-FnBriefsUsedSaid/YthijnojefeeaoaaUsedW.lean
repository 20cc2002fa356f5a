/- What BriefsUsed returns, the reference's and the program's. -/
import Derived.Test.YthijnojefeeaoaaUsedV
import Derived.Test.YthijnojefeeaoaaSortI
namespace Go.Proofs.Ythijnojefeeaoaa
open Go.RowKit Go.Shelf
attribute [local go_sem] Oper.semAt_some
set_option maxRecDepth 100000 in
set_option maxHeartbeats 4000000 in
theorem implBriefsUsed_any (A B : Option Addr) (n c m d : Nat) (bs : List BriefT) (ws : List ByteArray) (w : World) (hnc : n ≤ c) (hmd : m ≤ d) (hd63 : d ≤ 9223372036854775807) (hx : Rd briefS 0 w.heap.size w A n bs) (hy : Rd strS 0 w.heap.size w B m ws) :
    Calls Try.prog 16 #[.slice A n c, .slice B m d] w (RetI w (usedV bs ws)) := by
  obtain ⟨i0, hi1, hz0, hz1, hz2⟩ := info_parts (show (Try.prog.info? 3).map (fun i => (i.zero, i.size, i.bytes)) = some (some (.int .i64 0), 1, 8) by kernel_rfl)
  have HI := hid (And.intro hi1 (And.intro hz0 (And.intro hz1 hz2)))
  have HX := hid hx
  have HY := hid hy
  have E1 := hid hx.1
  have F1 := hid hy.1
  have hdo := deskOf_any A B n c m d 0 bs ws w hnc hx hy
  clear hx hy hi1 hz0 hz1 hz2
  obtain ⟨x, hx1⟩ : ∃ x, deskOk bs ws = x := ⟨_, rfl⟩
  rw [hx1] at hdo
  have HX1 := hid hx1
  have HDO := hid hdo
  clear hx1 hdo
  cases x with
  | false =>
    have HV := hid (show usedV bs ws = [] by unfold usedV; rw [HX1.out])
    go_enter Try.func16, Try.ntmps16
    go_wp2_with fail
    refine HDO.out.mono ?_
    rintro e w1 ⟨rfl, hb1⟩
    unfold deskV
    have HB1 := hid hb1
    clear hb1
    go_wp2_with fail
    go_ret
    rw [HV.out]
    exact ⟨none, 0, rfl, OwnR.nil0, btr HB1.out (bnew _ _)⟩
  | true =>
    obtain ⟨hn8, hm20, hwd, hms, hws⟩ := desk_len HX1.out
    have hb : ∀ b ∈ bs, 1 ≤ b.2.length := fun b hb => (hwd b hb).1
    obtain ⟨g1, g2, g3⟩ := copy_way coT_is hb ws.length ws (Nat.le_refl _)
    obtain ⟨ts, hts⟩ : ∃ ts, copyT coT bs ws = ts := ⟨_, rfl⟩
    have HTS := hid hts
    have HV := hid (show usedV bs ws = Lib.compact ((usedT ts).mergeSort fun x y => decide (x ≤ y)) by
      unfold usedV
      rw [HX1.out, ← hts, used_sorted coT_is (desk_yes HX1.out).1 (desk_yes HX1.out).2])
    rw [hts] at g2
    have hN := tokCp_len g2
    have HN20 := hid (show ts.length ≤ 20 by omega)
    clear hwd hms hws hb hn8 hm20 hts g1 g2 g3 hN
    go_enter Try.func16, Try.ntmps16
    go_wp2_with fail
    refine HDO.out.mono ?_
    rintro e w1 ⟨rfl, hb1⟩
    unfold deskV
    have HB1 := hid hb1
    have hbx := bnew w1 (.cells #[.slice A n c, .slice B m d] 62)
    have zx := World.size_alloc w1 (.cells #[.slice A n c, .slice B m d] 62)
    obtain ⟨w2, hw2⟩ : ∃ w2, w1.alloc (.cells #[.slice A n c, .slice B m d] 62) = w2 := ⟨_, rfl⟩
    rw [hw2] at hbx zx
    have HW2 := hid hw2
    have hbl := bnew w2 (.cells #[] 3)
    have zl := World.size_alloc w2 (.cells #[] 3)
    have HOL := hid (OwnR.nil (S := intS) (e := 3) (base := w2.heap.size) (w := w2) (Nat.le_refl _) #[] rfl)
    have HBL := hid (btr (btr hb1 hbx) hbl)
    have HZ := hid (And.intro zx zl)
    have hwz1 := hb1.size
    clear hb1 hbx zx hw2 hbl zl
    go_wp2_with fail
    rw [HW2.out]
    refine (best_any A B n c m d bs ws _ hmd hd63 (HX.out.bl HBL.out) (HY.out.bl HBL.out) HX1.out).mono ?_
    rintro e w3 ⟨A3, c3, rfl, hT, hb3⟩
    rw [HTS.out] at hT ⊢
    have hN20 := HN20.out
    obtain ⟨N, hN⟩ : ∃ N, ts.length = N := ⟨_, rfl⟩
    rw [hN] at hT hN20 ⊢
    have HNN := hid hN
    have HT := hid hT
    have hz3 := hb3.size
    have HZ3 := hid (show w2.heap.size < w3.heap.size ∧ w1.heap.size < w2.heap.size by have := HZ.out; omega)
    have HB3 := hid (btr HBL.out hb3)
    have HO0 := hid (HOL.out.bl hb3)
    have e1 : w2.heap.size = w1.heap.size + 1 := HZ.out.1
    rw [← e1]
    clear hN hT hb3 HOL e1
    go_wp2_with fail
    go_loopg [7, 9, 22] N (fun gk l7 _ i wr => ∃ (k : Nat) (A5 : Option Addr) (c5 : Nat) (l : List Int), k + gk = N ∧ i = .int .i64 k ∧ l7 = .slice A5 l.length c5 ∧ OwnR intS w2.heap.size wr 3 (.slice A5 l.length c5) l ∧ l ++ usedT (ts.drop k) = usedT ts ∧ l.length ≤ k ∧
      Chg (fun k => k = w2.heap.size) w3 wr ∧ (∀ k, (Value.slice A5 l.length c5).ownBlock = some k → k = w2.heap.size ∨ w3.heap.size ≤ k))
    case atStart => exact ⟨0, _, _, [], Nat.zero_add _, rfl, rfl, HO0.out, rfl, Nat.le_refl _, Chg.refl _ _, fun k hk => .inl (by injection hk with hk; exact hk.symm)⟩
    case round =>
      clear HO0
      obtain ⟨k, A5, c5, l, hkg, rfl, rfl, hO, hl, hll, hch, hov⟩ := hrel
      have HKG := hid hkg
      have HO := hid hO
      have HL := hid hl
      have HCH := hid hch
      have HOV := hid hov
      have hk : k ≤ N := by omega
      have hwz := hch.size
      have hbel := HB3.out.trans (hch.below (B := w.heap.size) (by have := HZ3.out; omega) (fun q hq => by have := HZ3.out; omega))
      have HBE := hid hbel
      have HTK := hid ((HT.out.chg hch (fun q hq => by rw [hq, HZ.out.2]; omega)).rd (by have := HNN.out; omega)).2
      clear hkg hO hl hch hov hbel
      by_cases hlt : k < N
      · have hki : (k : Int) < (N : Int) := by omega
        obtain ⟨bt, ot, rfl, _, hbt, hct⟩ := HTK.out.2.2 (by omega)
        obtain ⟨t0, t1, t2⟩ := hct.tok hlt
        have hkt : k < ts.length := by rw [HNN.out]; exact hlt
        have hlx := HL.out
        rw [drop_gt hkt] at hlx
        obtain ⟨tk, htk⟩ : ∃ tk, gt ts k = tk := ⟨_, rfl⟩
        rw [htk] at t0 t1 t2 hlx
        obtain ⟨kk, wd, co⟩ := tk
        dsimp only at t0 t1 t2
        have HOO := hid (fun (o : Obj) => ((HO.out.al (.cells #[.int .i64 kk, .int .i64 wd, .int .i64 co] 68)).al o))
        have HCC := hid (fun (o : Obj) => show Chg (fun k => k = w2.heap.size) w3 ((wr.alloc (.cells #[.int .i64 kk, .int .i64 wd, .int .i64 co] 68)).alloc o) from (HCH.out.trans (chg_new wr _ _)).trans (chg_new _ _ _))
        have HCC1 := hid (show Chg (fun k => k = w2.heap.size) w3 (wr.alloc (.cells #[.int .i64 kk, .int .i64 wd, .int .i64 co] 68)) from HCH.out.trans (chg_new wr _ _))
        have HOO1 := hid (HO.out.al (.cells #[.int .i64 kk, .int .i64 wd, .int .i64 co] 68))
        have ZZ := hid (fun (o : Obj) => show ((wr.alloc (.cells #[.int .i64 kk, .int .i64 wd, .int .i64 co] 68)).alloc o).heap.size = wr.heap.size + 2 by simp)
        clear hct hkt htk
        by_cases hk1 : kk = -1
        · have hkb : (kk != (-1 : Int)) = false := by rw [hk1]; rfl
          rw [usedT_none (by exact hk1)] at hlx
          have HLX := hid hlx
          clear hlx hk1
          go_wp2_with fail
          go_roundg (gk - 1)
          case measure => have := HKG.out; omega
          case rel => exact ⟨k + 1, A5, c5, l, by have := HKG.out; omega, by go_num, rfl, HOO1.out, HLX.out, by omega, HCC1.out, HOV.out⟩
        · have hkb : (kk != (-1 : Int)) = true := by rw [bne_iff_ne]; exact hk1
          rw [usedT_some (by exact hk1)] at hlx
          have HLX := hid hlx
          clear hlx hk1
          go_wp2_with (at_builtin; refine wpList_append_R2 rfl (.tmp 29) (.tmp 32) _ rfl intS Try.underlying28 HI.out rfl (by decide) rfl (HOO.out _) (y := kk) rfl (newA _ _ (by simp)) rfl (by simp [Value.oneCell']) rfl (by omega) (by omega) (by have := ZZ.out (.cells #[.int .i64 kk] 3); have := HZ3.out; omega) ?_; intro A6 c6 w5 hO5 hc5 hv5)
          go_roundg (gk - 1)
          case measure => have := HKG.out; omega
          case rel =>
            refine ⟨k + 1, A6, c6, l ++ [kk], by have := HKG.out; omega, by go_num, by rw [List.length_append]; rfl, by rw [List.length_append]; exact hO5, ?_, by rw [List.length_append, List.length_singleton]; omega, ?_, ?_⟩
            · rw [← HLX.out, List.append_assoc]
              rfl
            · exact chg_step (HCC.out _) hc5 HOV.out
            · rw [List.length_append, List.length_singleton]
              exact own_step HOV.out hv5 (by have := ZZ.out (.cells #[.int .i64 kk] 3); omega)
      · obtain rfl : k = N := by omega
        have hfin := HL.out
        rw [show ts.drop k = [] from List.drop_eq_nil_of_le (by rw [HNN.out]; exact Nat.le_refl _), show usedT [] = [] from rfl, List.append_nil] at hfin
        have HFI := hid hfin
        clear hfin
        go_wp2_with fail
        refine (sortI_any A5 l.length c5 w2.heap.size l wr HO.out (by omega)).mono ?_
        rintro e w4 ⟨rfl, hO4, hb4⟩
        have HO4 := hid hO4
        have HB4 := hid (HBE.out.trans (hb4.mono (by have := HZ3.out; omega)))
        clear hO4 hb4
        go_wp2_with fail
        refine (compI_any A5 l.length c5 w2.heap.size _ w4 HO4.out (by rw [List.length_mergeSort]; omega)).mono ?_
        rintro e w5 ⟨rfl, hO5, hb5⟩
        have HO5 := hid hO5
        have HB5 := hid (HB4.out.trans (hb5.mono (by have := HZ3.out; omega)))
        clear hO5 hb5
        go_wp2_with fail
        go_ret
        rw [HV.out, ← HFI.out]
        exact ⟨A5, c5, rfl, HO5.out.low (by have := HZ3.out; omega), HB5.out⟩
end Go.Proofs.Ythijnojefeeaoaa
