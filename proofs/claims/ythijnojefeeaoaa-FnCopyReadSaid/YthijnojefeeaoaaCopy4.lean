/- What the program's CopyBest returns. -/
import Derived.Test.YthijnojefeeaoaaCopy3
namespace Go.Proofs.Ythijnojefeeaoaa
open Go.RowKit Go.Shelf
attribute [local go_sem] Oper.semAt_some
/-- A list of texts of the call's own and whether there is one. -/
def RetSB (w : World) (V : Option (List ByteArray)) (e : Ending) (w' : World) : Prop :=
  ∃ A c, e = .returned (.tuple #[.slice A (V.getD []).length c, .bool V.isSome]) ∧ OwnR strS w.heap.size w' 9 (.slice A (V.getD []).length c) (V.getD []) ∧ Below w.heap.size w w'
def bestO (bs : List BriefT) (ws : List ByteArray) : Option (List ByteArray) := match deskOk bs ws with
  | true => some (bestV bs ws)
  | false => none
theorem chg_step {w3 wr wr' : World} {k0 : Nat} {v : Value} (h : Chg (fun k => k = k0) w3 wr) (hc : Chg (fun k => v.ownBlock = some k) wr wr') (hv : ∀ k, v.ownBlock = some k → k = k0 ∨ w3.heap.size ≤ k) : Chg (fun k => k = k0) w3 wr' :=
  ⟨hc.os.trans h.os, hc.tape.trans h.tape, hc.output.trans h.output, Nat.le_trans h.size hc.size, fun k hk hn => (hc.block k (Nat.lt_of_lt_of_le hk h.size) (fun e => by rcases hv k e with e | e; exact hn e; omega)).trans (h.block k hk hn)⟩
theorem own_step {w3 wr : World} {k0 : Nat} {v v' : Value} (hv : ∀ k, v.ownBlock = some k → k = k0 ∨ w3.heap.size ≤ k) (h : v'.ownBlock = v.ownBlock ∨ v'.ownBlock = some wr.heap.size) (hz : w3.heap.size ≤ wr.heap.size) : ∀ k, v'.ownBlock = some k → k = k0 ∨ w3.heap.size ≤ k := fun k hk => by
  rcases h with h | h
  · rw [h] at hk
    exact hv k hk
  · rw [h] at hk
    injection hk with hk
    omega
theorem tokCp_len {bs : List BriefT} : ∀ {ts : List Tok} {ws : List ByteArray}, tokCp bs ts ws → ts.length ≤ ws.length
  | [], ws, _ => Nat.zero_le _
  | t :: r, ws, h => by
    have := tokCp_len h.2.2.2.2
    have h2 := h.2.2.1
    have h3 := h.2.2.2.1
    rw [List.length_drop] at this
    rw [List.length_cons]
    omega
set_option maxRecDepth 100000 in
set_option maxHeartbeats 4000000 in
theorem implCopyBest_any (A B : Option Addr) (n c m d : Nat) (bs : List BriefT) (ws : List ByteArray) (w : World) (hnc : n ≤ c) (hmd : m ≤ d) (hd63 : d ≤ 9223372036854775807) (hx : Rd briefS 0 w.heap.size w A n bs) (hy : Rd strS 0 w.heap.size w B m ws) :
    Calls Try.prog 20 #[.slice A n c, .slice B m d] w (RetSB w (bestO bs ws)) := by
  obtain ⟨i0, hi1, hz0, hz1, hz2⟩ := info_parts (show (Try.prog.info? 9).map (fun i => (i.zero, i.size, i.bytes)) = some (some (.string ByteArray.empty), 1, 16) by kernel_rfl)
  have HI := hid (And.intro hi1 (And.intro hz0 (And.intro hz1 hz2)))
  have HX := hid hx
  have HY := hid hy
  have E1 := hid hx.1
  have F1 := hid hy.1
  have hdo := deskOf_any A B n c m d 0 bs ws w hnc hx hy
  clear hx hy hi1 hz0 hz1 hz2
  obtain ⟨x, hx1⟩ : ∃ x, deskOk bs ws = x := ⟨_, rfl⟩
  rw [hx1] at hdo
  have HX1 := hid hx1
  have HDO := hid hdo
  clear hx1 hdo
  cases x with
  | false =>
    have HV := hid (show bestO bs ws = none by unfold bestO; rw [HX1.out])
    go_enter Try.func20, Try.ntmps20
    go_wp2_with fail
    refine HDO.out.mono ?_
    rintro e w1 ⟨rfl, hb1⟩
    unfold deskV
    have HB1 := hid hb1
    clear hb1
    go_wp2_with fail
    go_ret2
    rw [HV.out]
    exact ⟨none, 0, rfl, OwnR.nil0, btr HB1.out (bnew _ _)⟩
  | true =>
    obtain ⟨hn8, hm20, hwd, hms, hws⟩ := desk_len HX1.out
    have hb : ∀ b ∈ bs, 1 ≤ b.2.length := fun b hb => (hwd b hb).1
    have HV := hid (show bestO bs ws = some (bestV bs ws) by unfold bestO; rw [HX1.out])
    obtain ⟨g1, g2, g3⟩ := copy_way coT_is hb ws.length ws (Nat.le_refl _)
    obtain ⟨ts, hts⟩ : ∃ ts, copyT coT bs ws = ts := ⟨_, rfl⟩
    have HTS := hid hts
    rw [hts] at g2 g3
    have hN := tokCp_len g2
    have HBV := hid (show textsOf bs ts ws = bestV bs ws from g3)
    have HCP := hid g2
    have hm20' : m ≤ 20 := by rw [F1.out]; exact hm20
    have HN20 := hid (show ts.length ≤ 20 by omega)
    have HWS := hid (show ∀ s ∈ ws, s.size ≤ 9223372036854775807 from fun s hs => by have := hws s hs; omega)
    have HMS := hid (show ∀ b ∈ bs, b.1.size ≤ 9223372036854775807 from fun b hb => by have := hms b hb; omega)
    clear hwd hms hws hb hn8 hm20 hts g1 g2 g3 hN
    go_enter Try.func20, Try.ntmps20
    go_wp2_with fail
    refine HDO.out.mono ?_
    rintro e w1 ⟨rfl, hb1⟩
    unfold deskV
    have HB1 := hid hb1
    have hbx := bnew w1 (.cells #[.slice A n c, .slice B m d] 62)
    have hnx := heap_alloc_new w1 (.cells #[.slice A n c, .slice B m d] 62)
    have zx := World.size_alloc w1 (.cells #[.slice A n c, .slice B m d] 62)
    obtain ⟨w2, hw2⟩ : ∃ w2, w1.alloc (.cells #[.slice A n c, .slice B m d] 62) = w2 := ⟨_, rfl⟩
    rw [hw2] at hbx hnx zx
    have HW2 := hid hw2
    have hbl := bnew w2 (.cells #[] 9)
    have zl := World.size_alloc w2 (.cells #[] 9)
    have HOL := hid (OwnR.nil (S := strS) (e := 9) (base := w2.heap.size) (w := w2) (Nat.le_refl _) #[] rfl)
    have HBL := hid (btr (btr hb1 hbx) hbl)
    have HZ := hid (And.intro zx zl)
    have hwz1 := hb1.size
    clear hb1 hbx hnx zx hw2 hbl zl
    go_wp2_with fail
    rw [HW2.out]
    refine (best_any A B n c m d bs ws _ hmd hd63 (HX.out.bl HBL.out) (HY.out.bl HBL.out) HX1.out).mono ?_
    rintro e w3 ⟨A3, c3, rfl, hT, hb3⟩
    rw [HTS.out] at hT ⊢
    have hN20 := HN20.out
    obtain ⟨N, hN⟩ : ∃ N, ts.length = N := ⟨_, rfl⟩
    rw [hN] at hT hN20 ⊢
    have HNN := hid hN
    have HT := hid hT
    have hz3 := hb3.size
    have HZ3 := hid (show w2.heap.size < w3.heap.size ∧ w1.heap.size < w2.heap.size by have := HZ.out; omega)
    have HB3 := hid (btr HBL.out hb3)
    have HO0 := hid (HOL.out.bl hb3)
    have e1 : w2.heap.size = w1.heap.size + 1 := HZ.out.1
    rw [← e1]
    clear hN hT hb3 HOL e1
    go_wp2_with fail
    go_loopg [8, 9, 11, 24] N (fun gk l8 a9 _ i wr => ∃ (k p : Nat) (A5 : Option Addr) (c5 : Nat) (l : List ByteArray), k + gk = N ∧ i = .int .i64 k ∧ a9 = .int .i64 p ∧ l8 = .slice A5 l.length c5 ∧ OwnR strS w2.heap.size wr 9 (.slice A5 l.length c5) l ∧ l ++ textsOf bs (ts.drop k) (ws.drop p) = textsOf bs ts ws ∧ tokCp bs (ts.drop k) (ws.drop p) ∧ l.length ≤ k ∧ p ≤ m ∧
      Chg (fun k => k = w2.heap.size) w3 wr ∧ (∀ k, (Value.slice A5 l.length c5).ownBlock = some k → k = w2.heap.size ∨ w3.heap.size ≤ k))
    case atStart => exact ⟨0, 0, _, _, [], Nat.zero_add _, rfl, rfl, rfl, HO0.out, rfl, HCP.out, Nat.le_refl _, Nat.zero_le _, Chg.refl _ _, fun k hk => .inl (by injection hk with hk; exact hk.symm)⟩
    case round =>
      clear HO0
      obtain ⟨k, p, A5, c5, l, hkg, rfl, rfl, rfl, hO, hl, hcp, hll, hpm, hch, hov⟩ := hrel
      have HKG := hid hkg
      have HO := hid hO
      have HL := hid hl
      have HCK := hid hcp
      have HCH := hid hch
      have HOV := hid hov
      have hk : k ≤ N := by omega
      have hwz := hch.size
      have hbel := HB3.out.trans (hch.below (B := w.heap.size) (by have := HZ3.out; omega) (fun q hq => by have := HZ3.out; omega))
      have HBE := hid hbel
      have HTK := hid ((HT.out.chg hch (fun q hq => by rw [hq, HZ.out.2]; omega)).rd (by have := HNN.out; omega)).2
      clear hkg hO hl hcp hch hov hbel
      by_cases hlt : k < N
      · have hki : (k : Int) < (N : Int) := by omega
        obtain ⟨bt, ot, rfl, _, hbt, hct⟩ := HTK.out.2.2 (by omega)
        obtain ⟨t0, t1, t2⟩ := hct.tok hlt
        have hkt : k < ts.length := by rw [HNN.out]; exact hlt
        have hdt := drop_gt hkt
        have hcp := HCK.out
        rw [hdt] at hcp
        have hlx := HL.out
        rw [hdt] at hlx
        obtain ⟨tk, htk⟩ : ∃ tk, gt ts k = tk := ⟨_, rfl⟩
        rw [htk] at t0 t1 t2 hcp hlx
        obtain ⟨kk, wd, co⟩ := tk
        obtain ⟨h1, ⟨h2, h3⟩, h4, h5, h6⟩ := hcp
        dsimp only at t0 t1 t2 h2 h3 h4 h5 h6
        have h7 : p + wd ≤ m := by rw [List.length_drop, ← F1.out] at h5; omega
        have hpm' : p < m := by omega
        have hwp : IntKind.i64.wrap ((p : Int) + (wd : Int)) = ((p + wd : Nat) : Int) := by
          rw [show (p : Int) + (wd : Int) = ((p + wd : Nat) : Int) by omega]
          exact IntWalk.i64_in _ (by omega)
        rw [List.drop_drop] at h6
        have HCN := hid h6
        have HW3 := hid h3
        have HQ := hid (fun (o : Obj) => show ((wr.alloc (.cells #[.int .i64 kk, .int .i64 wd, .int .i64 co] 68)).alloc o).cell? ⟨wr.heap.size, 1, none⟩ = some (.int .i64 wd) from bcl (bnew _ o) (by rw [cell_of_row _ _ _ _ _ (0, 0) (heap_alloc_new wr _)]; rfl))
        have HOO := hid (fun (o : Obj) => ((HO.out.al (.cells #[.int .i64 kk, .int .i64 wd, .int .i64 co] 68)).al o))
        have HCC := hid (fun (o : Obj) => show Chg (fun k => k = w2.heap.size) w3 ((wr.alloc (.cells #[.int .i64 kk, .int .i64 wd, .int .i64 co] 68)).alloc o) from (HCH.out.trans (chg_new wr _ _)).trans (chg_new _ _ _))
        have HOL := hid (fun k (hk : (Value.slice A5 l.length c5).ownBlock = some k) => (HO.out.own_lt hk).2)
        have ZZ := hid (fun (o : Obj) => show ((wr.alloc (.cells #[.int .i64 kk, .int .i64 wd, .int .i64 co] 68)).alloc o).heap.size = wr.heap.size + 2 by simp)
        clear hct hkt hdt htk h1 h3 h5 h6
        by_cases hk1 : kk = -1
        · have hkb : (kk == (-1 : Int)) = true := by rw [beq_iff_eq]; exact hk1
          rw [textsOf] at hlx
          dsimp only at hlx
          rw [if_pos hk1, gt_drop, Nat.add_zero, List.drop_drop] at hlx
          have HLX := hid hlx
          obtain ⟨bb, ob, rfl, _, hbb, hcx⟩ := HY.out.2.2 (by omega)
          obtain ⟨y0, y1⟩ := hcx.str hpm'
          have c0 := bcl HBE.out y0
          have hbw : bb < wr.heap.size := block_lt_of_cell c0
          obtain ⟨sx, hsx⟩ : ∃ sx, gt ws p = sx := ⟨_, rfl⟩
          rw [hsx] at c0 y1 HLX
          have hpi : (p : Int) < (m : Int) := by omega
          clear hcx y0 hsx hlx hk1 h2
          go_wp2_with (at_builtin; (refine wpList_append_R2 rfl (.tmp 31) (.tmp 36) _ rfl strS Try.underlying24 HI.out rfl (by decide) rfl (HOO.out _) (y := sx) rfl (newA _ _ (by simp)) rfl (by simp [Value.oneCell']) ⟨rfl, y1⟩ (by omega) (by omega) (by have := ZZ.out (.cells #[.string sx] 9); have := HZ3.out; omega) ?_; intro A6 c6 w5 hO5 hc5 hv5; have q5 := hc5.cell (k := wr.heap.size) (o := 1) (by intro hq; have := HOL.out _ hq; omega) (HQ.out _); have hwp5 := hwp))
          go_roundg (gk - 1)
          case measure => have := HKG.out; omega
          case rel =>
            refine ⟨k + 1, p + wd, A6, c6, l ++ [sx], by have := HKG.out; omega, by go_num, rfl, by rw [List.length_append]; rfl, by rw [List.length_append]; exact hO5, ?_, HCN.out, by rw [List.length_append, List.length_singleton]; omega, h7, ?_, ?_⟩
            · rw [← HLX.out, List.append_assoc]
              rfl
            · exact chg_step (HCC.out _) hc5 HOV.out
            · rw [List.length_append, List.length_singleton]
              exact own_step HOV.out hv5 (by have := ZZ.out (.cells #[.string sx] 9); omega)
        · have hkb : (kk == (-1 : Int)) = false := by rw [beq_eq_false_iff_ne]; exact hk1
          rw [textsOf] at hlx
          dsimp only at hlx
          rw [if_neg hk1, List.drop_drop] at hlx
          have h2' : 0 ≤ kk ∧ kk < bs.length := by rcases h2 with h2 | h2; exact absurd h2 hk1; exact h2
          obtain ⟨j, rfl⟩ : ∃ j : Nat, kk = j := ⟨kk.toNat, by omega⟩
          rw [Int.toNat_natCast] at hlx
          have HLX := hid hlx
          have hjn : j < n := by rw [E1.out]; omega
          obtain ⟨bb, ob, rfl, _, hbb, hcx⟩ := HX.out.2.2 (by omega)
          obtain ⟨A1, c1, y0, _, y1, _, _⟩ := hcx.brief hjn
          have c0 := bcl HBE.out y0
          have hbw : bb < wr.heap.size := block_lt_of_cell c0
          obtain ⟨sx, hsx⟩ : ∃ sx, (gt bs j).1 = sx := ⟨_, rfl⟩
          rw [hsx] at c0 y1 HLX
          have hji : (j : Int) < (n : Int) := by omega
          clear hcx y0 hsx hlx hk1 h2 h2'
          go_wp2_with (at_builtin; (refine wpList_append_R2 rfl (.tmp 38) (.tmp 45) _ rfl strS Try.underlying24 HI.out rfl (by decide) rfl (HOO.out _) (y := sx) rfl (newA _ _ (by simp)) rfl (by simp [Value.oneCell']) ⟨rfl, y1⟩ (by omega) (by omega) (by have := ZZ.out (.cells #[.string sx] 9); have := HZ3.out; omega) ?_; intro A6 c6 w5 hO5 hc5 hv5; have q5 := hc5.cell (k := wr.heap.size) (o := 1) (by intro hq; have := HOL.out _ hq; omega) (HQ.out _); have hwp5 := hwp))
          go_roundg (gk - 1)
          case measure => have := HKG.out; omega
          case rel =>
            refine ⟨k + 1, p + wd, A6, c6, l ++ [sx], by have := HKG.out; omega, by go_num, rfl, by rw [List.length_append]; rfl, by rw [List.length_append]; exact hO5, ?_, HCN.out, by rw [List.length_append, List.length_singleton]; omega, h7, ?_, ?_⟩
            · rw [← HLX.out, List.append_assoc]
              rfl
            · exact chg_step (HCC.out _) hc5 HOV.out
            · rw [List.length_append, List.length_singleton]
              exact own_step HOV.out hv5 (by have := ZZ.out (.cells #[.string sx] 9); omega)
      · obtain rfl : k = N := by omega
        have hfin := HL.out
        rw [show ts.drop k = [] from List.drop_eq_nil_of_le (by rw [HNN.out]; exact Nat.le_refl _), textsOf, List.append_nil] at hfin
        have HFI := hid (hfin.trans HBV.out)
        clear hfin
        go_wp2_with fail
        go_ret2
        rw [HV.out]
        show ∃ A c, _ = Ending.returned (.tuple #[.slice A (bestV bs ws).length c, .bool true]) ∧ OwnR strS w.heap.size _ 9 (.slice A (bestV bs ws).length c) (bestV bs ws) ∧ _
        rw [← HFI.out]
        exact ⟨A5, c5, rfl, HO.out.low (by have := HZ.out; omega), HBE.out⟩
end Go.Proofs.Ythijnojefeeaoaa
