/- What the reference's BriefsUsed returns. -/
import Derived.Test.YthijnojefeeaoaaUsedV
namespace Go.Proofs.Ythijnojefeeaoaa
open Go.RowKit Go.Shelf
attribute [local go_sem] Oper.semAt_some
def usedK (bs : List BriefT) (ts : List ByteArray) (k : Nat) : List Int := ((List.range k).filter fun q => ts.contains (gt bs q).1).map fun j : Nat => (j : Int)
theorem usedK_yes {bs : List BriefT} {ts : List ByteArray} {k : Nat} (h : ts.contains (gt bs k).1 = true) : usedK bs ts (k + 1) = usedK bs ts k ++ [(k : Int)] := by
  unfold usedK
  rw [List.range_succ, List.filter_append, List.map_append, List.filter_cons_of_pos (by exact h)]
  rfl
theorem usedK_no {bs : List BriefT} {ts : List ByteArray} {k : Nat} (h : ts.contains (gt bs k).1 = false) : usedK bs ts (k + 1) = usedK bs ts k := by
  unfold usedK
  rw [List.range_succ, List.filter_append, List.map_append, List.filter_cons_of_neg (by rw [h]; simp)]
  simp
theorem usedK_len (bs : List BriefT) (ts : List ByteArray) (k : Nat) : (usedK bs ts k).length ≤ k := by
  unfold usedK
  rw [List.length_map]
  have := List.length_filter_le (fun q => ts.contains (gt bs q).1) (List.range k)
  rwa [List.length_range] at this
theorem con_drop {ts : List ByteArray} {i : Nat} (h : i < ts.length) (s : ByteArray) : (ts.drop i).contains s = (eqD s (gt ts i) || (ts.drop (i + 1)).contains s) := by
  rw [drop_gt h, List.contains_cons]
  rfl
set_option maxRecDepth 100000 in
set_option maxHeartbeats 4000000 in
theorem specBriefsUsed_any (A B : Option Addr) (n c m d : Nat) (bs : List BriefT) (ws : List ByteArray) (w : World) (hmd : m ≤ d) (hd63 : d ≤ 9223372036854775807) (hx : Rd briefS 0 w.heap.size w A n bs) (hy : Rd strS 0 w.heap.size w B m ws) :
    Calls Try.prog 18 #[.slice A n c, .slice B m d] w (RetI w (usedV bs ws)) := by
  obtain ⟨i0, hi1, hz0, hz1, hz2⟩ := info_parts (show (Try.prog.info? 3).map (fun i => (i.zero, i.size, i.bytes)) = some (some (.int .i64 0), 1, 8) by kernel_rfl)
  have HI := hid (And.intro hi1 (And.intro hz0 (And.intro hz1 hz2)))
  have bl := bnew w (.cells #[] 3)
  have zl := World.size_alloc w (.cells #[] 3)
  have hol := OwnR.nil (S := intS) (e := 3) (base := w.heap.size) (w := w) (Nat.le_refl _) #[] rfl
  have hcb := specCopyBest_any A B n c m d bs ws _ hmd hd63 (hx.bl bl) (hy.bl bl)
  unfold RetSB at hcb
  have HX := hid hx
  have E1 := hid hx.1
  have hn63 := hx.2.1
  obtain ⟨x, hx1⟩ : ∃ x, deskOk bs ws = x := ⟨_, rfl⟩
  have HX1 := hid hx1
  have HBL := hid bl
  have HZL := hid zl
  have HOL := hid hol
  clear hx hy bl zl hol hi1 hz0 hz1 hz2
  cases x with
  | false =>
    have HV := hid (show usedV bs ws = [] by unfold usedV; rw [hx1])
    rw [show bestO bs ws = none by unfold bestO; rw [hx1]] at hcb
    clear hx1
    go_enter Try.func18, Try.ntmps18
    go_wp2_with fail
    refine hcb.mono ?_
    rintro e w2 ⟨AT, cT, rfl, hT, hb2⟩
    have HO2 := hid (HOL.out.bl hb2)
    have HB2 := hid (btr HBL.out hb2)
    clear hT hb2 hcb
    by_cases hn : 0 < n
    · have hni : (0 : Int) < (n : Int) := by omega
      go_wp2_with fail
      go_loopg [5, 8, 9] 0 (fun gk l5 i _ wr => l5 = .slice (some ⟨w.heap.size, 0, none⟩) 0 0 ∧ i = .int .i64 0 ∧ wr = w2)
      case atStart => exact ⟨rfl, rfl, rfl⟩
      case round =>
        obtain ⟨rfl, rfl, rfl⟩ := hrel
        go_wp2_with fail
        go_ret
        rw [HV.out]
        exact ⟨_, 0, rfl, HO2.out, HB2.out⟩
    · obtain rfl : n = 0 := by omega
      go_wp2_with fail
      go_loopg [5, 8, 9] 0 (fun gk l5 i _ wr => l5 = .slice (some ⟨w.heap.size, 0, none⟩) 0 0 ∧ i = .int .i64 0 ∧ wr = w2)
      case atStart => exact ⟨rfl, rfl, rfl⟩
      case round =>
        obtain ⟨rfl, rfl, rfl⟩ := hrel
        go_wp2_with fail
        go_ret
        rw [HV.out]
        exact ⟨_, 0, rfl, HO2.out, HB2.out⟩
  | true =>
    rw [show bestO bs ws = some (bestV bs ws) by unfold bestO; rw [hx1]] at hcb
    have hn8 := (desk_len hx1).1
    rw [← E1.out] at hn8
    have htl : (bestV bs ws).length ≤ 20 := by
      have h1 := desk_len hx1
      have := (short_law ws h1.2.2.1).2.1
      omega
    obtain ⟨ts, hts⟩ : ∃ ts, bestV bs ws = ts := ⟨_, rfl⟩
    have HV := hid (show usedV bs ws = usedK bs ts n by unfold usedV usedN usedK; rw [hx1, hts, E1.out])
    rw [hts] at hcb htl
    simp only [Option.getD_some, Option.isSome_some] at hcb
    obtain ⟨N, hN⟩ : ∃ N, ts.length = N := ⟨_, rfl⟩
    rw [hN] at hcb htl
    have HNN := hid hN
    clear hx1 hts hN
    go_enter Try.func18, Try.ntmps18
    go_wp2_with fail
    refine hcb.mono ?_
    rintro e w2 ⟨AT, cT, rfl, hT, hb2⟩
    have HO2 := hid (HOL.out.bl hb2)
    have HB2 := hid (btr HBL.out hb2)
    have HT := hid hT
    have hz2 := hb2.size
    rw [HZL.out] at hz2
    clear hT hb2 hcb
    go_wp2_with fail
    go_loopg [5, 8, 9] n (fun gk l5 i _ wr => ∃ (k : Nat) (A5 : Option Addr) (c5 : Nat) (l : List Int), k + gk = n ∧ i = .int .i64 k ∧ l5 = .slice A5 l.length c5 ∧ OwnR intS w.heap.size wr 3 (.slice A5 l.length c5) l ∧ l = usedK bs ts k ∧
      Chg (fun k => k = w.heap.size) w2 wr ∧ (∀ k, (Value.slice A5 l.length c5).ownBlock = some k → k = w.heap.size ∨ w2.heap.size ≤ k))
    case atStart => exact ⟨0, _, _, [], Nat.zero_add _, rfl, rfl, HO2.out, rfl, Chg.refl _ _, fun k hk => .inl (by injection hk with hk; exact hk.symm)⟩
    case round =>
      clear HO2
      obtain ⟨k, A5, c5, l, hkg, rfl, rfl, hO, hl, hch, hov⟩ := hrel
      have HKG := hid hkg
      have HO := hid hO
      have HL := hid hl
      have HCH := hid hch
      have HOV := hid hov
      have hll : l.length ≤ k := by rw [hl]; exact usedK_len _ _ _
      have hk : k ≤ n := by omega
      have hwz := hch.size
      have hbel := HB2.out.trans (hch.below (B := w.heap.size) (by omega) (fun q hq => by omega))
      have HBE := hid hbel
      have HTR := hid ((HT.out.chg hch (fun q hq => by rw [hq, HZL.out]; omega)).rd (by have := HNN.out; omega)).2
      clear hkg hO hl hch hov hbel
      by_cases hlt : k < n
      · have hki : (k : Int) < (n : Int) := by omega
        obtain ⟨bb, ob, rfl, _, hbb, hcx⟩ := HX.out.2.2 (by omega)
        obtain ⟨A1, c1, y0, _, y1, _, _⟩ := hcx.brief hlt
        have c0 := bcl HBE.out y0
        obtain ⟨mk, hmk⟩ : ∃ mk, (gt bs k).1 = mk := ⟨_, rfl⟩
        rw [hmk] at c0 y1
        have HMK := hid hmk
        have hbw := block_lt_of_cell c0
        clear hcx y0 hmk hbb
        go_wp2_with fail
        obtain ⟨wo, hwo⟩ : ∃ x : World, x = wr := ⟨_, rfl⟩
        subst hwo
        obtain ⟨go2, hgo2⟩ : ∃ x : Nat, x = gk := ⟨_, rfl⟩
        subst hgo2
        go_loopg [5, 9] N (fun gk l5 i wr => ∃ j : Nat, j + gk = N ∧ i = .int .i64 j ∧ l5 = .slice A5 l.length c5 ∧ ts.contains mk = (ts.drop j).contains mk ∧ Chg (fun _ => False) wo wr)
        case atStart => exact ⟨0, Nat.zero_add _, rfl, rfl, rfl, Chg.refl _ _⟩
        case round =>
          obtain ⟨j, hjg, rfl, rfl, hcn, hci⟩ := hrel
          have HJG := hid hjg
          have HCN := hid hcn
          have HCI := hid hci
          have hj : j ≤ N := by omega
          have hwzi := hci.size
          clear hjg hcn hci
          by_cases hjl : j < N
          · have hji : (j : Int) < (N : Int) := by omega
            have hjt : j < ts.length := by rw [HNN.out]; exact hjl
            obtain ⟨bt, ot, rfl, _, hbt, hct⟩ := HTR.out.2.2 (by omega)
            obtain ⟨u0, _⟩ := hct.str hjl
            have d0 := HCI.out.cell (fun h => h) u0
            have d1 := HCI.out.cell (fun h => h) c0
            have HCD := hid (con_drop hjt mk)
            obtain ⟨tx, htx⟩ : ∃ tx, gt ts j = tx := ⟨_, rfl⟩
            rw [htx] at d0 HCD
            have ad0 := aft_cell (B := wr.heap.size) (w0 := wr) (block_lt_of_cell d0) d0
            have ad1 := aft_cell (B := wr.heap.size) (w0 := wr) (block_lt_of_cell d1) d1
            clear hct u0 htx hjt
            by_cases he : tx = mk
            · have hbe : (tx.toList == mk.toList) = true := by rw [he]; exact str_eq mk
              have HE := hid (show eqD mk tx = true by rw [he]; exact eqD_self _)
              clear he
              go_wp2_with fail
              refine wp_region_aft (B := wr.heap.size) (w0 := wr) (Below.refl _ _) (by kernel_rfl) (by kernel_rfl) ?_
              repeat (go_big_quiet_step (fail))
              refine wpQuiet_nil ?_
              rintro w3 ⟨⟨w4, hb4⟩, hw4⟩
              have hw5 : w3 = w4 := hw4
              clear hw4
              subst hw5
              have HB4 := hid hb4
              have hz4 := hb4.size
              clear hb4 ad0 ad1 d0 d1
              have HO3 := hid ((HO.out.flat intS_flat HCI.out (fun _ _ h => h)).bl HB4.out)
              go_wp2_with (at_builtin; refine wpList_append_R2 rfl (.tmp 42) (.tmp 44) _ rfl intS Try.underlying28 HI.out rfl (by decide) rfl (HO3.out.al _) (y := (k : Int)) rfl (heap_alloc_new _ _) rfl (by simp [Value.oneCell']) rfl (by omega) (by omega) (by simp; omega) ?_; intro A6 c6 w5 hO5 hc5 hv5)
              go_roundg (go2 - 1)
              case measure => have := HKG.out; omega
              case rel =>
                refine ⟨k + 1, A6, c6, l ++ [(k : Int)], by have := HKG.out; omega, by go_num, by rw [List.length_append]; rfl, by rw [List.length_append]; exact hO5, ?_, ?_, ?_⟩
                · rw [usedK_yes (by rw [HMK.out, HCN.out, HCD.out, HE.out, Bool.true_or]), HL.out]
                · exact chg_step ((HCH.out.trans ((HCI.out.wide (fun _ h => h.elim)).trans (chgB HB4.out))).trans (chg_new _ _ _)) hc5 HOV.out
                · rw [List.length_append, List.length_singleton]
                  exact own_step HOV.out hv5 (by simp; omega)
            · have hbe : (tx.toList == mk.toList) = false := str_ne he
              have HE := hid (show eqD mk tx = false from eqD_no (Ne.symm he))
              clear he
              go_wp2_with fail
              refine wp_region_aft (B := wr.heap.size) (w0 := wr) (Below.refl _ _) (by kernel_rfl) (by kernel_rfl) ?_
              repeat (go_big_quiet_step (fail))
              refine wpQuiet_nil ?_
              rintro w3 ⟨⟨w4, hb4⟩, hw4⟩
              have hw5 : w3 = w4 := hw4
              clear hw4
              subst hw5
              have HB4 := hid hb4
              clear hb4 ad0 ad1 d0 d1
              go_wp2_with fail
              go_roundg (gk - 1)
              case measure => have := HJG.out; omega
              case rel => exact ⟨j + 1, by have := HJG.out; omega, by go_num, rfl, by rw [HCN.out, HCD.out, HE.out, Bool.false_or], HCI.out.trans (chgB HB4.out)⟩
          · obtain rfl : j = N := by omega
            have hfin := HCN.out
            rw [show ts.drop j = [] from List.drop_eq_nil_of_le (by rw [HNN.out]; exact Nat.le_refl _)] at hfin
            have HFI := hid (show ts.contains (gt bs k).1 = false by rw [HMK.out, hfin]; rfl)
            have HO3 := hid (HO.out.flat intS_flat HCI.out (fun _ _ h => h))
            clear hfin
            go_wp2_with fail
            go_roundg (go2 - 1)
            case measure => have := HKG.out; omega
            case rel => exact ⟨k + 1, A5, c5, l, by have := HKG.out; omega, by go_num, rfl, HO3.out, by rw [usedK_no HFI.out]; exact HL.out, HCH.out.trans (HCI.out.wide (fun _ h => h.elim)), HOV.out⟩
      · obtain rfl : k = n := by omega
        go_wp2_with fail
        go_ret
        rw [HV.out, ← HL.out]
        exact ⟨A5, c5, rfl, HO.out, HBE.out⟩
end Go.Proofs.Ythijnojefeeaoaa
