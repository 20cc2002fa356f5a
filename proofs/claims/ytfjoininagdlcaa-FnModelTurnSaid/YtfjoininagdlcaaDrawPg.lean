/- Pages as they are drawn. -/
import Derived.Test.YtfjoininagdlcaaReaderM
import Derived.Test.YtfjoininagdlcaaForce3
import Derived.Test.YtfjoininagdlcaaNestSet
namespace Go.Proofs.Ytfjoininagdlcaa
open Go.RowKit
theorem chgB {D : Nat → Prop} {a b c : World} (h : Chg D a b) {B : Nat} (k : Below B b c) (hB : a.heap.size ≤ B) : Chg D a c :=
  ⟨k.os.trans h.os, k.tape.trans h.tape, k.output.trans h.output, Nat.le_trans h.size k.size, fun i hi hd => (k.block i (by omega)).trans (h.block i hi hd)⟩
theorem NestR.pk {lo hi rb : Nat} {w w' : World} {et ei : TypeId} {v : Value} {rs : List RowD} (h : NestR lo hi w et ei v rs) (hc : Chg (fun k => k = rb) w w') (hr : rb < lo) : NestR lo hi w' et ei v rs :=
  h.keep hc (fun k hk e => by have := (h.own.own_lt hk).1; omega) (fun r hr e => by have := (h.row r hr).1; omega)
theorem OwnR.pk {lo rb : Nat} {w w' : World} {e : TypeId} {v : Value} {l : List Int} (h : OwnR intS lo w e v l) (hc : Chg (fun k => k = rb) w w') (hr : rb < lo) : OwnR intS lo w' e v l :=
  h.flat intS_flat hc (fun k hk e => by have := (h.own_lt hk).1; omega)
theorem rowL {w : World} {e : TypeId} (l : List Int) (hl : l.length ≤ 9223372036854775807) {cs : Array Value} (hcs : cs = (l.map fun x => Value.int .i64 x).toArray) : RowAt (w.alloc (.cells cs e)) e (w.heap.size, l.length, l) := by
  subst hcs
  refine ⟨_, heap_alloc_new _ _, Nat.le_refl _, by simp, hl, fun j hj => ?_⟩
  have hj' : j < l.length := hj
  simp [gt, hj']
/-- The three rows of the draw, and the row of them. -/
theorem three_new (w : World) (x : Int) (ei et : TypeId) : ∃ W : World, ((((w.alloc (.cells #[] ei)).alloc (.cells #[.int .i64 x] ei)).alloc (.cells #[.int .i64 0, .int .i64 0] ei)).alloc (.cells #[.slice (some ⟨w.heap.size, 0, none⟩) 0 0, .slice (some ⟨w.heap.size + 1, 0, none⟩) 1 1, .slice (some ⟨w.heap.size + 1 + 1, 0, none⟩) 2 2] et)) = W ∧ W.heap.size = w.heap.size + 4 ∧ Below w.heap.size w W ∧
    RowAt W ei (w.heap.size, 0, []) ∧ RowAt W ei (w.heap.size + 1, 1, [x]) ∧ RowAt W ei (w.heap.size + 1 + 1, 2, [0, 0]) ∧ W.heap[w.heap.size + 1 + 1 + 1]? = some (.cells #[.slice (some ⟨w.heap.size, 0, none⟩) 0 0, .slice (some ⟨w.heap.size + 1, 0, none⟩) 1 1, .slice (some ⟨w.heap.size + 1 + 1, 0, none⟩) 2 2] et (0, 0)) := by
  refine ⟨_, rfl, by simp, btr (btr (btr (bnew _ _) (bnew _ _)) (bnew _ _)) (bnew _ _), ?_, ?_, ?_, ?_⟩
  · exact (((rowL [] (by simp) rfl).al _).al _).al _
  · have := rowL (w := w.alloc (.cells #[] ei)) (e := ei) [x] (by simp) (cs := #[.int .i64 x]) rfl
    rw [World.size_alloc] at this
    exact (this.al _).al _
  · have := rowL (w := (w.alloc (.cells #[] ei)).alloc (.cells #[.int .i64 x] ei)) (e := ei) [0, 0] (by simp) (cs := #[.int .i64 0, .int .i64 0]) rfl
    simp only [World.size_alloc] at this
    exact this.al _
  · have := heap_alloc_new (((w.alloc (.cells #[] ei)).alloc (.cells #[.int .i64 x] ei)).alloc (.cells #[.int .i64 0, .int .i64 0] ei)) (.cells #[.slice (some ⟨w.heap.size, 0, none⟩) 0 0, .slice (some ⟨w.heap.size + 1, 0, none⟩) 1 1, .slice (some ⟨w.heap.size + 1 + 1, 0, none⟩) 2 2] et)
    simp only [World.size_alloc] at this
    exact this
set_option maxRecDepth 100000 in
set_option maxHeartbeats 2000000 in
theorem l92At_any (rb : Nat) (n : Nat) (w : World) (p : Nat) (h : Rdr rb w p) (hp : p ≤ 1000) (hn : n ≤ 8) :
    Calls Try.prog 75 #[.pointer (some ⟨rb, 0, none⟩), .int .i64 n] w fun e w' => ∃ (v : Int) (p' : Nat), e = .returned (.int .i64 v) ∧ -1 ≤ v ∧ v ≤ n ∧ p' ≤ p + 2 ∧ Rdr rb w' p' ∧ Chg (fun k => k = rb) w w' := by
  have hrl := h.lt
  have two : ∀ (W : World) (q : Nat) (hW : Rdr rb W q) (z : Int), Rdr rb (W.alloc (.cells #[.int .i64 (-1), .int .i64 z] 3)) q ∧ ∀ W', Chg (fun k => k = rb) (W.alloc (.cells #[.int .i64 (-1), .int .i64 z] 3)) W' → Chg (fun k => k = rb) W W' ∧ W.heap.size < W'.heap.size ∧ W'.cell? ⟨W.heap.size, 0, none⟩ = some (.int .i64 (-1)) ∧ W'.cell? ⟨W.heap.size, 1, none⟩ = some (.int .i64 z) := by
    intro W q hW z
    refine ⟨hW.keep ((bnew W _).mono hW.lt), fun W' hc => ?_⟩
    have h1 := hc.size
    rw [World.size_alloc] at h1
    have h2 := (hc.block W.heap.size (by simp) (fun e => by have := hW.lt; omega)).trans (heap_alloc_new W (.cells #[.int .i64 (-1), .int .i64 z] 3))
    obtain ⟨c0, c1, _, _⟩ := at_get h2
    exact ⟨(chg_new _ _ _).trans hc, by omega, c0, c1⟩
  have TWO := hid two
  have HR := hid h
  clear two h
  by_cases h0 : n = 0
  case pos =>
    subst h0
    go_enter Try.func75, Try.ntmps75
    go_wp2_with fail
    refine (pick_any rb _ p 2 (TWO.out w p HR.out 0).1 (by omega) (by omega) (by omega)).mono ?_
    rintro e w2 ⟨v, rfl, hv0, hv1, hr2, hc2⟩
    obtain ⟨d1, d2, c0, c1⟩ := (TWO.out w p HR.out 0).2 w2 hc2
    have HF := hid (And.intro hr2 d1)
    have hv2 := hv1 (by omega)
    clear hr2 hc2 d1 hv1
    rcases (by omega : v = 0 ∨ v = 1) with rfl | rfl
    · go_wp2_with fail
      go_ret
      exact ⟨-1, p + 1, rfl, by omega, by omega, by omega, HF.out.1, HF.out.2⟩
    · go_wp2_with fail
      go_ret
      exact ⟨0, p + 1, rfl, by omega, by omega, by omega, HF.out.1, HF.out.2⟩
  case neg =>
    have hn0 : ((n : Int) == 0) = false := by rw [beq_eq_false_iff_ne]; omega
    go_enter Try.func75, Try.ntmps75
    go_wp2_with fail
    refine (pick_any rb _ p 20 HR.out (by omega) (by omega) (by omega)).mono ?_
    rintro e w1 ⟨u, rfl, hu0, hu1, hr1, hc1⟩
    have HR1 := hid hr1
    have HC1 := hid hc1
    have hrl1 := hr1.lt
    clear hr1 hc1 hu1
    by_cases hu : u = 0
    case pos =>
      subst hu
      go_wp2_with fail
      refine (pick_any rb _ (p + 1) 2 (TWO.out w1 (p + 1) HR1.out n).1 (by omega) (by omega) (by omega)).mono ?_
      rintro e w2 ⟨v, rfl, hv0, hv1, hr2, hc2⟩
      obtain ⟨d1, d2, c0, c1⟩ := (TWO.out w1 (p + 1) HR1.out n).2 w2 hc2
      have HF := hid (And.intro hr2 (HC1.out.trans d1))
      have hv2 := hv1 (by omega)
      clear hr2 hc2 d1 hv1
      rcases (by omega : v = 0 ∨ v = 1) with rfl | rfl
      · go_wp2_with fail
        go_ret
        exact ⟨-1, p + 2, rfl, by omega, by omega, by omega, HF.out.1, HF.out.2⟩
      · go_wp2_with fail
        go_ret
        exact ⟨n, p + 2, rfl, by omega, by omega, by omega, HF.out.1, HF.out.2⟩
    case neg =>
      have hu0 : (u == 0) = false := by rw [beq_eq_false_iff_ne]; exact hu
      go_wp2_with fail
      refine (pick_any rb _ (p + 1) n HR1.out (by omega) (by omega) (by omega)).mono ?_
      rintro e w2 ⟨v, rfl, hv0, hv1, hr2, hc2⟩
      have HF := hid (And.intro hr2 (HC1.out.trans hc2))
      have hv2 := hv1 (by omega)
      clear hr2 hc2 hv1
      go_wp2_with fail
      go_ret
      exact ⟨v, p + 2, rfl, by omega, by omega, by omega, HF.out.1, HF.out.2⟩
set_option maxRecDepth 100000 in
set_option maxHeartbeats 2000000 in
theorem l92Page_any (rb n most : Nat) (w : World) (p : Nat) (h : Rdr rb w p) (hp : p ≤ 1000) (hn : n ≤ 6) (hn1 : 1 ≤ n) (hm : most ≤ 5) :
    Calls Try.prog 73 #[.pointer (some ⟨rb, 0, none⟩), .int .i64 n, .int .i64 most] w fun e w' => ∃ D dd rows p', e = .returned (.slice D (List.length rows) dd) ∧ Rd (sliceS intS) w.heap.size w'.heap.size w' D rows.length rows ∧ rows.length ≤ 5 ∧ (∀ r ∈ rows, r.length ≤ 6) ∧ p' ≤ p + 200 ∧ Rdr rb w' p' ∧ Chg (fun k => k = rb) w w' := by
  obtain ⟨j0, hj1, hy0, hy1, hy2⟩ := info_parts (show (Try.prog.info? 23).map (fun i => (i.zero, i.size, i.bytes)) = some (some (.slice none 0 0), 1, 24) by kernel_rfl)
  have HJ := hid (And.intro hj1 (And.intro hy0 (And.intro hy1 hy2)))
  clear hj1 hy0 hy1 hy2
  obtain ⟨i0, hi1, hz0, hz1, hz2⟩ := info_parts (show (Try.prog.info? 3).map (fun i => (i.zero, i.size, i.bytes)) = some (some (.int .i64 0), 1, 8) by kernel_rfl)
  have HI0 := hid (And.intro hi1 (And.intro hz0 (And.intro hz1 hz2)))
  clear hi1 hz0 hz1 hz2
  have hrl := h.lt
  have HR := hid (h.keep ((bnew w (.cells #[] 23)).mono hrl))
  have n1 : NestR w.heap.size (w.alloc (.cells #[] 23)).heap.size (w.alloc (.cells #[] 23)) 23 3 (.slice (some ⟨w.heap.size, 0, none⟩) 0 0) [] := NestR.nil (Nat.le_refl _) _ rfl
  have N1 := hid n1
  clear n1 h
  go_enter Try.func73, Try.ntmps73
  go_wp2_with fail
  refine (pick_any rb _ p (most + 1) HR.out (by omega) (by omega) (by omega)).mono ?_
  rintro e w1 ⟨k, rfl, hk0, hk1, hr1, hc1⟩
  obtain ⟨kk, rfl⟩ := Int.eq_ofNat_of_zero_le hk0
  have hk2 := hk1 (by omega)
  have hkk : kk ≤ 5 := by omega
  have hs1 := hc1.size
  rw [World.size_alloc] at hs1
  have N2 := hid ((N1.out.keep hc1 (fun k hk e => by have := (N1.out.own.own_lt hk).1; omega) (fun r hr => by cases hr)).wide hc1.size)
  have HC1 := hid ((chg_new _ _ _).trans hc1)
  have HR1 := hid hr1
  clear hk0 hk1 hr1 hc1 N1
  go_wp2_with fail
  go_loopg [7, 9] kk (fun gk out i wr => ∃ (a : Nat) (rs : List RowD) (g d0 p' : Nat), a + gk = kk ∧ i = .int .i64 a ∧ out = .slice (some ⟨g, 0, none⟩) rs.length d0 ∧ rs.length = a ∧ NestR w.heap.size wr.heap.size wr 23 3 (.slice (some ⟨g, 0, none⟩) rs.length d0) rs ∧ (∀ r ∈ rs, r.2.2.length ≤ 6) ∧ p' ≤ p + 1 + 7 * a ∧ Rdr rb wr p' ∧ Chg (fun k => k = rb) w wr)
  case atStart => exact ⟨0, [], _, _, p + 1, Nat.zero_add _, rfl, rfl, rfl, N2.out, (fun r hr => by cases hr), by omega, HR1.out, HC1.out⟩
  case round =>
    clear HR N2 HR1 HC1
    obtain ⟨a, rs, g, d0, p', hkg, rfl, rfl, hrl5, hN, hl6, hp', hR, hC⟩ := hrel
    have HKG := hid hkg
    have HRL := hid hrl5
    have HN := hid hN
    have HL6 := hid hl6
    have HR := hid hR
    have HC := hid hC
    have hak : a ≤ kk := by omega
    have hrl8 : rs.length ≤ 8 := by omega
    have hwz := hC.size
    clear hkg hrl5 hN hl6 hR hC
    by_cases hlt : a < kk
    case neg =>
      obtain rfl : kk = a := by omega
      by_cases hk0 : 0 < kk
      case neg =>
        obtain rfl : kk = 0 := by omega
        go_wp2_with fail
        go_ret
        have h2 := (HN.out.rd (by omega)).2
        exact ⟨some ⟨g, 0, none⟩, d0, rs.map (·.2.2), p', by rw [List.length_map]; rfl, by rw [List.length_map]; exact h2, by rw [List.length_map, HRL.out]; omega, (fun r hr => by
          obtain ⟨q, hq, rfl⟩ := List.mem_map.1 hr
          exact HL6.out q hq), by omega, HR.out, HC.out⟩
      case pos =>
        have hk0i : (0 : Int) < (kk : Int) := by omega
        obtain ⟨r0, rs', hrs⟩ : ∃ r0 rs', Hid (rs = r0 :: rs') := by
          cases rs with
          | nil => have := HRL.out; simp at this; omega
          | cons x y => exact ⟨x, y, rfl⟩
        have hrlk : Hid ((rs.length : Int) = kk) := by rw [HRL.out]; rfl
        have hrl0 : (0 : Int) < (rs.length : Int) := by rw [HRL.out]; exact hk0i
        have hrl0n : 0 < rs.length := by rw [HRL.out]; exact hk0
        go_wp2_with fail
        refine (pick_any rb _ p' 40 HR.out (by omega) (by omega) (by omega)).mono ?_
        rintro e w2 ⟨v, rfl, hv0, hv1, hr2, hc2⟩
        have hs2 := hc2.size
        have HN2 := hid ((HN.out.pk hc2 hrl).wide hs2)
        have HR2 := hid hr2
        have HC2 := hid (HC.out.trans hc2)
        clear hr2 hc2 hv1
        by_cases e0 : v = 0
        case pos =>
          subst e0
          obtain ⟨W, hW, hWs, hWb, q1, q2, q3, q4⟩ := three_new w2 (n : Int) 3 23
          have HRW := hid (HR2.out.keep (hWb.mono (by omega)))
          have HNW := hid (HN2.out.bl hWb)
          have HWC := hid (chgB HC2.out (hWb.mono (by omega)) (Nat.le_refl w.heap.size))
          have HFR := hid fun g' (hg' : w2.heap.size ≤ g') => HN2.out.fresh hg'
          have HW := hid hW
          clear hW
          go_wp2_with fail
          rw [HW.out]
          refine (pick_any rb _ (p' + 1) 3 HRW.out (by omega) (by omega) (by omega)).mono ?_
          rintro e w5 ⟨z, rfl, hz0, hz1, hr5, hc5⟩
          have hs5 := hc5.size
          have hz2 := hz1 (by omega)
          have q4' := (hc5.block _ (by omega) (fun e => by omega)).trans q4
          have HN5 := hid ((HNW.out.pk hc5 hrl).wide (show w2.heap.size ≤ w5.heap.size by omega))
          have HR5 := hid hr5
          have HC5 := hid (HWC.out.trans hc5)
          have hq0 : w5.cell? ⟨w2.heap.size + 1 + 1 + 1, 0, none⟩ = some (.slice (some ⟨w2.heap.size, 0, none⟩) 0 0) := by rw [cell_of_row _ _ _ _ _ _ q4']; rfl
          have hq1 : w5.cell? ⟨w2.heap.size + 1 + 1 + 1, 1, none⟩ = some (.slice (some ⟨w2.heap.size + 1, 0, none⟩) 1 1) := by rw [cell_of_row _ _ _ _ _ _ q4']; rfl
          have hq2 : w5.cell? ⟨w2.heap.size + 1 + 1 + 1, 2, none⟩ = some (.slice (some ⟨w2.heap.size + 1 + 1, 0, none⟩) 2 2) := by rw [cell_of_row _ _ _ _ _ _ q4']; rfl
          have FIN := hid (show ∀ (r : RowD) (u : Value), rowV r = u → RowAt W 3 r → w2.heap.size ≤ r.1 → r.1 ≠ rb → r.2.2.length ≤ 6 →
              (w5.cell? ⟨g, 0, none⟩ = some (rowV r0) ∧ w5.frozen? ⟨g, 0, none⟩ = false) ∧ ∃ D dd rows p', Value.slice (some ⟨g, 0, none⟩) rs.length d0 = .slice D (List.length rows) dd ∧ Rd (sliceS intS) w.heap.size (w5.setCell ⟨g, 0, none⟩ u).heap.size (w5.setCell ⟨g, 0, none⟩ u) D rows.length rows ∧ rows.length ≤ 5 ∧ (∀ r ∈ rows, r.length ≤ 6) ∧ p' ≤ p + 200 ∧ Rdr rb (w5.setCell ⟨g, 0, none⟩ u) p' ∧ Chg (fun k => k = rb) w (w5.setCell ⟨g, 0, none⟩ u) from by
            intro r u hu hr h1 h2 h3
            have hN := HN5.out
            rw [hrs.out] at hN
            rw [show (r0 :: rs').length = rs.length by rw [hrs.out]] at hN
            have hfr := HFR.out r.1 h1
            have hfg : g ≠ r.1 := fun e => hfr.1 (by rw [← e]; rfl)
            have hS := hN.set0 (r := r) (hr.kept (hc5.block _ hr.lt h2)) (by omega) hfg (fun q hq => hfr.2 q (by rw [hrs.out]; exact hq)) (Nat.le_refl _) hu
            have hB : Below w.heap.size w5 (w5.setCell ⟨g, 0, none⟩ u) := (Below.refl _ _).setCell (p := ⟨g, 0, none⟩) (hN.own.own_lt rfl).1 _
            have hl3 : (r :: rs' : List RowD).length = rs.length := by rw [hrs.out]; rfl
            have h4 := (hS.rd (by rw [hl3]; omega)).2
            refine ⟨hN.at0, some ⟨g, 0, none⟩, d0, (r :: rs' : List RowD).map (·.2.2), p' + 2, by rw [List.length_map, hl3], ?_, by rw [List.length_map, hl3, HRL.out]; omega, (fun y hy => ?_), by omega, HR5.out.keep (hB.mono (by omega)), chgB HC5.out hB (Nat.le_refl _)⟩
            · rw [List.length_map, hl3]
              exact h4
            · obtain ⟨q, hq, rfl⟩ := List.mem_map.1 hy
              rcases List.mem_cons.1 hq with rfl | hq
              · exact h3
              · exact HL6.out q (by rw [hrs.out]; exact List.mem_cons_of_mem _ hq))
          have F0 := hid (FIN.out _ (.slice (some ⟨w2.heap.size, 0, none⟩) 0 0) rfl q1 (Nat.le_refl _) (by show w2.heap.size ≠ rb; omega) (by simp))
          have F1 := hid (FIN.out _ (.slice (some ⟨w2.heap.size + 1, 0, none⟩) 1 1) rfl q2 (by show w2.heap.size ≤ w2.heap.size + 1; omega) (by show w2.heap.size + 1 ≠ rb; omega) (by simp))
          have F2 := hid (FIN.out _ (.slice (some ⟨w2.heap.size + 1 + 1, 0, none⟩) 2 2) rfl q3 (by show w2.heap.size ≤ w2.heap.size + 1 + 1; omega) (by show w2.heap.size + 1 + 1 ≠ rb; omega) (by simp))
          obtain ⟨⟨k0, f0⟩, _⟩ := F0.out
          clear hr5 hc5 q4' q4 q1 q2 q3 hz1 FIN
          rcases (by omega : z = 0 ∨ z = 1 ∨ z = 2) with rfl | rfl | rfl
          · go_wp2_with fail
            go_ret
            obtain ⟨_, D, dd, rows, p2, h1, h2⟩ := F0.out
            exact ⟨D, dd, rows, p2, congrArg Ending.returned h1, h2⟩
          · go_wp2_with fail
            go_ret
            obtain ⟨_, D, dd, rows, p2, h1, h2⟩ := F1.out
            exact ⟨D, dd, rows, p2, congrArg Ending.returned h1, h2⟩
          · go_wp2_with fail
            go_ret
            obtain ⟨_, D, dd, rows, p2, h1, h2⟩ := F2.out
            exact ⟨D, dd, rows, p2, congrArg Ending.returned h1, h2⟩
        by_cases e1 : v = 1
        case pos =>
          subst e1
          have hN3 := HN2.out.al (.cells #[.int .i64 (-1)] 3)
          rw [hrs.out] at hN3
          rw [show (r0 :: rs').length = rs.length by rw [hrs.out]] at hN3
          obtain ⟨k0, f0⟩ := hN3.at0
          have hfr := HN2.out.fresh (Nat.le_refl _)
          have hfg : g ≠ w2.heap.size := fun e => hfr.1 (by rw [← e]; rfl)
          have HS := hid (hN3.set0 (r := (w2.heap.size, 1, [-1])) (rowX (w := w2) (e := 3) (-1)) (by show w.heap.size ≤ w2.heap.size; omega) hfg (fun q hq => hfr.2 q (by rw [hrs.out]; exact hq)) (by simp) (u := .slice (some ⟨w2.heap.size, 0, none⟩) 1 1) rfl)
          have HB := hid (show Below w.heap.size w2 ((w2.alloc (.cells #[.int .i64 (-1)] 3)).setCell ⟨g, 0, none⟩ (.slice (some ⟨w2.heap.size, 0, none⟩) 1 1)) from ((bnew w2 _).mono (by omega)).setCell (p := ⟨g, 0, none⟩) (HN2.out.own.own_lt rfl).1 _)
          clear hN3 hfr
          go_wp2_with fail
          go_ret
          have hl3 : ((w2.heap.size, 1, [-1]) :: rs' : List RowD).length = rs.length := by rw [hrs.out]; rfl
          have h2 := (HS.out.rd (by rw [hl3]; omega)).2
          refine ⟨some ⟨g, 0, none⟩, d0, ((w2.heap.size, 1, [-1]) :: rs' : List RowD).map (·.2.2), p' + 1, by rw [List.length_map, hl3]; rfl, ?_, by rw [List.length_map, hl3, HRL.out]; omega, (fun r hr => ?_), by omega, HR2.out.keep (HB.out.mono (by omega)), chgB HC2.out HB.out (Nat.le_refl _)⟩
          · rw [List.length_map, hl3]
            exact h2.wide (Nat.le_refl _) (by simp)
          · obtain ⟨q, hq, rfl⟩ := List.mem_map.1 hr
            rcases List.mem_cons.1 hq with rfl | hq
            · show 1 ≤ 6; omega
            · exact HL6.out q (by rw [hrs.out]; exact List.mem_cons_of_mem _ hq)
        case neg =>
          have e0i : (v == 0) = false := by rw [beq_eq_false_iff_ne]; exact e0
          have e1i : (v == 1) = false := by rw [beq_eq_false_iff_ne]; exact e1
          go_wp2_with fail
          go_ret
          have h2 := (HN2.out.rd (by omega)).2
          exact ⟨some ⟨g, 0, none⟩, d0, rs.map (·.2.2), p' + 1, by rw [List.length_map]; rfl, by rw [List.length_map]; exact h2, by rw [List.length_map, HRL.out]; omega, (fun r hr => by
            obtain ⟨q, hq, rfl⟩ := List.mem_map.1 hr
            exact HL6.out q hq), by omega, HR2.out, HC2.out⟩
    case pos =>
      have hai : (a : Int) < (kk : Int) := by omega
      obtain ⟨wo, hwo⟩ : ∃ x : World, x = wr := ⟨_, rfl⟩
      subst hwo
      obtain ⟨go_, hgo⟩ : ∃ x : Nat, x = gk := ⟨_, rfl⟩
      subst hgo
      have ON0 := hid (OwnR.nil (S := intS) (base := wo.heap.size) (e := 3) (Nat.le_refl wo.heap.size) #[] rfl)
      have HRA0 := hid (HR.out.keep ((bnew wo (.cells #[] 3)).mono HR.out.lt))
      go_wp2_with fail
      go_loopg [10, 11] n (fun gk words i wr => ∃ (j : Nat) (xs : List Int) (g2 d2 q : Nat), j + gk = n ∧ i = .int .i64 j ∧ words = .slice (some ⟨g2, 0, none⟩) xs.length d2 ∧ xs.length ≤ j ∧ OwnR intS wo.heap.size wr 3 (.slice (some ⟨g2, 0, none⟩) xs.length d2) xs ∧ q ≤ p' + j ∧ Rdr rb wr q ∧ Chg (fun k => k = rb) wo wr)
      case atStart => exact ⟨0, [], _, _, p', Nat.zero_add _, rfl, rfl, Nat.le_refl _, ON0.out, by omega, HRA0.out, chg_new _ _ _⟩
      case round =>
        obtain ⟨j, xs, g2, d2, q, hjg, rfl, rfl, hxl, hO, hq, hR2, hC2⟩ := hrel
        have HJG := hid hjg
        have HO := hid hO
        have HR2 := hid hR2
        have HC2 := hid hC2
        have hwz2 := hC2.size
        have hj : j ≤ n := by omega
        have hrl2 : rb < wo.heap.size := HR.out.lt
        clear hjg hO hR2 hC2
        by_cases hjn : j < n
        case neg =>
          obtain rfl : n = j := by omega
          by_cases hx0 : xs.length = 0
          case neg =>
            have hx0i : ((xs.length : Int) == 0) = false := by rw [beq_eq_false_iff_ne]; omega
            have hra := (HO.out.rowAt (by omega)).2
            have HRA := hid hra.1
            have hg2 := hra.2
            clear hra
            go_wp2_with (at_builtin; refine wpList_append_row rfl (.tmp 45) (.tmp 47) _ rfl Try.underlying24 HJ.out (v := .slice (some ⟨g, 0, none⟩) rs.length d0) rfl rfl ((HN.out.pk HC2.out hrl).al _) (r := (g2, d2, xs)) rfl rfl (heap_alloc_new _ _) (HRA.out.al _) (by omega) (HN.out.fresh hg2).1 (HN.out.fresh hg2).2 (by omega) (by simp; omega) (by simp; omega) ?_; intro A3 c3 w3 hN3 hc3 hg3)
            obtain ⟨g', rfl⟩ := hg3
            have HN3 := hid hN3
            have hb3 : Below w.heap.size wr w3 := ((bnew _ _).mono (by omega)).trans (hc3.below (by simp; omega) fun k hk => (HN.out.own.own_lt hk).1)
            have HC3 := hid (chgB (HC.out.trans HC2.out) hb3 (Nat.le_refl _))
            have HR3 := hid (HR2.out.keep (hb3.mono (by omega)))
            clear hN3 hc3 hb3
            go_roundg (go_ - 1)
            case measure => have := HKG.out; omega
            case rel => exact ⟨a + 1, rs ++ [(g2, d2, xs)], g', c3, q, by have := HKG.out; omega, by go_num, by rw [List.length_append]; rfl, by rw [List.length_append, HRL.out]; rfl, by rw [List.length_append]; exact HN3.out, (by
              intro r hr
              rcases List.mem_append.1 hr with hr | hr
              · exact HL6.out r hr
              · rw [List.mem_singleton] at hr; subst hr; show xs.length ≤ 6; omega), by omega, HR3.out, HC3.out⟩
          case pos =>
            obtain rfl : xs = [] := List.length_eq_zero_iff.1 hx0
            clear hx0 hxl
            go_wp2_with fail
            all_goals
              refine (pick_any rb _ q _ HR2.out (by omega) (by omega) (by omega)).mono ?_
              rintro e w2 ⟨v, rfl, hv0, hv1, hr3, hc3⟩
              have hs3 := hc3.size
              have HO3 := hid (HO.out.pk hc3 hrl2)
              have HR3 := hid hr3
              have HC3 := hid (HC2.out.trans hc3)
              clear hr3 hc3 hv1
              go_wp2_with (at_builtin; first
                | (refine wpList_append_R rfl (.tmp 38) (.tmp 43) _ rfl intS Try.underlying23 HI0.out rfl (by decide) rfl (HO3.out.al _) (y := v) rfl (heap_alloc_new _ _) rfl (by simp [Value.oneCell']) rfl (by simp) (by simp) (by simp; omega) ?_; intro A2 c2 w6 hO4 hb4; obtain ⟨g4, rfl, _⟩ := hO4.blk (by simp); have hra := (hO4.rowAt (by simp)).2; have HRA := hid hra.1; have hg2 := hra.2; have hb5 : Below wo.heap.size w2 w6 := ((bnew _ _).mono (by omega)).trans hb4; have HC5 := hid (chgB HC3.out hb5 (Nat.le_refl _)); have HR5 := hid (HR3.out.keep (hb5.mono (by omega))); have hs6 := HC5.out.size; clear hO4 hb4 hra hb5)
                | (refine wpList_append_row rfl (.tmp 45) (.tmp 47) _ rfl Try.underlying24 HJ.out (v := .slice (some ⟨g, 0, none⟩) rs.length d0) rfl rfl ((HN.out.pk HC5.out hrl).al _) (r := (g4, c2, [v])) rfl rfl (heap_alloc_new _ _) (HRA.out.al _) (by omega) (HN.out.fresh hg2).1 (HN.out.fresh hg2).2 (by omega) (by simp; omega) (by simp; omega) ?_; intro A3 c3 w3 hN3 hc3 hg3))
              obtain ⟨g', rfl⟩ := hg3
              have HN3 := hid hN3
              have hb3 : Below w.heap.size w6 w3 := ((bnew _ _).mono (by omega)).trans (hc3.below (by simp; omega) fun k hk => (HN.out.own.own_lt hk).1)
              have HC3' := hid (chgB (HC.out.trans HC5.out) hb3 (Nat.le_refl _))
              have HR3' := hid (HR5.out.keep (hb3.mono (by omega)))
              clear hN3 hc3 hb3
              go_roundg (go_ - 1)
              case measure => have := HKG.out; omega
              case rel => exact ⟨a + 1, rs ++ [(g4, c2, [v])], g', c3, q + 1, by have := HKG.out; omega, by go_num, by rw [List.length_append]; rfl, by rw [List.length_append, HRL.out]; rfl, by rw [List.length_append]; exact HN3.out, (by
                intro r hr
                rcases List.mem_append.1 hr with hr | hr
                · exact HL6.out r hr
                · rw [List.mem_singleton] at hr; subst hr; show 1 ≤ 6; omega), by omega, HR3'.out, HC3'.out⟩
        case pos =>
          have hji : (j : Int) < (n : Int) := by omega
          go_wp2_with fail
          refine (pick_any rb _ q 3 HR2.out (by omega) (by omega) (by omega)).mono ?_
          rintro e w2 ⟨v, rfl, hv0, hv1, hr3, hc3⟩
          have hs3 := hc3.size
          have HO3 := hid (HO.out.pk hc3 hrl2)
          have HR3 := hid hr3
          have HC3 := hid (HC2.out.trans hc3)
          clear hr3 hc3 hv1
          by_cases hv : 0 < v
          case pos =>
            go_wp2_with (at_builtin; refine wpList_append_R rfl (.tmp 31) (.tmp 33) _ rfl intS Try.underlying23 HI0.out rfl (by decide) rfl (HO3.out.al _) (y := (j : Int)) rfl (heap_alloc_new _ _) rfl (by simp [Value.oneCell']) rfl (by omega) (by omega) (by simp; omega) ?_; intro A2 c2 w6 hO4 hb4)
            obtain ⟨g', rfl, _⟩ := hO4.blk (by omega)
            have HO4 := hid hO4
            have hb5 : Below wo.heap.size w2 w6 := ((bnew _ _).mono (by omega)).trans hb4
            have HC5 := hid (chgB HC3.out hb5 (Nat.le_refl _))
            have HR5 := hid (HR3.out.keep (hb5.mono (by omega)))
            clear hO4 hb4 hb5
            go_roundg (gk - 1)
            case measure => have := HJG.out; omega
            case rel => exact ⟨j + 1, xs ++ [(j : Int)], g', c2, q + 1, by have := HJG.out; omega, by go_num, by rw [List.length_append]; rfl, by rw [List.length_append]; show xs.length + 1 ≤ _; omega, by rw [List.length_append]; exact HO4.out, by omega, HR5.out, HC5.out⟩
          case neg =>
            go_wp2_with fail
            go_roundg (gk - 1)
            case measure => have := HJG.out; omega
            case rel => exact ⟨j + 1, xs, g2, d2, q + 1, by have := HJG.out; omega, by go_num, rfl, by omega, HO3.out, by omega, HR3.out, HC3.out⟩
end Go.Proofs.Ytfjoininagdlcaa
