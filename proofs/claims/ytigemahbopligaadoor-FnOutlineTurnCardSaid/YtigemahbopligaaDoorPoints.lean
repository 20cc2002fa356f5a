/- All points of an outline: what the program's function returns. -/
import Derived.Test.YtigemahbopligaaDoorChain
import Derived.Test.YtigemahbopligaaDoorOwn
import Derived.Test.YtigemahbopligaaDoorPtsPure
import Derived.StillTailTactics
namespace Go.Proofs.YtigemahbopligaaDoor
open Go.RowKit
theorem at_set0 {w : World} {b e : Nat} {x y v : Value} (h : w.heap[b]? = some (.cells #[x, y] e (0, 0))) : (w.setCell ⟨b, 0, none⟩ v).heap[b]? = some (.cells #[v, y] e (0, 0)) := by
  rw [heap_setCell_same w b 0 _ e v h]; rfl
theorem at_set1 {w : World} {b e : Nat} {x y v : Value} (h : w.heap[b]? = some (.cells #[x, y] e (0, 0))) : (w.setCell ⟨b, 1, none⟩ v).heap[b]? = some (.cells #[x, v] e (0, 0)) := by
  rw [heap_setCell_same w b 1 _ e v h]; rfl
theorem at_get {w : World} {b e : Nat} {x y : Value} (h : w.heap[b]? = some (.cells #[x, y] e (0, 0))) : w.cell? ⟨b, 0, none⟩ = some x ∧ w.cell? ⟨b, 1, none⟩ = some y ∧ w.frozen? ⟨b, 0, none⟩ = false ∧ w.frozen? ⟨b, 1, none⟩ = false :=
  ⟨by rw [cell_of_row w _ _ _ _ (0, 0) h]; rfl, by rw [cell_of_row w _ _ _ _ (0, 0) h]; rfl, frozen_of_row _ _ _ _ _ h, frozen_of_row _ _ _ _ _ h⟩
theorem Chg.drew {D : Nat → Prop} {a b : World} (h : Chg D a b) : Chg D a b.drew := ⟨h.os, h.tape, h.output, h.size, h.block⟩
theorem Chg.cell {D : Nat → Prop} {a b : World} (h : Chg D a b) {k o : Nat} {v : Value} (hd : ¬ D k) (hc : a.cell? ⟨k, o, none⟩ = some v) : b.cell? ⟨k, o, none⟩ = some v := (World.cell?_of_block (h.block k (block_lt_of_cell hc) hd)).trans hc
theorem heap_alloc_drew {w : World} {g : Nat} {o : Obj} (h : g = w.heap.size) : (w.alloc o).drew.heap[g]? = some o := by subst h; exact heap_alloc_new w o
/-- The two tables of steps lie in blocks 0 and 1. -/
structure Tabs (w : World) : Prop where
  x : ∀ d : Nat, d < 8 → w.cell? ⟨0, d, none⟩ = some (.int .i64 (stepX d))
  y : ∀ d : Nat, d < 8 → w.cell? ⟨1, d, none⟩ = some (.int .i64 (stepY d))
theorem Tabs.bl {w w' : World} (h : Tabs w) (hb : Below w.heap.size w w') : Tabs w' := ⟨fun d hd => bcl hb (h.x d hd), fun d hd => bcl hb (h.y d hd)⟩
set_option maxRecDepth 100000 in
set_option maxHeartbeats 2000000 in
theorem points_any (p : Option Addr) (lo hi : Nat) (l : List Int) (w : World) (hC : Chain lo w hi p l) (hh : hi ≤ w.heap.size) (hb : ∀ x ∈ l, 0 ≤ x ∧ x ≤ 23) (hl : l.length ≤ 8) (hT : Tabs w) :
    Calls Tryd.prog 40 #[.pointer p] w fun e w' => ∃ A c, e = .returned (.slice A (ptsD (dirsP l)).length c) ∧ OwnR strokeS w.heap.size w' 53 (.slice A (ptsD (dirsP l)).length c) (ptsD (dirsP l)) ∧ Below w.heap.size w w' := by
  obtain ⟨i0, hi1, hz0, hz1, hz2⟩ := info_parts (show (Tryd.prog.info? 53).map (fun i => (i.zero, i.size, i.bytes)) = some (some (.agg #[.int .i64 0, .int .i64 0]), 2, 16) by kernel_rfl)
  have HI := hid (And.intro hi1 (And.intro hz0 (And.intro hz1 hz2)))
  clear hi1 hz0 hz1 hz2
  have HC := hid hC; clear hC
  have HB := hid hb; clear hb
  have HT := hid hT; clear hT
  go_enter Tryd.func40, Tryd.ntmps40
  go_wp2
  go_loopw [0, 4] (fun c out wr => ∃ (r : List Int) (hi' : Nat) (a : Option Addr) (x y : Int) (m : List (Int × Int)) (A : Option Addr) (k : Nat), c = .pointer a ∧ out = .slice A m.length k ∧ Chain lo wr hi' a r ∧ hi' ≤ w.heap.size ∧ (∀ x ∈ r, 0 ≤ x ∧ x ≤ 23) ∧ wr.heap[w.heap.size]? = some (.cells #[.int .i64 x, .int .i64 y] 53 (0, 0)) ∧ OwnR strokeS (w.heap.size + 1) wr 53 (.slice A m.length k) m ∧ Below w.heap.size w wr ∧ m.length + 3 * r.length ≤ 25 ∧ (-(m.length : Int) ≤ x ∧ x ≤ m.length) ∧ (-(m.length : Int) ≤ y ∧ y ≤ m.length) ∧ ptsD (dirsP l) = m ++ way x y (dirsP r)) (fun c _ _ => ptrNo c)
  case atStart =>
    refine ⟨l, hi, p, 0, 0, [(0, 0)], _, _, rfl, rfl, HC.out.below (B := w.heap.size) (bal (bnew _ _) _) hh, hh, HB.out, ?_, ?_, bal (bnew _ _) _, ?_, ?_, ?_, rfl⟩
    · exact ((bnew (w.alloc _) _).block w.heap.size (by simp)).trans (heap_alloc_new _ _)
    · have := OwnR.one (S := strokeS) (base := w.heap.size + 1) (w := w.alloc (.cells #[.int .i64 0, .int .i64 0] 53)) (e := 53) (by simp) #[.int .i64 0, .int .i64 0] rfl (y := (0, 0)) strokeS_flat ⟨rfl, rfl⟩
      simpa using this
    · simp; omega
    · simp
    · simp
  case round =>
    obtain ⟨r, hi', a, x, y, m, A, k, rfl, rfl, hC, hh', hrb, hat, hO, hb, hlen, hx, hy, hp⟩ := hrel
    have HO := hid hO; clear hO
    have HP := hid hp; clear hp
    cases r with
    | nil =>
      obtain rfl : a = none := hC
      have HM := hid (show m = ptsD (dirsP l) by rw [HP.out, dirsP, way, List.append_nil])
      clear hrb
      go_wp2
      go_ret
      refine ⟨A, k, ?_, ?_, hb⟩
      · rw [← HM.out]; rfl
      · rw [← HM.out]; exact HO.out.low (by omega)
    | cons z r =>
      obtain ⟨g, q', rfl, g1, g2, c0, c1, hC3⟩ := hC
      obtain ⟨z1, z2⟩ := hrb z (List.mem_cons_self ..)
      have HX := hid (show ∀ y ∈ r, 0 ≤ y ∧ y ≤ 23 from fun y hy => hrb y (List.mem_cons_of_mem _ hy))
      have HC3 := hid hC3
      have hln : (z :: r).length = r.length + 1 := rfl
      rw [hln] at hlen
      clear hC3 hrb hln
      have hg : g < w.heap.size := by omega
      go_wp2_with fail
      refine (size_any z z1 z2 _).mono ?_
      rintro e w' ⟨rfl, rfl⟩
      go_wp2
      go_loopw [4, 19] (fun out i wr => ∃ (j : Nat) (x y : Int) (m : List (Int × Int)) (A : Option Addr) (k : Nat), i = .int .i64 j ∧ (j : Int) ≤ z % 3 + 1 ∧ out = .slice A m.length k ∧ wr.heap[w.heap.size]? = some (.cells #[.int .i64 x, .int .i64 y] 53 (0, 0)) ∧ OwnR strokeS (w.heap.size + 1) wr 53 (.slice A m.length k) m ∧ Below w.heap.size w wr ∧ wr.cell? ⟨g, 0, none⟩ = some (.int .i64 z) ∧ wr.cell? ⟨g, 1, none⟩ = some (.pointer q') ∧ Chain lo wr g q' r ∧ m.length + 3 * r.length + 3 - j ≤ 25 ∧ (-(m.length : Int) ≤ x ∧ x ≤ m.length) ∧ (-(m.length : Int) ≤ y ∧ y ≤ m.length) ∧ ptsD (dirsP l) = m ++ way x y (List.replicate ((z % 3 + 1).toNat - j) (z / 3) ++ dirsP r)) (fun _ i _ => 3 - (intOf i).toNat)
      case atStart => exact ⟨0, x, y, m, A, k, rfl, by omega, rfl, hat, HO.out, hb, c0, c1, HC3.out, by omega, hx, hy, HP.out⟩
      case round =>
        clear hat hb hx hy HO HP c0 c1 HC3 hlen
        obtain ⟨j, x, y, m, A, k, rfl, hj, rfl, hat, hO, hb, c0, c1, hC, hlen, hx, hy, hp⟩ := hrel
        have HO := hid hO; clear hO
        have HP := hid hp; clear hp
        have HC := hid hC; clear hC
        by_cases hlt : (j : Int) < z % 3 + 1
        case neg =>
          obtain hje : (j : Int) = z % 3 + 1 := by omega
          have HJ := hid (show (z % 3 + 1).toNat - j = 0 by omega)
          have HAT := hid hat
          clear hat
          go_wp2
          refine ⟨⟨r, g, q', x, y, m, A, k, rfl, rfl, HC.out, by omega, HX.out, HAT.out, HO.out, hb, by omega, hx, hy, ?_⟩, ?_⟩
          · rw [HP.out, HJ.out]; rfl
          · cases r with
            | nil => obtain rfl : q' = none := HC.out; simp [ptrNo]
            | cons y r' => obtain ⟨g', _, rfl, _, g3, _⟩ := HC.out; simp [ptrNo]; omega
        case pos =>
          have HJ := hid (show (z % 3 + 1).toNat - j = ((z % 3 + 1).toNat - (j + 1)) + 1 by omega)
          obtain ⟨d, hzd⟩ : ∃ d : Nat, z / 3 = (d : Int) := ⟨(z / 3).toNat, by omega⟩
          have hd8 : d < 8 := by omega
          have hd8i : (d : Int) < 8 := by omega
          have tx := (HT.out.bl hb).x d hd8
          have ty := (HT.out.bl hb).y d hd8
          obtain ⟨s1, s2, s3, s4⟩ := step_bd (d := (d : Int)) (by omega) (by omega)
          obtain ⟨cx, cy, fx, fy⟩ := at_get hat
          have HAT := hid hat; clear hat
          have dirS := fun w' : World => (dir_any z z1 z2 w').mono fun e w'' (h : _ ∧ w' = w'') => (⟨by rw [← hzd]; exact h.1, h.2.symm⟩ : e = .returned (.int .i64 (d : Int)) ∧ w'' = w')
          have DIR := hid dirS; clear dirS
          have ZD := hid hzd; clear hzd
          go_wp2_with fail
          refine wp_region_still_tail 11 (by kernel_rfl) (by kernel_rfl) ?_
          simp only [List.take_succ_cons, List.take_zero, List.drop_succ_cons, List.drop_zero]
          repeat still_step
          still_call (DIR.out _)
          repeat still_step
          try refine wpStill_nil ?_
          change wpList _ _ _ _ _ wr.drew
          go_wp2_with fail
          clear cx cy fx fy tx
          have CH := ((Chg.refl (fun k => k = w.heap.size) wr).set (p := ⟨w.heap.size, 0, none⟩) rfl (.int .i64 (x + stepX d))).drew
          have hat2 : (wr.setCell ⟨w.heap.size, 0, none⟩ (.int .i64 (x + stepX d))).drew.heap[w.heap.size]? = _ := at_set0 (v := .int .i64 (x + stepX d)) HAT.out
          have hb2 := (bsc hb (p := ⟨w.heap.size, 0, none⟩) (Nat.le_refl _) (.int .i64 (x + stepX d))).drew
          have c02 := CH.cell (by omega) c0
          have c12 := CH.cell (by omega) c1
          have HO2 := hid (HO.out.chg CH fun k hk => by omega)
          have HC2 := hid (HC.out.keep (w' := (wr.setCell ⟨w.heap.size, 0, none⟩ (.int .i64 (x + stepX d))).drew) fun b o h1 h2 => World.cell?_of_block (CH.block b (by have := hb.size; omega) (by omega)))
          clear c0 c1 hb CH
          generalize (wr.setCell ⟨w.heap.size, 0, none⟩ (.int .i64 (x + stepX d))).drew = w2 at *
          have ty2 := (HT.out.bl hb2).y d hd8
          obtain ⟨cx, cy, fx, fy⟩ := at_get hat2
          have HAT2 := hid hat2; clear hat2
          refine wp_region_still_tail 11 (by kernel_rfl) (by kernel_rfl) ?_
          simp only [List.take_succ_cons, List.take_zero, List.drop_succ_cons, List.drop_zero]
          repeat still_step
          still_call (DIR.out _)
          repeat still_step
          try refine wpStill_nil ?_
          change wpList _ _ _ _ _ w2.drew
          have hb3 : ∀ v, Below w.heap.size w (w2.setCell ⟨w.heap.size, 1, none⟩ v) := fun v => bsc hb2 (p := ⟨w.heap.size, 1, none⟩) (Nat.le_refl _) v
          have CH : ∀ v, Chg (fun k => k = w.heap.size) w2 (w2.setCell ⟨w.heap.size, 1, none⟩ v) := fun v => (Chg.refl (fun k => k = w.heap.size) w2).set (p := ⟨w.heap.size, 1, none⟩) rfl v
          have HO3 := hid fun v => HO2.out.chg (CH v) fun k hk => by omega
          clear ty2 ty
          go_wp2_with (at_builtin; refine wpList_append_R rfl (.tmp 43) (.tmp 45) _ rfl strokeS Tryd.underlying54 HI.out rfl (by decide) rfl (((HO3.out _).al _).bl (bdr _)) (y := (x + stepX d, y + stepY d)) rfl (heap_alloc_drew (by simp)) rfl (by simp [Value.oneCell']) ⟨rfl, rfl⟩ (by omega) (by omega) (by have := (Array.getElem?_eq_some_iff.1 HAT2.out).1; simp; omega) ?_; intro A4 c4 w4 hO4 hb4)
          have CZ := ((CH (.int .i64 (y + stepY d))).trans (chg_new _ (.cells #[.int .i64 (x + stepX d), .int .i64 (y + stepY d)] 53) _)).drew
          have hw2 := (Array.getElem?_eq_some_iff.1 HAT2.out).1
          have hat3 := at_set1 (v := .int .i64 (y + stepY d)) HAT2.out
          have hat4 := (hb4.block w.heap.size (by omega)).trans ((((bnew (w2.setCell ⟨w.heap.size, 1, none⟩ (.int .i64 (y + stepY d))) (.cells #[.int .i64 (x + stepX d), .int .i64 (y + stepY d)] 53)).drew).block w.heap.size (by simp; omega)).trans hat3)
          have hl4 : (m ++ [(x + stepX d, y + stepY d)]).length = m.length + 1 := by simp
          refine ⟨⟨j + 1, x + stepX d, y + stepY d, m ++ [(x + stepX d, y + stepY d)], A4, c4, by go_num, by omega, by rw [hl4], hat4, by rw [hl4]; exact hO4, (bal (hb3 _) _).drew.trans (hb4.mono (by omega)), (hb4.cell (p := ⟨g, 0, none⟩) (by show g < _; omega)).trans (CZ.cell (by omega) c02), (hb4.cell (p := ⟨g, 1, none⟩) (by show g < _; omega)).trans (CZ.cell (by omega) c12), HC2.out.keep fun b o h1 h2 => (hb4.cell (p := ⟨b, o, none⟩) (by show b < _; omega)).trans (World.cell?_of_block (CZ.block b (by omega) (by omega))), by rw [hl4]; omega, by rw [hl4]; omega, by rw [hl4]; omega, ?_⟩, ?_⟩
          · rw [HP.out, HJ.out, List.replicate_succ, List.cons_append, way, ZD.out]
            simp
          · simp [intOf]; omega
end Go.Proofs.YtigemahbopligaaDoor
