/- The draws of the laws on readings. -/
import Derived.Test.YtfjoininagdlcaaDrawR
namespace Go.Proofs.Ytfjoininagdlcaa
open Go.RowKit
set_option maxRecDepth 100000 in
set_option maxHeartbeats 1000000 in
theorem DrawReadingsMany_any (A0 : Option Addr) (n0 c0 : Nat) (bs : List UInt8) (w : World) (hnc : n0 ≤ c0) (hx : Rd byteS 0 w.heap.size w A0 n0 bs) :
    Calls Try.prog 13 #[.slice A0 n0 c0] w fun e w' => ∃ A n c l B m e0 r C q d page, e = .returned (.tuple #[.agg #[.slice A n c, .slice B m e0], .slice C q d]) ∧ DrM 0 w' A B n m l r ∧ DrP 0 w' C q page ∧ Below w.heap.size w w' := by
  have hx1 := hx.bl (bnew w (.cells #[.slice none 0 0, .slice none 0 0] 26))
  have HX := hid hx1
  clear hx1 hx
  go_enter Try.func13, Try.ntmps13
  go_wp2_with fail
  refine (l6Open_any A0 n0 c0 bs _ hnc HX.out).mono ?_
  rintro e w1 ⟨rfl, hr1, hb1, hs1⟩
  rw [World.size_alloc] at hr1 hs1
  have hres1 := (hb1.block w.heap.size (by simp)).trans (heap_alloc_new w (.cells #[.slice none 0 0, .slice none 0 0] 26))
  have HB1 := hid ((bnew w (.cells #[.slice none 0 0, .slice none 0 0] 26)).trans (hb1.mono (by simp)))
  have HR1 := hid hr1
  have hsz1 : w.heap.size + 1 < w1.heap.size := by omega
  clear hb1 hr1 hs1
  go_wp2_with fail
  refine (l92Both_any _ _ 0 HR1.out (by omega)).mono ?_
  rintro e w2 ⟨A, n, c, l, B, m, e0, r, C, q, d, page, p1, rfl, a1, a2, a3, a4, a5⟩
  have HDM := hid a1
  have HDP := hid a2
  clear a1 a2 a3 a4
  have hsz2 := a5.size
  have hres2 := (a5.block w.heap.size (by omega) (fun e => by omega)).trans hres1
  obtain ⟨rc0, rc1, rf0, rf1⟩ := at_get hres2
  have HRES := hid hres2
  have HC := hid a5
  clear hres1 hres2 a5
  go_wp2_with fail
  obtain ⟨k0, k1, _, _⟩ := at_get (at_set1 (v := .slice B m e0) (at_set0 (v := .slice A n c) HRES.out))
  have hc := ((Chg.refl (fun k => k = w.heap.size) w2).set (p := ⟨w.heap.size, 0, none⟩) rfl (.slice A n c)).set (p := ⟨w.heap.size, 1, none⟩) rfl (.slice B m e0)
  refine ⟨rfl, .tuple #[.agg #[.slice A n c, .slice B m e0], .slice C q d], by simp [results, Try.results13, go_sem, k0, k1], A, n, c, l, B, m, e0, r, C, q, d, page, rfl, (HDM.out.chg hc (fun k e => by omega)).low (Nat.zero_le _), (HDP.out.chg hc (fun k e => by omega)).low (Nat.zero_le _), HB1.out.trans ((HC.out.below (by omega) (fun k e => by omega)).trans (hc.below (by omega) (fun k e => by omega)))⟩

set_option maxRecDepth 100000 in
set_option maxHeartbeats 1000000 in
theorem DrawReadingBest_any (A0 : Option Addr) (n0 c0 : Nat) (bs : List UInt8) (w : World) (hnc : n0 ≤ c0) (hx : Rd byteS 0 w.heap.size w A0 n0 bs) :
    Calls Try.prog 27 #[.slice A0 n0 c0] w fun e w' => ∃ A n c l B m e0 r C q d page, e = .returned (.tuple #[.agg #[.slice A n c, .slice B m e0], .slice C q d]) ∧ DrM 0 w' A B n m l r ∧ DrP 0 w' C q page ∧ Below w.heap.size w w' := by
  have hx1 := hx.bl (bnew w (.cells #[.slice none 0 0, .slice none 0 0] 26))
  have HX := hid hx1
  clear hx1 hx
  go_enter Try.func27, Try.ntmps27
  go_wp2_with fail
  refine (l6Open_any A0 n0 c0 bs _ hnc HX.out).mono ?_
  rintro e w1 ⟨rfl, hr1, hb1, hs1⟩
  rw [World.size_alloc] at hr1 hs1
  have hres1 := (hb1.block w.heap.size (by simp)).trans (heap_alloc_new w (.cells #[.slice none 0 0, .slice none 0 0] 26))
  have HB1 := hid ((bnew w (.cells #[.slice none 0 0, .slice none 0 0] 26)).trans (hb1.mono (by simp)))
  have HR1 := hid hr1
  have hsz1 : w.heap.size + 1 < w1.heap.size := by omega
  clear hb1 hr1 hs1
  go_wp2_with fail
  refine (l92Both_any _ _ 0 HR1.out (by omega)).mono ?_
  rintro e w2 ⟨A, n, c, l, B, m, e0, r, C, q, d, page, p1, rfl, a1, a2, a3, a4, a5⟩
  have HDM := hid a1
  have HDP := hid a2
  clear a1 a2 a3 a4
  have hsz2 := a5.size
  have hres2 := (a5.block w.heap.size (by omega) (fun e => by omega)).trans hres1
  obtain ⟨rc0, rc1, rf0, rf1⟩ := at_get hres2
  have HRES := hid hres2
  have HC := hid a5
  clear hres1 hres2 a5
  go_wp2_with fail
  obtain ⟨k0, k1, _, _⟩ := at_get (at_set1 (v := .slice B m e0) (at_set0 (v := .slice A n c) HRES.out))
  have hc := ((Chg.refl (fun k => k = w.heap.size) w2).set (p := ⟨w.heap.size, 0, none⟩) rfl (.slice A n c)).set (p := ⟨w.heap.size, 1, none⟩) rfl (.slice B m e0)
  refine ⟨rfl, .tuple #[.agg #[.slice A n c, .slice B m e0], .slice C q d], by simp [results, Try.results27, go_sem, k0, k1], A, n, c, l, B, m, e0, r, C, q, d, page, rfl, (HDM.out.chg hc (fun k e => by omega)).low (Nat.zero_le _), (HDP.out.chg hc (fun k e => by omega)).low (Nat.zero_le _), HB1.out.trans ((HC.out.below (by omega) (fun k e => by omega)).trans (hc.below (by omega) (fun k e => by omega)))⟩

set_option maxRecDepth 100000 in
set_option maxHeartbeats 1000000 in
theorem DrawReadingFirst_any (A0 : Option Addr) (n0 c0 : Nat) (bs : List UInt8) (w : World) (hnc : n0 ≤ c0) (hx : Rd byteS 0 w.heap.size w A0 n0 bs) :
    Calls Try.prog 21 #[.slice A0 n0 c0] w fun e w' => ∃ A n c l B m e0 r C q d page, e = .returned (.tuple #[.agg #[.slice A n c, .slice B m e0], .slice C q d]) ∧ DrM 0 w' A B n m l r ∧ DrP 0 w' C q page ∧ Below w.heap.size w w' := by
  have hx1 := hx.bl (bnew w (.cells #[.slice none 0 0, .slice none 0 0] 26))
  have HX := hid hx1
  clear hx1 hx
  go_enter Try.func21, Try.ntmps21
  go_wp2_with fail
  refine (l6Open_any A0 n0 c0 bs _ hnc HX.out).mono ?_
  rintro e w1 ⟨rfl, hr1, hb1, hs1⟩
  rw [World.size_alloc] at hr1 hs1
  have hres1 := (hb1.block w.heap.size (by simp)).trans (heap_alloc_new w (.cells #[.slice none 0 0, .slice none 0 0] 26))
  have HB1 := hid ((bnew w (.cells #[.slice none 0 0, .slice none 0 0] 26)).trans (hb1.mono (by simp)))
  have HR1 := hid hr1
  have hsz1 : w.heap.size + 1 < w1.heap.size := by omega
  clear hb1 hr1 hs1
  go_wp2_with fail
  refine (l92Both_any _ _ 0 HR1.out (by omega)).mono ?_
  rintro e w2 ⟨A, n, c, l, B, m, e0, r, C, q, d, page, p1, rfl, a1, a2, a3, a4, a5⟩
  have HDM := hid a1
  have HDP := hid a2
  clear a1 a2 a3 a4
  have hsz2 := a5.size
  have hres2 := (a5.block w.heap.size (by omega) (fun e => by omega)).trans hres1
  obtain ⟨rc0, rc1, rf0, rf1⟩ := at_get hres2
  have HRES := hid hres2
  have HC := hid a5
  clear hres1 hres2 a5
  go_wp2_with fail
  obtain ⟨k0, k1, _, _⟩ := at_get (at_set1 (v := .slice B m e0) (at_set0 (v := .slice A n c) HRES.out))
  have hc := ((Chg.refl (fun k => k = w.heap.size) w2).set (p := ⟨w.heap.size, 0, none⟩) rfl (.slice A n c)).set (p := ⟨w.heap.size, 1, none⟩) rfl (.slice B m e0)
  refine ⟨rfl, .tuple #[.agg #[.slice A n c, .slice B m e0], .slice C q d], by simp [results, Try.results21, go_sem, k0, k1], A, n, c, l, B, m, e0, r, C, q, d, page, rfl, (HDM.out.chg hc (fun k e => by omega)).low (Nat.zero_le _), (HDP.out.chg hc (fun k e => by omega)).low (Nat.zero_le _), HB1.out.trans ((HC.out.below (by omega) (fun k e => by omega)).trans (hc.below (by omega) (fun k e => by omega)))⟩

set_option maxRecDepth 100000 in
set_option maxHeartbeats 1000000 in
theorem DrawPageSeen_any (A0 : Option Addr) (n0 c0 : Nat) (bs : List UInt8) (w : World) (hnc : n0 ≤ c0) (hx : Rd byteS 0 w.heap.size w A0 n0 bs) :
    Calls Try.prog 32 #[.slice A0 n0 c0] w fun e w' => ∃ A n c l B m e0 r C q d page, e = .returned (.tuple #[.agg #[.slice A n c, .slice B m e0], .slice C q d]) ∧ DrM 0 w' A B n m l r ∧ DrP 0 w' C q page ∧ Below w.heap.size w w' := by
  have hx1 := hx.bl (bnew w (.cells #[.slice none 0 0, .slice none 0 0] 26))
  have HX := hid hx1
  clear hx1 hx
  go_enter Try.func32, Try.ntmps32
  go_wp2_with fail
  refine (l6Open_any A0 n0 c0 bs _ hnc HX.out).mono ?_
  rintro e w1 ⟨rfl, hr1, hb1, hs1⟩
  rw [World.size_alloc] at hr1 hs1
  have hres1 := (hb1.block w.heap.size (by simp)).trans (heap_alloc_new w (.cells #[.slice none 0 0, .slice none 0 0] 26))
  have HB1 := hid ((bnew w (.cells #[.slice none 0 0, .slice none 0 0] 26)).trans (hb1.mono (by simp)))
  have HR1 := hid hr1
  have hsz1 : w.heap.size + 1 < w1.heap.size := by omega
  clear hb1 hr1 hs1
  go_wp2_with fail
  refine (l92Both_any _ _ 0 HR1.out (by omega)).mono ?_
  rintro e w2 ⟨A, n, c, l, B, m, e0, r, C, q, d, page, p1, rfl, a1, a2, a3, a4, a5⟩
  have HDM := hid a1
  have HDP := hid a2
  clear a1 a2 a3 a4
  have hsz2 := a5.size
  have hres2 := (a5.block w.heap.size (by omega) (fun e => by omega)).trans hres1
  obtain ⟨rc0, rc1, rf0, rf1⟩ := at_get hres2
  have HRES := hid hres2
  have HC := hid a5
  clear hres1 hres2 a5
  go_wp2_with fail
  obtain ⟨k0, k1, _, _⟩ := at_get (at_set1 (v := .slice B m e0) (at_set0 (v := .slice A n c) HRES.out))
  have hc := ((Chg.refl (fun k => k = w.heap.size) w2).set (p := ⟨w.heap.size, 0, none⟩) rfl (.slice A n c)).set (p := ⟨w.heap.size, 1, none⟩) rfl (.slice B m e0)
  refine ⟨rfl, .tuple #[.agg #[.slice A n c, .slice B m e0], .slice C q d], by simp [results, Try.results32, go_sem, k0, k1], A, n, c, l, B, m, e0, r, C, q, d, page, rfl, (HDM.out.chg hc (fun k e => by omega)).low (Nat.zero_le _), (HDP.out.chg hc (fun k e => by omega)).low (Nat.zero_le _), HB1.out.trans ((HC.out.below (by omega) (fun k e => by omega)).trans (hc.below (by omega) (fun k e => by omega)))⟩

set_option maxRecDepth 100000 in
set_option maxHeartbeats 1000000 in
theorem DrawPageSure_any (A0 : Option Addr) (n0 c0 : Nat) (bs : List UInt8) (w : World) (hnc : n0 ≤ c0) (hx : Rd byteS 0 w.heap.size w A0 n0 bs) :
    Calls Try.prog 36 #[.slice A0 n0 c0] w fun e w' => ∃ A n c l B m e0 r C q d page, e = .returned (.tuple #[.agg #[.slice A n c, .slice B m e0], .slice C q d]) ∧ DrM 0 w' A B n m l r ∧ DrP 0 w' C q page ∧ Below w.heap.size w w' := by
  have hx1 := hx.bl (bnew w (.cells #[.slice none 0 0, .slice none 0 0] 26))
  have HX := hid hx1
  clear hx1 hx
  go_enter Try.func36, Try.ntmps36
  go_wp2_with fail
  refine (l6Open_any A0 n0 c0 bs _ hnc HX.out).mono ?_
  rintro e w1 ⟨rfl, hr1, hb1, hs1⟩
  rw [World.size_alloc] at hr1 hs1
  have hres1 := (hb1.block w.heap.size (by simp)).trans (heap_alloc_new w (.cells #[.slice none 0 0, .slice none 0 0] 26))
  have HB1 := hid ((bnew w (.cells #[.slice none 0 0, .slice none 0 0] 26)).trans (hb1.mono (by simp)))
  have HR1 := hid hr1
  have hsz1 : w.heap.size + 1 < w1.heap.size := by omega
  clear hb1 hr1 hs1
  go_wp2_with fail
  refine (l92Both_any _ _ 0 HR1.out (by omega)).mono ?_
  rintro e w2 ⟨A, n, c, l, B, m, e0, r, C, q, d, page, p1, rfl, a1, a2, a3, a4, a5⟩
  have HDM := hid a1
  have HDP := hid a2
  clear a1 a2 a3 a4
  have hsz2 := a5.size
  have hres2 := (a5.block w.heap.size (by omega) (fun e => by omega)).trans hres1
  obtain ⟨rc0, rc1, rf0, rf1⟩ := at_get hres2
  have HRES := hid hres2
  have HC := hid a5
  clear hres1 hres2 a5
  go_wp2_with fail
  obtain ⟨k0, k1, _, _⟩ := at_get (at_set1 (v := .slice B m e0) (at_set0 (v := .slice A n c) HRES.out))
  have hc := ((Chg.refl (fun k => k = w.heap.size) w2).set (p := ⟨w.heap.size, 0, none⟩) rfl (.slice A n c)).set (p := ⟨w.heap.size, 1, none⟩) rfl (.slice B m e0)
  refine ⟨rfl, .tuple #[.agg #[.slice A n c, .slice B m e0], .slice C q d], by simp [results, Try.results36, go_sem, k0, k1], A, n, c, l, B, m, e0, r, C, q, d, page, rfl, (HDM.out.chg hc (fun k e => by omega)).low (Nat.zero_le _), (HDP.out.chg hc (fun k e => by omega)).low (Nat.zero_le _), HB1.out.trans ((HC.out.below (by omega) (fun k e => by omega)).trans (hc.below (by omega) (fun k e => by omega)))⟩

set_option maxRecDepth 100000 in
set_option maxHeartbeats 1000000 in
theorem DrawReadingWeight_any (A0 : Option Addr) (n0 c0 : Nat) (bs : List UInt8) (w : World) (hnc : n0 ≤ c0) (hx : Rd byteS 0 w.heap.size w A0 n0 bs) :
    Calls Try.prog 17 #[.slice A0 n0 c0] w fun e w' => ∃ A n c l B m e0 r C q d page E xs d2, e = .returned (.tuple #[.agg #[.slice A n c, .slice B m e0], .slice C q d, .slice E (List.length xs) d2]) ∧ DrM 0 w' A B n m l r ∧ DrP 0 w' C q page ∧ Rd intS 0 w'.heap.size w' E xs.length xs ∧ xs.length ≤ d2 ∧ xs.length ≤ 5 ∧ Below w.heap.size w w' := by
  have hx1 := hx.bl (bnew w (.cells #[.slice none 0 0, .slice none 0 0] 26))
  have HX := hid hx1
  clear hx1 hx
  go_enter Try.func17, Try.ntmps17
  go_wp2_with fail
  refine (l6Open_any A0 n0 c0 bs _ hnc HX.out).mono ?_
  rintro e w1 ⟨rfl, hr1, hb1, hs1⟩
  rw [World.size_alloc] at hr1 hs1
  have hres1 := (hb1.block w.heap.size (by simp)).trans (heap_alloc_new w (.cells #[.slice none 0 0, .slice none 0 0] 26))
  have HB1 := hid ((bnew w (.cells #[.slice none 0 0, .slice none 0 0] 26)).trans (hb1.mono (by simp)))
  have HR1 := hid hr1
  have hsz1 : w.heap.size + 1 < w1.heap.size := by omega
  clear hb1 hr1 hs1
  go_wp2_with fail
  refine (l92Reading_any _ _ 0 HR1.out (by omega)).mono ?_
  rintro e w2 ⟨A, n, c, l, B, m, e0, r, C, q, d, page, E, xs, d2, rfl, a1, a2, a3, a4, a6, a5⟩
  have HDM := hid a1
  have HDP := hid a2
  have HDL := hid a3
  clear a1 a2 a3
  have hsz2 := a5.size
  have hres2 := (a5.block w.heap.size (by omega) (fun e => by omega)).trans hres1
  obtain ⟨rc0, rc1, rf0, rf1⟩ := at_get hres2
  have HRES := hid hres2
  have HC := hid a5
  clear hres1 hres2 a5
  go_wp2_with fail
  obtain ⟨k0, k1, _, _⟩ := at_get (at_set1 (v := .slice B m e0) (at_set0 (v := .slice A n c) HRES.out))
  have hc := ((Chg.refl (fun k => k = w.heap.size) w2).set (p := ⟨w.heap.size, 0, none⟩) rfl (.slice A n c)).set (p := ⟨w.heap.size, 1, none⟩) rfl (.slice B m e0)
  refine ⟨rfl, .tuple #[.agg #[.slice A n c, .slice B m e0], .slice C q d, .slice E xs.length d2], by simp [results, Try.results17, go_sem, k0, k1], A, n, c, l, B, m, e0, r, C, q, d, page, E, xs, d2, rfl, (HDM.out.chg hc (fun k e => by omega)).low (Nat.zero_le _), (HDP.out.chg hc (fun k e => by omega)).low (Nat.zero_le _), (HDL.out.chg hc (Nat.le_refl _) (fun k e => .inr (by omega))).wide (Nat.zero_le _) hc.size, a4, a6, HB1.out.trans ((HC.out.below (by omega) (fun k e => by omega)).trans (hc.below (by omega) (fun k e => by omega)))⟩

set_option maxRecDepth 100000 in
set_option maxHeartbeats 1000000 in
theorem DrawReadingsRank_any (A0 : Option Addr) (n0 c0 : Nat) (bs : List UInt8) (w : World) (hnc : n0 ≤ c0) (hx : Rd byteS 0 w.heap.size w A0 n0 bs) :
    Calls Try.prog 30 #[.slice A0 n0 c0] w fun e w' => ∃ A n c l B m e0 r C q d page E xs d2, e = .returned (.tuple #[.agg #[.slice A n c, .slice B m e0], .slice C q d, .slice E (List.length xs) d2]) ∧ DrM 0 w' A B n m l r ∧ DrP 0 w' C q page ∧ Rd intS 0 w'.heap.size w' E xs.length xs ∧ xs.length ≤ d2 ∧ xs.length ≤ 5 ∧ Below w.heap.size w w' := by
  have hx1 := hx.bl (bnew w (.cells #[.slice none 0 0, .slice none 0 0] 26))
  have HX := hid hx1
  clear hx1 hx
  go_enter Try.func30, Try.ntmps30
  go_wp2_with fail
  refine (l6Open_any A0 n0 c0 bs _ hnc HX.out).mono ?_
  rintro e w1 ⟨rfl, hr1, hb1, hs1⟩
  rw [World.size_alloc] at hr1 hs1
  have hres1 := (hb1.block w.heap.size (by simp)).trans (heap_alloc_new w (.cells #[.slice none 0 0, .slice none 0 0] 26))
  have HB1 := hid ((bnew w (.cells #[.slice none 0 0, .slice none 0 0] 26)).trans (hb1.mono (by simp)))
  have HR1 := hid hr1
  have hsz1 : w.heap.size + 1 < w1.heap.size := by omega
  clear hb1 hr1 hs1
  go_wp2_with fail
  refine (l92Reading_any _ _ 0 HR1.out (by omega)).mono ?_
  rintro e w2 ⟨A, n, c, l, B, m, e0, r, C, q, d, page, E, xs, d2, rfl, a1, a2, a3, a4, a6, a5⟩
  have HDM := hid a1
  have HDP := hid a2
  have HDL := hid a3
  clear a1 a2 a3
  have hsz2 := a5.size
  have hres2 := (a5.block w.heap.size (by omega) (fun e => by omega)).trans hres1
  obtain ⟨rc0, rc1, rf0, rf1⟩ := at_get hres2
  have HRES := hid hres2
  have HC := hid a5
  clear hres1 hres2 a5
  go_wp2_with fail
  obtain ⟨k0, k1, _, _⟩ := at_get (at_set1 (v := .slice B m e0) (at_set0 (v := .slice A n c) HRES.out))
  have hc := ((Chg.refl (fun k => k = w.heap.size) w2).set (p := ⟨w.heap.size, 0, none⟩) rfl (.slice A n c)).set (p := ⟨w.heap.size, 1, none⟩) rfl (.slice B m e0)
  refine ⟨rfl, .tuple #[.agg #[.slice A n c, .slice B m e0], .slice C q d, .slice E xs.length d2], by simp [results, Try.results30, go_sem, k0, k1], A, n, c, l, B, m, e0, r, C, q, d, page, E, xs, d2, rfl, (HDM.out.chg hc (fun k e => by omega)).low (Nat.zero_le _), (HDP.out.chg hc (fun k e => by omega)).low (Nat.zero_le _), (HDL.out.chg hc (Nat.le_refl _) (fun k e => .inr (by omega))).wide (Nat.zero_le _) hc.size, a4, a6, HB1.out.trans ((HC.out.below (by omega) (fun k e => by omega)).trans (hc.below (by omega) (fun k e => by omega)))⟩

set_option maxRecDepth 100000 in
set_option maxHeartbeats 1000000 in
theorem DrawModelStates_any (A0 : Option Addr) (n0 c0 : Nat) (bs : List UInt8) (w : World) (hnc : n0 ≤ c0) (hx : Rd byteS 0 w.heap.size w A0 n0 bs) :
    Calls Try.prog 39 #[.slice A0 n0 c0] w fun e w' => ∃ A n c l B m e0 r K, e = .returned (.tuple #[.agg #[.slice A n c, .slice B m e0], .int .i64 K]) ∧ DrM 0 w' A B n m l r ∧ 0 ≤ K ∧ K ≤ 9 ∧ Below w.heap.size w w' := by
  have hx1 := hx.bl (bnew w (.cells #[.slice none 0 0, .slice none 0 0] 26))
  have HX := hid hx1
  clear hx1 hx
  go_enter Try.func39, Try.ntmps39
  go_wp2_with fail
  refine (l6Open_any A0 n0 c0 bs _ hnc HX.out).mono ?_
  rintro e w1 ⟨rfl, hr1, hb1, hs1⟩
  rw [World.size_alloc] at hr1 hs1
  have hres1 := (hb1.block w.heap.size (by simp)).trans (heap_alloc_new w (.cells #[.slice none 0 0, .slice none 0 0] 26))
  have HB1 := hid ((bnew w (.cells #[.slice none 0 0, .slice none 0 0] 26)).trans (hb1.mono (by simp)))
  have HR1 := hid hr1
  have hsz1 : w.heap.size + 1 < w1.heap.size := by omega
  clear hb1 hr1 hs1
  go_wp2_with fail
  refine (l92Model_any _ _ 0 HR1.out (by omega)).mono ?_
  rintro e w2 ⟨A, n, c, l, B, m, e0, r, p1, rfl, a1, a2, a3, a4, a6, a7, a8, a9, a5⟩
  have hd := hid (DrM.mk a1 a2 a3 a4 a6 a7)
  have HR2 := hid a9
  have ha5 := a5.size
  clear a1 a2 a3 a4 a6 a7 a9
  go_wp2_with fail
  refine (pick_any _ _ p1 10 HR2.out (by omega) (by omega) (by omega)).mono ?_
  rintro e w3 ⟨K, rfl, hK0, hK1, hr3, hc3⟩
  have hK2 := hK1 (by omega)
  have HDM := hid (hd.out.chg hc3 (fun k e => by omega))
  have a6 := a5.trans hc3
  clear hr3 hc3 hK1 a5 hd HR2
  have hsz2 := a6.size
  have hres2 := (a6.block w.heap.size (by omega) (fun e => by omega)).trans hres1
  obtain ⟨rc0, rc1, rf0, rf1⟩ := at_get hres2
  have HRES := hid hres2
  have HC := hid a6
  clear hres1 hres2 a6
  go_wp2_with fail
  obtain ⟨k0, k1, _, _⟩ := at_get (at_set1 (v := .slice B m e0) (at_set0 (v := .slice A n c) HRES.out))
  have hc := ((Chg.refl (fun k => k = w.heap.size) w3).set (p := ⟨w.heap.size, 0, none⟩) rfl (.slice A n c)).set (p := ⟨w.heap.size, 1, none⟩) rfl (.slice B m e0)
  refine ⟨rfl, .tuple #[.agg #[.slice A n c, .slice B m e0], .int .i64 K], by simp [results, Try.results39, go_sem, k0, k1], A, n, c, l, B, m, e0, r, K, rfl, (HDM.out.chg hc (fun k e => by omega)).low (Nat.zero_le _), hK0, by omega, HB1.out.trans ((HC.out.below (by omega) (fun k e => by omega)).trans (hc.below (by omega) (fun k e => by omega)))⟩

set_option maxRecDepth 100000 in
set_option maxHeartbeats 1000000 in
theorem DrawPageJoin_any (A0 : Option Addr) (n0 c0 : Nat) (bs : List UInt8) (w : World) (hnc : n0 ≤ c0) (hx : Rd byteS 0 w.heap.size w A0 n0 bs) :
    Calls Try.prog 42 #[.slice A0 n0 c0] w fun e w' => ∃ (N : Nat) (C : Option Addr) (q d : Nat) (pa : List (List Int)) (E : Option Addr) (u f : Nat) (pb : List (List Int)), e = .returned (.tuple #[.int .i64 N, .slice C q d, .slice E u f]) ∧ 1 ≤ N ∧ N ≤ 5 ∧ DrP 0 w' C q pa ∧ DrP 0 w' E u pb ∧ Below w.heap.size w w' := by
  have HX := hid hx
  clear hx
  go_enter Try.func42, Try.ntmps42
  go_wp2_with fail
  refine (l6Open_any A0 n0 c0 bs w hnc HX.out).mono ?_
  rintro e w1 ⟨rfl, hr1, hb1, hs1⟩
  have HR1 := hid hr1
  have HB1 := hid hb1
  have hsz1 : w.heap.size < w1.heap.size := by omega
  clear hr1 hb1 hs1
  go_wp2_with fail
  refine (pick_any _ _ 0 5 HR1.out (by omega) (by omega) (by omega)).mono ?_
  rintro e w2 ⟨v, rfl, hv0, hv1, hr2, hc2⟩
  obtain ⟨v, rfl⟩ := Int.eq_ofNat_of_zero_le hv0
  have hv2 := hv1 (by omega)
  have HR2 := hid hr2
  have HC2 := hid hc2
  have hsz2 := hc2.size
  clear hr2 hc2 hv1
  obtain ⟨N, hN⟩ : ∃ N : Nat, 1 + (v : Int) = (N : Int) := ⟨v + 1, by omega⟩
  have hN1 : 1 ≤ N := by omega
  have hN5 : N ≤ 5 := by omega
  go_wp2_with fail
  refine (l92Page_any _ N 5 _ _ HR2.out (by omega) (by omega) hN1 (by omega)).mono ?_
  rintro e w3 ⟨D, dd, rows, p3, rfl, hrd3, hrl, hr6, hp3, hr3, hc3⟩
  have HDA := hid (DrP.mk hrd3 hrl hr6)
  have HR3 := hid hr3
  have HC3 := hid hc3
  have hsz3 := hc3.size
  clear hrd3 hr6 hr3 hc3
  go_wp2_with fail
  refine (l92Page_any _ N 5 _ _ HR3.out (by omega) (by omega) hN1 (by omega)).mono ?_
  rintro e w4 ⟨D', dd', rows', p4, rfl, hrd4, hrl4, hr64, hp4, hr4, hc4⟩
  have HDB := hid (DrP.mk hrd4 hrl4 hr64)
  have HC4 := hid hc4
  clear hrd4 hr64 hr4 hc4
  go_wp2_with fail
  refine ⟨rfl, .tuple #[.int .i64 N, .slice D rows.length dd, .slice D' rows'.length dd'], by simp [results, Try.results42, go_sem], N, D, _, dd, rows, D', _, dd', rows', rfl, hN1, hN5, (HDA.out.chg HC4.out (fun k e => by omega)).low (Nat.zero_le _), HDB.out.low (Nat.zero_le _), HB1.out.trans ((HC2.out.below (by omega) (fun k e => by omega)).trans ((HC3.out.below (by omega) (fun k e => by omega)).trans (HC4.out.below (by omega) (fun k e => by omega))))⟩
end Go.Proofs.Ytfjoininagdlcaa
