/- A model and a page as they are drawn. -/
import Derived.Test.YtfjoininagdlcaaDrawM
namespace Go.Proofs.Ytfjoininagdlcaa
open Go.RowKit
/-- What a drawn model is. -/
structure DrM (lo : Nat) (w : World) (A B : Option Addr) (n m : Nat) (l : List Int) (r : List (List Int)) : Prop where
  hl : Rd intS lo w.heap.size w A n l
  hr : Rd (sliceS intS) lo w.heap.size w B m r
  n1 : 1 ≤ n
  n4 : n ≤ 4
  m4 : m ≤ 4
  r4 : ∀ q ∈ r, q.length ≤ 4
structure DrP (lo : Nat) (w : World) (C : Option Addr) (q : Nat) (page : List (List Int)) : Prop where
  hp : Rd (sliceS intS) lo w.heap.size w C q page
  q5 : q ≤ 5
  p6 : ∀ x ∈ page, x.length ≤ 6
theorem DrM.chg {lo : Nat} {w w' : World} {A B : Option Addr} {n m : Nat} {l : List Int} {r : List (List Int)} (h : DrM lo w A B n m l r) {D : Nat → Prop} (hc : Chg D w w') (hd : ∀ k, D k → k < lo) : DrM lo w' A B n m l r :=
  ⟨(h.hl.chg hc (Nat.le_refl _) (fun k e => .inr (hd k e))).wide (Nat.le_refl _) hc.size, (h.hr.chg hc (Nat.le_refl _) (fun k e => .inr (hd k e))).wide (Nat.le_refl _) hc.size, h.n1, h.n4, h.m4, h.r4⟩
theorem DrP.chg {lo : Nat} {w w' : World} {C : Option Addr} {q : Nat} {page : List (List Int)} (h : DrP lo w C q page) {D : Nat → Prop} (hc : Chg D w w') (hd : ∀ k, D k → k < lo) : DrP lo w' C q page :=
  ⟨(h.hp.chg hc (Nat.le_refl _) (fun k e => .inr (hd k e))).wide (Nat.le_refl _) hc.size, h.q5, h.p6⟩
theorem DrM.low {lo lo' : Nat} {w : World} {A B : Option Addr} {n m : Nat} {l : List Int} {r : List (List Int)} (h : DrM lo w A B n m l r) (hl : lo' ≤ lo) : DrM lo' w A B n m l r :=
  ⟨h.hl.wide hl (Nat.le_refl _), h.hr.wide hl (Nat.le_refl _), h.n1, h.n4, h.m4, h.r4⟩
theorem DrP.low {lo lo' : Nat} {w : World} {C : Option Addr} {q : Nat} {page : List (List Int)} (h : DrP lo w C q page) (hl : lo' ≤ lo) : DrP lo' w C q page := ⟨h.hp.wide hl (Nat.le_refl _), h.q5, h.p6⟩
set_option maxRecDepth 100000 in
set_option maxHeartbeats 2000000 in
theorem l92Both_any (rb : Nat) (w : World) (p : Nat) (h : Rdr rb w p) (hp : p ≤ 500) :
    Calls Try.prog 49 #[.pointer (some ⟨rb, 0, none⟩)] w fun e w' => ∃ A n c l B m e0 r C q d page p', e = .returned (.tuple #[.agg #[.slice A n c, .slice B m e0], .slice C q d]) ∧ DrM w.heap.size w' A B n m l r ∧ DrP w.heap.size w' C q page ∧ p' ≤ p + 400 ∧ Rdr rb w' p' ∧ Chg (fun k => k = rb) w w' := by
  have hrl := h.lt
  have HR := hid (h.keep ((bnew w (.cells #[.slice none 0 0, .slice none 0 0] 26)).mono hrl))
  clear h
  go_enter Try.func49, Try.ntmps49
  go_wp2_with fail
  refine (l92Model_any rb _ p HR.out (by omega)).mono ?_
  rintro e w1 ⟨A, n, c, l, B, m, e0, r, p1, rfl, a1, a2, a3, a4, a5, a6, a7, a8, a9⟩
  have hs1 := a9.size
  rw [World.size_alloc] at hs1 a1 a2
  have hn4 : n ≤ 4 := a4
  have hn1 : 1 ≤ n := a3
  have hp1 : p1 ≤ p + 200 := a7
  have DM := hid (DrM.mk a1 a2 a3 a4 a5 a6)
  have HR1 := hid a8
  have HRES := hid ((a9.block w.heap.size (by simp) (by omega)).trans (heap_alloc_new w (.cells #[.slice none 0 0, .slice none 0 0] 26)))
  have HC1 := hid ((chg_new _ _ _).trans a9)
  clear a1 a2 a3 a4 a5 a6 a7 a8 a9 HR
  go_wp2_with fail
  have b2 := bnew w1 (.cells #[.slice A n c, .slice B m e0] 26)
  have c2 := chgE w1 (.cells #[.slice A n c, .slice B m e0] 26)
  have HM := hid (heap_alloc_new w1 (.cells #[.slice A n c, .slice B m e0] 26))
  have HR2 := hid (HR1.out.keep (b2.mono (by omega)))
  have HRES2 := hid ((b2.block w.heap.size (by omega)).trans HRES.out)
  have DM2 := hid (DM.out.chg c2 (fun _ e => e.elim))
  have HC2 := hid (HC1.out.trans (c2.wide (fun _ e => e.elim)))
  have hs2 : (w1.alloc (.cells #[.slice A n c, .slice B m e0] 26)).heap.size = w1.heap.size + 1 := by simp
  clear b2 c2 HR1 HRES DM HC1
  generalize (w1.alloc (.cells #[.slice A n c, .slice B m e0] 26)) = w2 at *
  have hm2 : w1.heap.size < w2.heap.size := by omega
  refine wp_region_invH (by kernel_rfl) (by kernel_rfl) (fun L a X => ∃ v3 v7 v8 v9 v10 v11 v12 : Value, ∃ (q : Nat), a = { tmps := #[.pointer (some ⟨rb, 0, none⟩), undef, .pointer (some ⟨w.heap.size, 0, none⟩), v3, .pointer (some ⟨w1.heap.size, 0, none⟩), .pointer (some ⟨rb, 0, none⟩), .agg #[.slice A n c, .slice B m e0], v7, v8, v9, v10, v11, v12], defers := [] } ∧
    (Rdr rb X q) ∧ ((L 5 = false → q ≤ p1) ∧ q ≤ p1 + 200) ∧ (Chg (fun k => k = rb ∨ k = w.heap.size) w2 X) ∧ (L 6 = false → X.heap[w.heap.size]? = some (.cells #[.slice none 0 0, .slice none 0 0] 26 (0, 0))) ∧ (L 5 = false → L 7 = false) ∧ (L 0 = true → v7 = .agg #[.slice A n c, .slice B m e0]) ∧ (L 1 = true → v8 = .pointer (some ⟨rb, 0, none⟩)) ∧ (L 2 = true → v9 = .pointer (some ⟨w1.heap.size, 0, none⟩)) ∧ (L 3 = true → v10 = .slice A n c) ∧ (L 4 = true → v11 = .int .i64 n) ∧ (L 5 = true → ∃ C d page, v12 = .slice C (List.length page) d ∧ DrP w2.heap.size X C page.length page) ∧ (L 6 = true → X.heap[w.heap.size]? = some (.cells #[.slice A n c, .slice B m e0] 26 (0, 0))) ∧ (L 7 = true → v3 = v12)) ?_ ⟨?_, ?_, ?_, ?_, ?_, ?_, ?_, ?_, trivial⟩ ?_
  · exact ⟨_, _, _, _, _, _, _, p1, rfl, HR2.out.keep (Below.refl _ _).drew, ⟨fun _ => Nat.le_refl _, by omega⟩, (Chg.refl _ _).drew, fun _ => HRES2.out, fun _ => rfl, fun h => (by cases h), fun h => (by cases h), fun h => (by cases h), fun h => (by cases h), fun h => (by cases h), fun h => (by cases h), fun h => (by cases h), fun h => (by cases h)⟩
  · rintro L a X K0 ⟨v3, v7, v8, v9, v10, v11, v12, q, rfl, hR, hq, hC, hA, o1, f0, f1, f2, f3, f4, f5, f6, f7⟩ hL hd hK
    obtain ⟨q0, q1, _, _⟩ := at_get ((hC.block w1.heap.size hm2 (fun e => by omega)).trans HM.out)
    clear hd
    refine ⟨rfl, ?_⟩
    go_simp
    exact hK _ _ ⟨_, _, _, _, _, _, _, q, rfl, hR, hq, hC, hA, o1, fun _ => rfl, f1, f2, f3, f4, f5, f6, f7⟩
  · rintro L a X K0 ⟨v3, v7, v8, v9, v10, v11, v12, q, rfl, hR, hq, hC, hA, o1, f0, f1, f2, f3, f4, f5, f6, f7⟩ hL hd hK
    clear hd
    refine ⟨rfl, ?_⟩
    go_simp
    exact hK _ _ ⟨_, _, _, _, _, _, _, q, rfl, hR, hq, hC, hA, o1, f0, fun _ => rfl, f2, f3, f4, f5, f6, f7⟩
  · rintro L a X K0 ⟨v3, v7, v8, v9, v10, v11, v12, q, rfl, hR, hq, hC, hA, o1, f0, f1, f2, f3, f4, f5, f6, f7⟩ hL hd hK
    clear hd
    refine ⟨rfl, ?_⟩
    go_simp
    exact hK _ _ ⟨_, _, _, _, _, _, _, q, rfl, hR, hq, hC, hA, o1, f0, f1, fun _ => rfl, f3, f4, f5, f6, f7⟩
  · rintro L a X K0 ⟨v3, v7, v8, v9, v10, v11, v12, q, rfl, hR, hq, hC, hA, o1, f0, f1, f2, f3, f4, f5, f6, f7⟩ hL hd hK
    have d2 := hd ⟨2, .data⟩ (by simp) rfl
    obtain rfl := f2 d2
    obtain ⟨q0, q1, _, _⟩ := at_get ((hC.block w1.heap.size hm2 (fun e => by omega)).trans HM.out)
    clear hd
    refine ⟨rfl, ?_⟩
    go_simp
    exact hK _ _ ⟨_, _, _, _, _, _, _, q, rfl, hR, hq, hC, hA, o1, f0, f1, f2, fun _ => rfl, f4, f5, f6, f7⟩
  · rintro L a X K0 ⟨v3, v7, v8, v9, v10, v11, v12, q, rfl, hR, hq, hC, hA, o1, f0, f1, f2, f3, f4, f5, f6, f7⟩ hL hd hK
    have d3 := hd ⟨3, .data⟩ (by simp) rfl
    obtain rfl := f3 d3
    clear hd
    refine ⟨rfl, ?_⟩
    go_simp
    exact hK _ _ ⟨_, _, _, _, _, _, _, q, rfl, hR, hq, hC, hA, o1, f0, f1, f2, f3, fun _ => rfl, f5, f6, f7⟩
  · rintro L a X K0 ⟨v3, v7, v8, v9, v10, v11, v12, q, rfl, hR, hq, hC, hA, o1, f0, f1, f2, f3, f4, f5, f6, f7⟩ hL hd hK
    have d1 := hd ⟨1, .data⟩ (by simp) rfl
    obtain rfl := f1 d1
    have d4 := hd ⟨4, .data⟩ (by simp) rfl
    obtain rfl := f4 d4
    clear hd
    refine ⟨rfl, ?_⟩
    go_simp
    refine (l92Page_any rb n 5 X q hR (by have := hq.1 hL; omega) (by omega) hn1 (by omega)).mono ?_
    rintro e X2 ⟨D, dd, rows, p3, rfl, k1, k2, k3, k4, k5, hc⟩
    exact hK _ _ ⟨_, _, _, _, _, _, _, p3, rfl, k5, ⟨fun h => (by cases h), by have := hq.1 hL; omega⟩, hC.trans (hc.wide fun k h => .inl h), fun h => (hc.block w.heap.size (by have := hC.size; omega) (fun e => by omega)).trans (hA h), fun h => (by cases h), f0, f1, f2, f3, f4, fun _ => ⟨D, dd, rows, rfl, (DrP.mk k1 k2 k3).low hC.size⟩, fun h => (hc.block w.heap.size (by have := hC.size; omega) (fun e => by omega)).trans (f6 h), fun h => absurd ((o1 hL).symm.trans h) (by decide)⟩
  · rintro L a X K0 ⟨v3, v7, v8, v9, v10, v11, v12, q, rfl, hR, hq, hC, hA, o1, f0, f1, f2, f3, f4, f5, f6, f7⟩ hL hd hK
    have d0 := hd ⟨0, .data⟩ (by simp) rfl
    obtain rfl := f0 d0
    obtain ⟨r0, r1, r2, r3⟩ := at_get (hA hL)
    have hA0 := hA hL
    have hc := ((Chg.refl (fun k => k = w.heap.size) X).set (p := ⟨w.heap.size, 0, none⟩) rfl (.slice A n c)).set (p := ⟨w.heap.size, 1, none⟩) rfl (.slice B m e0)
    have hA1 := at_set1 (v := .slice B m e0) (at_set0 (v := .slice A n c) hA0)
    clear hd
    refine ⟨rfl, ?_⟩
    go_simp
    exact hK _ _ ⟨_, _, _, _, _, _, _, q, rfl, hR.chg hc (fun k hk e => by omega), hq, hC.trans (hc.wide fun k h => .inr h), fun h => (by cases h), o1, f0, f1, f2, f3, f4, fun h => (by obtain ⟨C, d, page, e, l⟩ := f5 h; exact ⟨C, d, page, e, l.chg hc (fun k e => by omega)⟩), fun _ => hA1, f7⟩
  · rintro L a X K0 ⟨v3, v7, v8, v9, v10, v11, v12, q, rfl, hR, hq, hC, hA, o1, f0, f1, f2, f3, f4, f5, f6, f7⟩ hL hd hK
    have d5 := hd ⟨5, .data⟩ (by simp) rfl
    obtain ⟨C, d, page, rfl, l5⟩ := f5 d5
    clear hd
    refine ⟨rfl, ?_⟩
    go_simp
    exact hK _ _ ⟨_, _, _, _, _, _, _, q, rfl, hR, hq, hC, hA, fun h => absurd (d5.symm.trans h) (by decide), f0, f1, f2, f3, f4, fun _ => ⟨C, d, page, rfl, l5⟩, f6, fun _ => rfl⟩
  · rintro L a X hLL ⟨v3, v7, v8, v9, v10, v11, v12, q, rfl, hR, hq, hC, hA, o1, f0, f1, f2, f3, f4, f5, f6, f7⟩
    obtain ⟨C, d, page, rfl, l5⟩ := f5 (hLL 5 (by simp))
    obtain rfl := f7 (hLL 7 (by simp))
    have h6 := f6 (hLL 6 (by simp))
    have hX := hC.size
    have hq2 := hq.2
    have HX := hid (And.intro l5 (And.intro hR hC))
    obtain ⟨r0, r1, _, _⟩ := at_get h6
    clear f0 f1 f2 f3 f4 f5 f6 f7 hA o1 hLL hq h6 l5 hR hC
    go_wp2_with fail
    refine ⟨rfl, .tuple #[.agg #[.slice A n c, .slice B m e0], .slice C page.length d], by simp [results, Try.results49, go_sem, r0, r1], A, n, c, l, B, m, e0, r, C, page.length, d, page, q, rfl, (DM2.out.chg HX.out.2.2 (fun k e => by omega)).low (by omega), HX.out.1.low (by omega), by omega, HX.out.2.1, chgN HC2.out HX.out.2.2 (fun k e => by omega)⟩
end Go.Proofs.Ytfjoininagdlcaa
