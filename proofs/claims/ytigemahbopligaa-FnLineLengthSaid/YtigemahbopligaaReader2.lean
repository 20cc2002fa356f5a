/- The draws of strokes and outlines. -/
import Derived.Test.YtigemahbopligaaReader
import Derived.Test.YtigemahbopligaaRegInv
import Derived.Deep.LoopGhost
namespace Go.Proofs.Ytigemahbopligaa
open Go.RowKit
def SmallI (z : Int) : Prop := -10 ≤ z ∧ z ≤ 10
def LowV (v : Value) : Prop := ∃ z : Nat, v = .int .i64 (z : Int) ∧ z < 3
def SmallV (v : Value) : Prop := ∃ z : Int, v = .int .i64 z ∧ SmallI z
def AggV (v : Value) : Prop := ∃ x y : Int, v = .agg #[.int .i64 x, .int .i64 y] ∧ SmallI x ∧ SmallI y
/-- A slice of three small numbers, in a block of its own. -/
def TabAt (rb B : Nat) (w : World) (v : Value) : Prop := ∃ b, v = .slice (some ⟨b, 0, none⟩) 3 3 ∧ b ≠ rb ∧ b ≠ B ∧ ∀ j, j < 3 → ∃ z, w.cell? ⟨b, j, none⟩ = some (.int .i64 z) ∧ SmallI z
def SpotAt (rb B : Nat) (w : World) (v : Value) : Prop := ∃ b j, v = .pointer (some ⟨b, j, none⟩) ∧ b ≠ rb ∧ b ≠ B ∧ ∃ z, w.cell? ⟨b, j, none⟩ = some (.int .i64 z) ∧ SmallI z
theorem TabAt.keep {rb B : Nat} {w w' : World} {v : Value} (h : TabAt rb B w v) (hc : Chg (fun k => k = rb ∨ k = B) w w') : TabAt rb B w' v := by
  obtain ⟨b, h1, h2, h3, h4⟩ := h
  refine ⟨b, h1, h2, h3, fun j hj => ?_⟩
  obtain ⟨z, h5, h6⟩ := h4 j hj
  exact ⟨z, hc.cell (by simp [h2, h3]) h5, h6⟩
theorem SpotAt.keep {rb B : Nat} {w w' : World} {v : Value} (h : SpotAt rb B w v) (hc : Chg (fun k => k = rb ∨ k = B) w w') : SpotAt rb B w' v := by
  obtain ⟨b, j, h1, h2, h3, z, h5, h6⟩ := h
  exact ⟨b, j, h1, h2, h3, z, hc.cell (by simp [h2, h3]) h5, h6⟩
theorem TabAt.new {rb B : Nat} (w : World) (x y z : Int) (e : Nat) (h1 : rb < w.heap.size) (h2 : B < w.heap.size) (hx : SmallI x) (hy : SmallI y) (hz : SmallI z) : TabAt rb B (w.alloc (.cells #[.int .i64 x, .int .i64 y, .int .i64 z] e)) (.slice (some ⟨w.heap.size, 0, none⟩) 3 3) := by
  refine ⟨_, rfl, by omega, by omega, fun j hj => ?_⟩
  rw [cell_of_row _ _ _ _ _ (0, 0) (heap_alloc_new w _)]
  match j, hj with
  | 0, _ => exact ⟨x, rfl, hx⟩
  | 1, _ => exact ⟨y, rfl, hy⟩
  | 2, _ => exact ⟨z, rfl, hz⟩
theorem TabAt.spot {rb B : Nat} {w : World} {b : Nat} (h : TabAt rb B w (.slice (some ⟨b, 0, none⟩) 3 3)) {j : Nat} (hj : j < 3) : SpotAt rb B w (.pointer (some ⟨b, j, none⟩)) := by
  obtain ⟨b', h1, h2, h3, h4⟩ := h
  injection h1 with h1
  injection h1 with h1
  injection h1 with h1
  subst h1
  exact ⟨b, j, rfl, h2, h3, h4 j hj⟩
theorem chg_over {D : Nat → Prop} {w w' : World} (h : Chg D w w') {B : Nat} (hB : w.heap.size ≤ B) (x y : Value) : Chg D w ((w'.setCell ⟨B, 0, none⟩ x).setCell ⟨B, 1, none⟩ y) := by
  have c := ((Chg.refl (fun k => k = B) w').set (p := ⟨B, 0, none⟩) rfl x).set (p := ⟨B, 1, none⟩) rfl y
  exact ⟨c.os.trans h.os, c.tape.trans h.tape, c.output.trans h.output, Nat.le_trans h.size c.size, fun k hk hd => (c.block k (Nat.lt_of_lt_of_le hk h.size) (by omega)).trans (h.block k hk hd)⟩
def bitN (b : Bool) : Nat := if b then 1 else 0
theorem count_pick2 {L : Nat → Bool} {p q : Nat} (hL : L 2 = false) (hq : q ≤ p + bitN (L 2) + bitN (L 7)) : q + 1 ≤ p + bitN (updL L 2 2) + bitN (updL L 2 7) := by
  have h1 : bitN (L 2) = 0 := by rw [hL]; rfl
  have h2 : bitN (updL L 2 2) = 1 := rfl
  have h3 : bitN (updL L 2 7) = bitN (L 7) := rfl
  omega
theorem count_pick7 {L : Nat → Bool} {p q : Nat} (hL : L 7 = false) (hq : q ≤ p + bitN (L 2) + bitN (L 7)) : q + 1 ≤ p + bitN (updL L 7 2) + bitN (updL L 7 7) := by
  have h1 : bitN (L 7) = 0 := by rw [hL]; rfl
  have h2 : bitN (updL L 7 7) = 1 := rfl
  have h3 : bitN (updL L 7 2) = bitN (L 2) := rfl
  omega
theorem Chg.trans' {D D' : Nat → Prop} {a b c : World} (h : Chg D a b) (k : Chg D' b c) : Chg (fun x => D x ∨ D' x) a c := (h.wide fun _ hx => .inl hx).trans (k.wide fun _ hx => .inr hx)
theorem Rdr.chg {rb : Nat} {w w' : World} {p : Nat} (h : Rdr rb w p) {D : Nat → Prop} (hc : Chg D w w') (hD : ∀ k, D k → rb < k) : Rdr rb w' p :=
  h.keep (hc.below (B := rb + 1) h.lt (fun k hk => hD k hk))
/-- What holds in whatever state of the drawn statement. -/
def StrI (rb B p : Nat) (w1 : World) (L : Nat → Bool) (a : Act) (w' : World) : Prop :=
  ∃ (v6 v7 v8 v9 v10 v11 v12 v13 v14 v15 v16 : Value) (q : Nat) (x y : Int), a = { tmps := #[.pointer (some ⟨rb, 0, none⟩), undef, .pointer (some ⟨B, 0, none⟩), .pointer (some ⟨rb, 0, none⟩), .int .i64 0, .bool true, v6, v7, v8, v9, v10, v11, v12, v13, v14, v15, v16, undef, undef, undef, undef, undef, undef], defers := [] } ∧
    Rdr rb w' q ∧ q ≤ p + bitN (L 2) + bitN (L 7) ∧ Chg (fun k => k = rb ∨ k = B) w1 w' ∧ w'.heap[B]? = some (.cells #[.int .i64 x, .int .i64 y] 64 (0, 0)) ∧ (L 11 = true → SmallI x ∧ SmallI y) ∧
    (L 0 = true → TabAt rb B w' v6) ∧
    (L 1 = true → v7 = .pointer (some ⟨rb, 0, none⟩)) ∧
    (L 2 = true → LowV v8) ∧
    (L 3 = true → SpotAt rb B w' v9) ∧
    (L 4 = true → SmallV v10) ∧
    (L 5 = true → TabAt rb B w' v11) ∧
    (L 6 = true → v12 = .pointer (some ⟨rb, 0, none⟩)) ∧
    (L 7 = true → LowV v13) ∧
    (L 8 = true → SpotAt rb B w' v14) ∧
    (L 9 = true → SmallV v15) ∧
    (L 10 = true → AggV v16)
set_option maxRecDepth 100000 in
set_option maxHeartbeats 4000000 in
theorem l91Stroke_any (rb : Nat) (w : World) (p : Nat) (h : Rdr rb w p) (hp : p ≤ 100000) :
    Calls Try.prog 72 #[.pointer (some ⟨rb, 0, none⟩)] w fun e w' => ∃ (a b : Int) (p' : Nat), e = .returned (.agg #[.int .i64 a, .int .i64 b]) ∧ p' ≤ p + 3 ∧ SmallI a ∧ SmallI b ∧ Rdr rb w' p' ∧ Chg (fun k => k = rb) w w' := by
  have H := hid h
  go_enter Try.func72, Try.ntmps72
  go_wp2_with fail
  refine (pick_any rb _ p 40 (H.out.keep ((Below.refl _ _).alloc (by have := H.out.lt; omega) _)) (by omega) (by omega) (by omega)).mono ?_
  rintro e w1 ⟨v, rfl, v0, v1, hr1, hc1⟩
  have HR1 := hid hr1
  have hlt := H.out.lt
  have hat := (hc1.block w.heap.size (by simp) (by omega)).trans (heap_alloc_new w (.cells #[.int .i64 0, .int .i64 0] 64))
  have hc0 : Chg (fun k => k = rb) w w1 := (chg_new w (.cells #[.int .i64 0, .int .i64 0] 64) _).trans hc1
  have hsz := hc1.size
  have hs1 : (w.alloc (.cells #[.int .i64 0, .int .i64 0] 64)).heap.size = w.heap.size + 1 := by simp
  rw [hs1] at hsz
  clear hr1 hc1 h hs1
  obtain ⟨B, hB⟩ : ∃ B, w.heap.size = B := ⟨_, rfl⟩
  have HBE := hid hB
  rw [hB] at hat hlt hsz
  have HAT := hid hat
  have HC0 := hid hc0
  clear hat hc0
  by_cases hv : v = 0
  case pos =>
    subst hv
    go_wp2_with fail
    try rw [hB]
    clear hB v0 v1
    refine wp_region_inv (by kernel_rfl) (by kernel_rfl) (StrI rb B (p + 1) w1) ?_ ⟨?_, ?_, ?_, ?_, ?_, ?_, ?_, ?_, ?_, ?_, ?_, ?_, trivial⟩ ?_
    · exact ⟨undef, undef, undef, undef, undef, undef, undef, undef, undef, undef, undef, p + 1, 0, 0, rfl, HR1.out.keep (Below.refl _ _).drew, by omega, (Chg.refl _ _).drew, HAT.out, (fun h => by cases h), (fun h => by cases h), (fun h => by cases h), (fun h => by cases h), (fun h => by cases h), (fun h => by cases h), (fun h => by cases h), (fun h => by cases h), (fun h => by cases h), (fun h => by cases h), (fun h => by cases h), (fun h => by cases h)⟩
    · rintro L a w' K ⟨v6, v7, v8, v9, v10, v11, v12, v13, v14, v15, v16, q, x, y, rfl, hR, hq, hC, hBB, f11, f0, f1, f2, f3, f4, f5, f6, f7, f8, f9, f10⟩ hL hd hK
      have hlt := hR.lt
      have hBlt := (Array.getElem?_eq_some_iff.1 hBB).1
      clear hd
      go_simp
      have hc2 := chg_new w' (.cells #[.int .i64 (-1), .int .i64 8, .int .i64 0] 3) (fun k => k = rb ∨ k = B)
      refine hK _ _ ⟨_, v7, v8, v9, v10, v11, v12, v13, v14, v15, v16, q, x, y, rfl, hR.keep ((Below.refl _ _).alloc (by omega) _), hq, hC.trans hc2, ((bnew w' _).block B hBlt).trans hBB, f11, fun _ => TabAt.new w' (-1) 8 0 _ hlt hBlt (by unfold SmallI; omega) (by unfold SmallI; omega) (by unfold SmallI; omega), f1, f2, fun h => (f3 h).keep hc2, f4, fun h => (f5 h).keep hc2, f6, f7, fun h => (f8 h).keep hc2, f9, f10⟩
    · rintro L a w' K ⟨v6, v7, v8, v9, v10, v11, v12, v13, v14, v15, v16, q, x, y, rfl, hR, hq, hC, hBB, f11, f0, f1, f2, f3, f4, f5, f6, f7, f8, f9, f10⟩ hL hd hK
      have hlt := hR.lt
      have hBlt := (Array.getElem?_eq_some_iff.1 hBB).1
      clear hd
      go_simp
      refine hK _ _ ⟨v6, _, v8, v9, v10, v11, v12, v13, v14, v15, v16, q, x, y, rfl, hR, hq, hC, hBB, f11, f0, fun _ => rfl, f2, f3, f4, f5, f6, f7, f8, f9, f10⟩
    · rintro L a w' K ⟨v6, v7, v8, v9, v10, v11, v12, v13, v14, v15, v16, q, x, y, rfl, hR, hq, hC, hBB, f11, f0, f1, f2, f3, f4, f5, f6, f7, f8, f9, f10⟩ hL hd hK
      have hlt := hR.lt
      have hBlt := (Array.getElem?_eq_some_iff.1 hBB).1
      obtain rfl := f1 (hd ⟨1, .data⟩ (by simp) rfl)
      go_simp
      refine (pick_any rb w' q 3 hR (by have := hq; unfold bitN at this; split at this <;> split at this <;> omega) (by omega) (by omega)).mono ?_
      rintro e w2 ⟨z, rfl, z0, z1, hr2, hc1⟩
      have hc2 := hc1.wide (D' := fun k => k = rb ∨ k = B) fun k hk => .inl hk
      refine hK _ _ ⟨v6, _, _, v9, v10, v11, v12, v13, v14, v15, v16, q + 1, x, y, rfl, hr2, count_pick2 hL hq, hC.trans hc2, (hc1.block B hBlt (by omega)).trans hBB, f11, fun h => (f0 h).keep hc2, f1, fun _ => ⟨z.toNat, by rw [Int.toNat_of_nonneg z0], by have := z1 (by omega); omega⟩, fun h => (f3 h).keep hc2, f4, fun h => (f5 h).keep hc2, f6, f7, fun h => (f8 h).keep hc2, f9, f10⟩
    · rintro L a w' K ⟨v6, v7, v8, v9, v10, v11, v12, v13, v14, v15, v16, q, x, y, rfl, hR, hq, hC, hBB, f11, f0, f1, f2, f3, f4, f5, f6, f7, f8, f9, f10⟩ hL hd hK
      have hlt := hR.lt
      have hBlt := (Array.getElem?_eq_some_iff.1 hBB).1
      obtain ⟨b, rfl, t1, t2, t3⟩ := f0 (hd ⟨0, .data⟩ (by simp) rfl)
      obtain ⟨z, rfl, hz⟩ := f2 (hd ⟨2, .data⟩ (by simp) rfl)
      have hzi : (z : Int) < 3 := by omega
      go_simp
      refine hK _ _ ⟨_, v7, _, _, v10, v11, v12, v13, v14, v15, v16, q, x, y, rfl, hR, hq, hC, hBB, f11, f0, f1, f2, fun _ => ⟨b, z, rfl, t1, t2, t3 z hz⟩, f4, f5, f6, f7, f8, f9, f10⟩
    · rintro L a w' K ⟨v6, v7, v8, v9, v10, v11, v12, v13, v14, v15, v16, q, x, y, rfl, hR, hq, hC, hBB, f11, f0, f1, f2, f3, f4, f5, f6, f7, f8, f9, f10⟩ hL hd hK
      have hlt := hR.lt
      have hBlt := (Array.getElem?_eq_some_iff.1 hBB).1
      obtain ⟨b, j, rfl, t1, t2, z, hz, hsz⟩ := f3 (hd ⟨3, .data⟩ (by simp) rfl)
      go_simp
      refine hK _ _ ⟨v6, v7, v8, _, _, v11, v12, v13, v14, v15, v16, q, x, y, rfl, hR, hq, hC, hBB, f11, f0, f1, f2, f3, fun _ => ⟨z, rfl, hsz⟩, f5, f6, f7, f8, f9, f10⟩
    · rintro L a w' K ⟨v6, v7, v8, v9, v10, v11, v12, v13, v14, v15, v16, q, x, y, rfl, hR, hq, hC, hBB, f11, f0, f1, f2, f3, f4, f5, f6, f7, f8, f9, f10⟩ hL hd hK
      have hlt := hR.lt
      have hBlt := (Array.getElem?_eq_some_iff.1 hBB).1
      clear hd
      go_simp
      have hc2 := chg_new w' (.cells #[.int .i64 (0), .int .i64 4, .int .i64 1] 3) (fun k => k = rb ∨ k = B)
      refine hK _ _ ⟨v6, v7, v8, v9, v10, _, v12, v13, v14, v15, v16, q, x, y, rfl, hR.keep ((Below.refl _ _).alloc (by omega) _), hq, hC.trans hc2, ((bnew w' _).block B hBlt).trans hBB, f11, fun h => (f0 h).keep hc2, f1, f2, fun h => (f3 h).keep hc2, f4, fun _ => TabAt.new w' (0) 4 1 _ hlt hBlt (by unfold SmallI; omega) (by unfold SmallI; omega) (by unfold SmallI; omega), f6, f7, fun h => (f8 h).keep hc2, f9, f10⟩
    · rintro L a w' K ⟨v6, v7, v8, v9, v10, v11, v12, v13, v14, v15, v16, q, x, y, rfl, hR, hq, hC, hBB, f11, f0, f1, f2, f3, f4, f5, f6, f7, f8, f9, f10⟩ hL hd hK
      have hlt := hR.lt
      have hBlt := (Array.getElem?_eq_some_iff.1 hBB).1
      clear hd
      go_simp
      refine hK _ _ ⟨v6, v7, v8, v9, v10, v11, _, v13, v14, v15, v16, q, x, y, rfl, hR, hq, hC, hBB, f11, f0, f1, f2, f3, f4, f5, fun _ => rfl, f7, f8, f9, f10⟩
    · rintro L a w' K ⟨v6, v7, v8, v9, v10, v11, v12, v13, v14, v15, v16, q, x, y, rfl, hR, hq, hC, hBB, f11, f0, f1, f2, f3, f4, f5, f6, f7, f8, f9, f10⟩ hL hd hK
      have hlt := hR.lt
      have hBlt := (Array.getElem?_eq_some_iff.1 hBB).1
      obtain rfl := f6 (hd ⟨6, .data⟩ (by simp) rfl)
      go_simp
      refine (pick_any rb w' q 3 hR (by have := hq; unfold bitN at this; split at this <;> split at this <;> omega) (by omega) (by omega)).mono ?_
      rintro e w2 ⟨z, rfl, z0, z1, hr2, hc1⟩
      have hc2 := hc1.wide (D' := fun k => k = rb ∨ k = B) fun k hk => .inl hk
      refine hK _ _ ⟨v6, v7, v8, v9, v10, v11, _, _, v14, v15, v16, q + 1, x, y, rfl, hr2, count_pick7 hL hq, hC.trans hc2, (hc1.block B hBlt (by omega)).trans hBB, f11, fun h => (f0 h).keep hc2, f1, f2, fun h => (f3 h).keep hc2, f4, fun h => (f5 h).keep hc2, f6, fun _ => ⟨z.toNat, by rw [Int.toNat_of_nonneg z0], by have := z1 (by omega); omega⟩, fun h => (f8 h).keep hc2, f9, f10⟩
    · rintro L a w' K ⟨v6, v7, v8, v9, v10, v11, v12, v13, v14, v15, v16, q, x, y, rfl, hR, hq, hC, hBB, f11, f0, f1, f2, f3, f4, f5, f6, f7, f8, f9, f10⟩ hL hd hK
      have hlt := hR.lt
      have hBlt := (Array.getElem?_eq_some_iff.1 hBB).1
      obtain ⟨b, rfl, t1, t2, t3⟩ := f5 (hd ⟨5, .data⟩ (by simp) rfl)
      obtain ⟨z, rfl, hz⟩ := f7 (hd ⟨7, .data⟩ (by simp) rfl)
      have hzi : (z : Int) < 3 := by omega
      go_simp
      refine hK _ _ ⟨v6, v7, v8, v9, v10, _, v12, _, _, v15, v16, q, x, y, rfl, hR, hq, hC, hBB, f11, f0, f1, f2, f3, f4, f5, f6, f7, fun _ => ⟨b, z, rfl, t1, t2, t3 z hz⟩, f9, f10⟩
    · rintro L a w' K ⟨v6, v7, v8, v9, v10, v11, v12, v13, v14, v15, v16, q, x, y, rfl, hR, hq, hC, hBB, f11, f0, f1, f2, f3, f4, f5, f6, f7, f8, f9, f10⟩ hL hd hK
      have hlt := hR.lt
      have hBlt := (Array.getElem?_eq_some_iff.1 hBB).1
      obtain ⟨b, j, rfl, t1, t2, z, hz, hsz⟩ := f8 (hd ⟨8, .data⟩ (by simp) rfl)
      go_simp
      refine hK _ _ ⟨v6, v7, v8, v9, v10, v11, v12, v13, _, _, v16, q, x, y, rfl, hR, hq, hC, hBB, f11, f0, f1, f2, f3, f4, f5, f6, f7, f8, fun _ => ⟨z, rfl, hsz⟩, f10⟩
    · rintro L a w' K ⟨v6, v7, v8, v9, v10, v11, v12, v13, v14, v15, v16, q, x, y, rfl, hR, hq, hC, hBB, f11, f0, f1, f2, f3, f4, f5, f6, f7, f8, f9, f10⟩ hL hd hK
      have hlt := hR.lt
      have hBlt := (Array.getElem?_eq_some_iff.1 hBB).1
      obtain ⟨z, rfl, hz⟩ := f4 (hd ⟨4, .data⟩ (by simp) rfl)
      obtain ⟨z2, rfl, hz2⟩ := f9 (hd ⟨9, .data⟩ (by simp) rfl)
      go_simp
      refine hK _ _ ⟨v6, v7, v8, v9, _, v11, v12, v13, v14, _, _, q, x, y, rfl, hR, hq, hC, hBB, f11, f0, f1, f2, f3, f4, f5, f6, f7, f8, f9, fun _ => ⟨z, z2, rfl, hz, hz2⟩⟩
    · rintro L a w' K ⟨v6, v7, v8, v9, v10, v11, v12, v13, v14, v15, v16, q, x, y, rfl, hR, hq, hC, hBB, f11, f0, f1, f2, f3, f4, f5, f6, f7, f8, f9, f10⟩ hL hd hK
      have hlt := hR.lt
      have hBlt := (Array.getElem?_eq_some_iff.1 hBB).1
      obtain ⟨z, z2, rfl, hz, hz2⟩ := f10 (hd ⟨10, .data⟩ (by simp) rfl)
      obtain ⟨k0, k1, g0, g1⟩ := at_get hBB
      go_simp
      have hc2 := ((Chg.refl (fun k => k = rb ∨ k = B) w').set (p := ⟨B, 0, none⟩) (.inr rfl) (.int .i64 z)).set (p := ⟨B, 1, none⟩) (.inr rfl) (.int .i64 z2)
      refine hK _ _ ⟨v6, v7, v8, v9, v10, v11, v12, v13, v14, v15, _, q, z, z2, rfl, hR.chg (((Chg.refl (fun k => k = B) w').set (p := ⟨B, 0, none⟩) rfl (.int .i64 z)).set (p := ⟨B, 1, none⟩) rfl (.int .i64 z2)) (fun k hk => by omega), hq, hC.trans hc2, at_set1 (at_set0 hBB), fun _ => ⟨hz, hz2⟩, fun h => (f0 h).keep hc2, f1, f2, fun h => (f3 h).keep hc2, f4, fun h => (f5 h).keep hc2, f6, f7, fun h => (f8 h).keep hc2, f9, f10⟩
    · rintro L a w' hL ⟨v6, v7, v8, v9, v10, v11, v12, v13, v14, v15, v16, q, x, y, rfl, hR, hq, hC, hBB, f11, -⟩
      have hsm := f11 (hL 11 (by decide))
      have e2 := hL 2 (by decide)
      have e7 := hL 7 (by decide)
      have hq2 : q ≤ p + 3 := by rw [e2, e7] at hq; simp only [bitN, if_true] at hq; omega
      clear f11 hL e2 e7 hq
      obtain ⟨k0, k1, g0, g1⟩ := at_get hBB
      have HR := hid hR
      have HH := hid (show Chg (fun k => k = rb) w w' from ⟨(HC0.out.trans' hC).os, (HC0.out.trans' hC).tape, (HC0.out.trans' hC).output, (HC0.out.trans' hC).size, fun k hk hd => (HC0.out.trans' hC).block k hk (by have := HBE.out; intro hh; rcases hh with hh | hh <;> omega)⟩)
      clear hR hC hBB
      go_wp2
      refine bodyPost_ret (v := .agg #[.int .i64 x, .int .i64 y]) ?_ rfl ?_
      · simp [results, Try.results72, go_sem, k0, k1]
      · exact ⟨x, y, q, rfl, hq2, hsm.1, hsm.2, HR.out, HH.out⟩
  case neg =>
    have hv1 : (v == 0) = false := by simpa using hv
    clear hv
    go_wp2_with fail
    refine (pick_any rb _ (p + 1) 8 HR1.out (by omega) (by omega) (by omega)).mono ?_
    rintro e w2 ⟨x, rfl, x0, x1, hr2, hc2⟩
    have x2 := x1 (by omega)
    have HR2 := hid hr2
    have HC2 := hid hc2
    clear hr2 hc2 x1
    go_wp2_with fail
    refine (pick_any rb _ (p + 1 + 1) 3 HR2.out (by omega) (by omega) (by omega)).mono ?_
    rintro e w3 ⟨y, rfl, y0, y1, hr3, hc3⟩
    have y2 := y1 (by omega)
    have HR3 := hid hr3
    have hbb := (hc3.block B (by have := HC2.out.size; omega) (by omega)).trans ((HC2.out.block B (by omega) (by omega)).trans HAT.out)
    have HC3 := hid (HC0.out.trans (HC2.out.trans hc3))
    have HBB := hid hbb
    obtain ⟨k0, k1, g0, g1⟩ := at_get hbb
    clear hr3 hc3 y1 hbb
    go_wp2_with fail
    obtain ⟨l0, l1, _, _⟩ := at_get (at_set1 (v := .int .i64 (1 + y)) (at_set0 (v := .int .i64 x) HBB.out))
    have HH := hid (chg_over HC3.out (B := B) (by have := HBE.out; omega) (.int .i64 x) (.int .i64 (1 + y)))
    refine bodyPost_ret (v := .agg #[.int .i64 x, .int .i64 (1 + y)]) ?_ rfl ?_
    · simp [results, Try.results72, go_sem, l0, l1]
    · exact ⟨x, 1 + y, p + 1 + 1 + 1, rfl, by omega, ⟨by omega, by omega⟩, ⟨by omega, by omega⟩, HR3.out.chg (((Chg.refl (fun k => k = B) w3).set (p := ⟨B, 0, none⟩) rfl (.int .i64 x)).set (p := ⟨B, 1, none⟩) rfl (.int .i64 (1 + y))) (fun k hk => by omega), HH.out⟩
end Go.Proofs.Ytigemahbopligaa
