/- Systems as they are drawn; a system and a dictionary. -/
import Derived.Test.YtigemahbopligaaDrawD
import Derived.Test.YtigemahbopligaaSAdd
import Derived.Test.YtigemahbopligaaWords3
namespace Go.Proofs.Ytigemahbopligaa
open Go.RowKit
attribute [local go_sem] Oper.semAt_some
theorem count_p6 {L : Nat → Bool} {p q : Nat} (hL : L 6 = false) (hq : q ≤ p + bitN (L 6) + bitN (L 8)) : q + 1 ≤ p + bitN (updL L 6 6) + bitN (updL L 6 8) := by
  have h1 : bitN (L 6) = 0 := by rw [hL]; rfl
  have h2 : bitN (updL L 6 6) = 1 := rfl
  have h3 : bitN (updL L 6 8) = bitN (L 8) := rfl
  omega
theorem count_p8 {L : Nat → Bool} {p q : Nat} (hL : L 8 = false) (hq : q ≤ p + bitN (L 6) + bitN (L 8)) : q + 1 ≤ p + bitN (updL L 8 6) + bitN (updL L 8 8) := by
  have h1 : bitN (L 8) = 0 := by rw [hL]; rfl
  have h2 : bitN (updL L 8 8) = 1 := rfl
  have h3 : bitN (updL L 8 6) = bitN (L 6) := rfl
  omega
theorem count_b (L : Nat → Bool) : bitN (L 6) ≤ 1 ∧ bitN (L 8) ≤ 1 := by
  constructor
  · cases L 6 <;> decide
  · cases L 8 <;> decide
theorem count_b2 {L : Nat → Bool} {p q : Nat} (hq : q ≤ p + bitN (L 6) + bitN (L 8)) : q ≤ p + 2 := by
  have := count_b L
  omega
/-- A store into the first element of a row of the call's own. -/
theorem OwnR.setF {α : Type} [Inhabited α] {S : Shape α} (hf : S.flat) {base : Nat} {w : World} {e : TypeId} {g n c : Nat} {l : List α} (h : OwnR S base w e (.slice (some ⟨g, 0, none⟩) n c) l) (hn : 0 < l.length) (j : Nat) (hj : j < S.sz) (v : Value) (y : α)
    (hy : ∀ D w' f, S.E D w' (gt l 0) f → S.E D w' y (fun t => if t = j then v else f t)) :
    OwnR S base (w.setCell ⟨g, j, none⟩ v) e (.slice (some ⟨g, 0, none⟩) n c) (l.set 0 y) := by
  obtain ⟨xs, ⟨hl, h2⟩, hx⟩ := h
  rcases h2 with ⟨h3, h0⟩ | ⟨g', cap, cur, h3, hg, hh, hc, hcm, hcs, htake⟩
  · injection h3 with a1 a2 a3
    cases a1
  · injection h3 with a1 a2 a3
    injection a1 with a1
    injection a1 with a1
    subst a1 a2 a3
    refine ⟨xs.set j v, ⟨by rw [List.length_set, List.length_set]; exact hl, .inr ⟨g, c, cur.setIfInBounds j v, by rw [List.length_set], hg, heap_setCell_same w g _ cur e _ hh, by rw [List.length_set]; exact hc, hcm, by rw [Array.size_setIfInBounds]; exact hcs, ?_⟩⟩, fun k hk => ?_⟩
    · rw [List.length_set, Array.toList_setIfInBounds, List.take_set, htake]
    · rw [List.length_set] at hk
      obtain ⟨f, hf1, he⟩ := hx k hk
      by_cases hk0 : k = 0
      · subst hk0
        have e1 : gt (l.set 0 y) 0 = y := by simp [gt, hn]
        rw [e1]
        refine ⟨fun t => if t = j then v else f t, fun t ht => ?_, hf _ _ _ _ _ _ (hy _ _ _ he)⟩
        have h5 := hf1 t ht
        rw [Nat.zero_mul, Nat.zero_add] at h5 ⊢
        rw [List.getElem?_set]
        by_cases htj : t = j
        · subst htj
          rw [if_pos rfl, if_pos (List.getElem?_eq_some_iff.1 h5).1]
          show some v = some (if t = t then v else f t)
          rw [if_pos rfl]
        · rw [if_neg (fun e => htj e.symm)]
          show xs[t]? = some (if t = j then v else f t)
          rw [if_neg htj]
          exact h5
      · have e1 : gt (l.set 0 y) k = gt l k := by simp [gt, List.getElem?_set, Ne.symm hk0]
        rw [e1]
        refine ⟨f, fun t ht => ?_, hf _ _ _ _ _ _ he⟩
        have h6 : S.sz ≤ k * S.sz := Nat.le_mul_of_pos_left _ (by omega)
        rw [List.getElem?_set, if_neg (by omega)]
        exact hf1 t ht
/-- What the first cell of a row of the call's own lets be done. -/
theorem OwnR.at0 {α : Type} [Inhabited α] {S : Shape α} {base : Nat} {w : World} {e : TypeId} {g n c : Nat} {l : List α} (h : OwnR S base w e (.slice (some ⟨g, 0, none⟩) n c) l) (hn : 0 < l.length) {j : Nat} (hj : j < S.sz) : (∃ v, w.cell? ⟨g, j, none⟩ = some v) ∧ w.frozen? ⟨g, j, none⟩ = false ∧ g < w.heap.size ∧ base ≤ g := by
  obtain ⟨xs, ⟨hl, h2⟩, hx⟩ := h
  rcases h2 with ⟨h3, h0⟩ | ⟨g', cap, cur, h3, hg, hh, hc, hcm, hcs, htake⟩
  · injection h3 with a1 a2 a3
    cases a1
  · injection h3 with a1 a2 a3
    injection a1 with a1
    injection a1 with a1
    subst a1 a2 a3
    have hsz : j < cur.size := by
      rw [hcs]
      have h6 : S.sz ≤ c * S.sz := Nat.le_mul_of_pos_left _ (by omega)
      omega
    refine ⟨⟨cur[j], ?_⟩, frozen_of_row _ _ _ _ _ hh, (Array.getElem?_eq_some_iff.1 hh).1, hg⟩
    rw [cell_of_row w g _ cur e (0, 0) hh]
    exact Array.getElem?_eq_getElem hsz
/-- A drawn system. -/
def DrawnY (rb p : Nat) (w : World) (e : Ending) (w' : World) : Prop :=
  ∃ A c l p', e = .returned (.slice A (List.length l) c) ∧ OwnR signS w.heap.size w' 100 (.slice A (List.length l) c) l ∧ List.length l ≤ 10 ∧ p' ≤ p + 40 ∧ Rdr rb w' p' ∧ Chg (fun k => k = rb) w w'
set_option maxRecDepth 100000 in
set_option maxHeartbeats 8000000 in
theorem l91System_any (rb p : Nat) (w : World) (h : Rdr rb w p) (hp : p ≤ 500) :
    Calls Try.prog 75 #[.pointer (some ⟨rb, 0, none⟩)] w (DrawnY rb p w) := by
  obtain ⟨i0, hi1, hz0, hz1, hz2⟩ := info_parts (show (Try.prog.info? 100).map (fun i => (i.zero, i.size, i.bytes)) = some (some (.agg #[.string ⟨#[]⟩, .int .i64 0, .int .i64 0]), 3, 32) by kernel_rfl)
  have HI := hid (And.intro hi1 (And.intro hz0 (And.intro hz1 hz2)))
  have hrl := h.lt
  clear hi1 hz0 hz1 hz2
  have b0 := bal (bnew w (.cells #[] 100)) (.cells #[.string ⟨#[98]⟩, .string ⟨#[100]⟩, .string ⟨#[116]⟩, .string ⟨#[110]⟩, .string ⟨#[115]⟩, .string ⟨#[114]⟩] 9)
  have n0 := heap_new2 w (.cells #[] 100) (.cells #[.string ⟨#[98]⟩, .string ⟨#[100]⟩, .string ⟨#[116]⟩, .string ⟨#[110]⟩, .string ⟨#[115]⟩, .string ⟨#[114]⟩] 9)
  have ol := (OwnR.nil (S := signS) (e := 100) (base := w.heap.size) (w := w) (Nat.le_refl _) #[] rfl).al (.cells #[.string ⟨#[98]⟩, .string ⟨#[100]⟩, .string ⟨#[116]⟩, .string ⟨#[110]⟩, .string ⟨#[115]⟩, .string ⟨#[114]⟩] 9)
  obtain ⟨w0, hw0⟩ : ∃ w0, (w.alloc (.cells #[] 100)).alloc (.cells #[.string ⟨#[98]⟩, .string ⟨#[100]⟩, .string ⟨#[116]⟩, .string ⟨#[110]⟩, .string ⟨#[115]⟩, .string ⟨#[114]⟩] 9) = w0 := ⟨_, rfl⟩
  rw [hw0] at b0 n0 ol
  have HW0 := hid hw0
  have HR := hid (h.chgR b0)
  have HOL := hid ol
  have HC0 := hid (chgW (D := fun k => k = rb) b0)
  have HN0 := hid n0
  clear h b0 n0 ol hw0
  obtain ⟨lb, hlb⟩ : ∃ lb, w.heap.size + 1 = lb := ⟨_, rfl⟩
  go_enter Try.func75, Try.ntmps75
  go_wp2_with fail
  rw [HW0.out]
  rw [hlb] at HN0
  have hlr : ¬ lb = rb := by omega
  have hlbw : w.heap.size < lb := by omega
  clear hlb
  refine (pick_any rb _ p 7 HR.out (by omega) (by omega) (by omega)).mono ?_
  rintro e w1 ⟨v, rfl, hv0, hv1, hr1, hc1⟩
  obtain ⟨N, rfl⟩ := Int.eq_ofNat_of_zero_le hv0
  have hN : N ≤ 6 := by have := hv1 (by omega); omega
  have HR1 := hid hr1
  have HO1 := hid (HOL.out.chg hc1 (fun k hk => by omega))
  have HC1 := hid (HC0.out.trans hc1)
  have HLB := hid ((hc1.block lb (Array.getElem?_eq_some_iff.1 HN0.out).1 hlr).trans HN0.out)
  clear hv0 hv1 hr1 hc1
  go_wp2_with fail
  go_loopg [3, 6, 7, 8] N (fun gk l3 i _ _ wr => ∃ (k g c5 : Nat) (l : List SignT) (q : Nat), k + gk = N ∧ i = .int .i64 k ∧ l3 = .slice (some ⟨g, 0, none⟩) l.length c5 ∧ OwnR signS w.heap.size wr 100 (.slice (some ⟨g, 0, none⟩) l.length c5) l ∧ l.length ≤ k ∧ q ≤ p + 1 + 2 * k ∧ Rdr rb wr q ∧ Chg (fun k => k = rb) w wr ∧ wr.heap[lb]? = w1.heap[lb]?)
  case atStart => exact ⟨0, _, _, [], p + 1, Nat.zero_add _, rfl, rfl, HO1.out, Nat.le_refl _, Nat.le_refl _, HR1.out, HC1.out, rfl⟩
  case round =>
    clear HO1 HR1 HC1 HOL HC0 HR
    obtain ⟨k, g, c5, l, q0, hkg, rfl, rfl, hO, hll, hq, hr, hc, hlb⟩ := hrel
    have HKG := hid hkg
    have HO := hid hO
    have HRR := hid hr
    have HC := hid hc
    have HLX := hid (hlb.trans HLB.out)
    have hk : k ≤ N := by omega
    have hl8 : l.length ≤ 6 := by omega
    have hwz := hc.size
    clear hkg hO hr hc hlb
    by_cases hlt : k < N
    case pos =>
      have hki : (k : Int) < (N : Int) := by omega
      have hk6 : k < 6 := by omega
      have hk6i : (k : Int) < 6 := by omega
      have HLT := hid (show ∀ j, j < 6 → ∃ a : ByteArray, wr.cell? ⟨lb, j, none⟩ = some (.string a) ∧ a.size ≤ 20 from fun j hj => by
        rw [cell_of_row wr lb j _ _ (0, 0) HLX.out]
        match j, hj with
        | 0, _ => exact ⟨_, rfl, by decide⟩
        | 1, _ => exact ⟨_, rfl, by decide⟩
        | 2, _ => exact ⟨_, rfl, by decide⟩
        | 3, _ => exact ⟨_, rfl, by decide⟩
        | 4, _ => exact ⟨_, rfl, by decide⟩
        | 5, _ => exact ⟨_, rfl, by decide⟩)
      go_wp2_with fail
      refine wp_region_invH (by kernel_rfl) (by kernel_rfl) (fun L act X => ∃ v7 v8 v18 v19 v20 v21 v22 v23 v24 v25 v26 v27 v28 v29 v30 v31 v32 v33 : Value, ∃ (q : Nat), act = { tmps := #[.pointer (some ⟨rb, 0, none⟩), undef, .slice none 0 0, .slice (some ⟨g, 0, none⟩) l.length c5, .slice (some ⟨lb, 0, none⟩) 6 6, .int .i64 N, .int .i64 k, v7, v8, .slice (some ⟨w.heap.size, 0, none⟩) 0 0, .slice (some ⟨lb, 0, none⟩) 6 6, .pointer (some ⟨rb, 0, none⟩), .int .i64 N, .int .i64 k, .int .i64 N, .bool true, u16, u17, v18, v19, v20, v21, v22, v23, v24, v25, v26, v27, v28, v29, v30, v31, v32, v33, u34, u35, undef, undef, undef, undef, undef, undef, undef, undef, undef, undef, undef, undef, undef, undef, undef, undef, undef, undef, undef, undef, undef, undef, undef, undef, undef, undef, undef, undef], defers := [] } ∧
        (Rdr rb X q) ∧ (q ≤ q0 + bitN (L 6) + bitN (L 8)) ∧ (Chg (fun k => k = rb) wr X) ∧ (OwnR signS w.heap.size X 100 (.slice (some ⟨g, 0, none⟩) l.length c5) l) ∧ (L 0 = true → v19 = .slice (some ⟨g, 0, none⟩) l.length c5) ∧ (L 1 = true → v20 = .slice (some ⟨lb, 0, none⟩) 6 6) ∧ (L 2 = true → v21 = .int .i64 k) ∧ (L 3 = true → v22 = .pointer (some ⟨lb, k, none⟩)) ∧ (L 4 = true → ∃ a : ByteArray, v23 = .string a ∧ a.size ≤ 20) ∧ (L 5 = true → v24 = .pointer (some ⟨rb, 0, none⟩)) ∧ (L 6 = true → ∃ x : Int, v25 = .int .i64 x) ∧ (L 7 = true → v26 = .pointer (some ⟨rb, 0, none⟩)) ∧ (L 8 = true → ∃ x : Nat, v27 = .int .i64 x ∧ x < 3) ∧ (L 9 = true → ∃ x : Int, v28 = .int .i64 x) ∧ (L 10 = true → ∃ x y : Int, v29 = .agg #[.int .i64 x, .int .i64 y]) ∧ (L 11 = true → ∃ (a : ByteArray) (x y : Int), v30 = .agg #[.string a, .int .i64 x, .int .i64 y] ∧ a.size ≤ 20) ∧ (L 12 = true → ∃ (A' : Option Addr) (c' : Nat) (o : List SignT) (b : Bool), v31 = .tuple #[.slice A' o.length c', .bool b] ∧ OwnR signS w.heap.size X 100 (.slice A' o.length c') o ∧ o.length ≤ l.length + 1 ∧ A'.isSome = true) ∧ (L 13 = true → ∃ (A' : Option Addr) (c' : Nat) (o : List SignT) (b : Bool), v18 = .tuple #[.slice A' o.length c', .bool b] ∧ OwnR signS w.heap.size X 100 (.slice A' o.length c') o ∧ o.length ≤ l.length + 1 ∧ A'.isSome = true) ∧ (L 14 = true → ∃ (A' : Option Addr) (c' : Nat) (o : List SignT), v32 = .slice A' o.length c' ∧ OwnR signS w.heap.size X 100 (.slice A' o.length c') o ∧ o.length ≤ l.length + 1 ∧ A'.isSome = true) ∧ (L 15 = true → ∃ b : Bool, v33 = .bool b) ∧ (L 16 = true → ∃ (A' : Option Addr) (c' : Nat) (o : List SignT), v7 = .slice A' o.length c' ∧ OwnR signS w.heap.size X 100 (.slice A' o.length c') o ∧ o.length ≤ l.length + 1 ∧ A'.isSome = true) ∧ (L 17 = true → ∃ b : Bool, v8 = .bool b)) ?_ ⟨?_, ?_, ?_, ?_, ?_, ?_, ?_, ?_, ?_, ?_, ?_, ?_, ?_, ?_, ?_, ?_, ?_, ?_, trivial⟩ ?_
      · exact ⟨_, _, _, _, _, _, _, _, _, _, _, _, _, _, _, _, _, _, q0, rfl, HRR.out.keep (Below.refl _ _).drew, Nat.le_refl _, (Chg.refl _ _).drew, HO.out.flat signS_flat (Chg.refl (fun _ => False) wr).drew (fun _ _ h => h), fun h => (by cases h), fun h => (by cases h), fun h => (by cases h), fun h => (by cases h), fun h => (by cases h), fun h => (by cases h), fun h => (by cases h), fun h => (by cases h), fun h => (by cases h), fun h => (by cases h), fun h => (by cases h), fun h => (by cases h), fun h => (by cases h), fun h => (by cases h), fun h => (by cases h), fun h => (by cases h), fun h => (by cases h), fun h => (by cases h)⟩
      · rintro L act X K0 ⟨v7, v8, v18, v19, v20, v21, v22, v23, v24, v25, v26, v27, v28, v29, v30, v31, v32, v33, q, rfl, hR, hq, hC, hO, f0, f1, f2, f3, f4, f5, f6, f7, f8, f9, f10, f11, f12, f13, f14, f15, f16, f17⟩ hL hd hK
        clear hd
        refine ⟨rfl, ?_⟩
        go_simp
        exact hK _ _ ⟨_, _, _, _, _, _, _, _, _, _, _, _, _, _, _, _, _, _, q, rfl, hR, hq, hC, hO, fun _ => rfl, f1, f2, f3, f4, f5, f6, f7, f8, f9, f10, f11, f12, f13, f14, f15, f16, f17⟩
      · rintro L act X K0 ⟨v7, v8, v18, v19, v20, v21, v22, v23, v24, v25, v26, v27, v28, v29, v30, v31, v32, v33, q, rfl, hR, hq, hC, hO, f0, f1, f2, f3, f4, f5, f6, f7, f8, f9, f10, f11, f12, f13, f14, f15, f16, f17⟩ hL hd hK
        clear hd
        refine ⟨rfl, ?_⟩
        go_simp
        exact hK _ _ ⟨_, _, _, _, _, _, _, _, _, _, _, _, _, _, _, _, _, _, q, rfl, hR, hq, hC, hO, f0, fun _ => rfl, f2, f3, f4, f5, f6, f7, f8, f9, f10, f11, f12, f13, f14, f15, f16, f17⟩
      · rintro L act X K0 ⟨v7, v8, v18, v19, v20, v21, v22, v23, v24, v25, v26, v27, v28, v29, v30, v31, v32, v33, q, rfl, hR, hq, hC, hO, f0, f1, f2, f3, f4, f5, f6, f7, f8, f9, f10, f11, f12, f13, f14, f15, f16, f17⟩ hL hd hK
        clear hd
        refine ⟨rfl, ?_⟩
        go_simp
        exact hK _ _ ⟨_, _, _, _, _, _, _, _, _, _, _, _, _, _, _, _, _, _, q, rfl, hR, hq, hC, hO, f0, f1, fun _ => rfl, f3, f4, f5, f6, f7, f8, f9, f10, f11, f12, f13, f14, f15, f16, f17⟩
      · rintro L act X K0 ⟨v7, v8, v18, v19, v20, v21, v22, v23, v24, v25, v26, v27, v28, v29, v30, v31, v32, v33, q, rfl, hR, hq, hC, hO, f0, f1, f2, f3, f4, f5, f6, f7, f8, f9, f10, f11, f12, f13, f14, f15, f16, f17⟩ hL hd hK
        have d1 := hd ⟨1, .data⟩ (by simp) rfl
        obtain rfl := f1 d1
        have d2 := hd ⟨2, .data⟩ (by simp) rfl
        obtain rfl := f2 d2
        clear hd
        refine ⟨rfl, ?_⟩
        go_simp
        exact hK _ _ ⟨_, _, _, _, _, _, _, _, _, _, _, _, _, _, _, _, _, _, q, rfl, hR, hq, hC, hO, f0, f1, f2, fun _ => rfl, f4, f5, f6, f7, f8, f9, f10, f11, f12, f13, f14, f15, f16, f17⟩
      · rintro L act X K0 ⟨v7, v8, v18, v19, v20, v21, v22, v23, v24, v25, v26, v27, v28, v29, v30, v31, v32, v33, q, rfl, hR, hq, hC, hO, f0, f1, f2, f3, f4, f5, f6, f7, f8, f9, f10, f11, f12, f13, f14, f15, f16, f17⟩ hL hd hK
        have d3 := hd ⟨3, .data⟩ (by simp) rfl
        obtain rfl := f3 d3
        obtain ⟨a, ha, hs⟩ := HLT.out k hk6
        have q0 := hC.cell hlr ha
        clear hd
        refine ⟨rfl, ?_⟩
        go_simp
        exact hK _ _ ⟨_, _, _, _, _, _, _, _, _, _, _, _, _, _, _, _, _, _, q, rfl, hR, hq, hC, hO, f0, f1, f2, f3, fun _ => ⟨a, rfl, hs⟩, f5, f6, f7, f8, f9, f10, f11, f12, f13, f14, f15, f16, f17⟩
      · rintro L act X K0 ⟨v7, v8, v18, v19, v20, v21, v22, v23, v24, v25, v26, v27, v28, v29, v30, v31, v32, v33, q, rfl, hR, hq, hC, hO, f0, f1, f2, f3, f4, f5, f6, f7, f8, f9, f10, f11, f12, f13, f14, f15, f16, f17⟩ hL hd hK
        clear hd
        refine ⟨rfl, ?_⟩
        go_simp
        exact hK _ _ ⟨_, _, _, _, _, _, _, _, _, _, _, _, _, _, _, _, _, _, q, rfl, hR, hq, hC, hO, f0, f1, f2, f3, f4, fun _ => rfl, f6, f7, f8, f9, f10, f11, f12, f13, f14, f15, f16, f17⟩
      · rintro L act X K0 ⟨v7, v8, v18, v19, v20, v21, v22, v23, v24, v25, v26, v27, v28, v29, v30, v31, v32, v33, q, rfl, hR, hq, hC, hO, f0, f1, f2, f3, f4, f5, f6, f7, f8, f9, f10, f11, f12, f13, f14, f15, f16, f17⟩ hL hd hK
        have d5 := hd ⟨5, .data⟩ (by simp) rfl
        obtain rfl := f5 d5
        clear hd
        refine ⟨rfl, ?_⟩
        go_simp
        refine (pick_any rb X q 8 hR (by have := count_b L; omega) (by omega) (by omega)).mono ?_
        rintro e X2 ⟨u, rfl, z0, z1, hr2, hc⟩
        obtain ⟨u, rfl⟩ := Int.eq_ofNat_of_zero_le z0
        exact hK _ _ ⟨_, _, _, _, _, _, _, _, _, _, _, _, _, _, _, _, _, _, q + 1, rfl, hr2, count_p6 hL hq, hC.trans hc, hO.flat signS_flat hc (fun j h1 h2 => by have := (hO.own_lt h1).1; omega), f0, f1, f2, f3, f4, f5, fun _ => ⟨_, rfl⟩, f7, f8, f9, f10, f11, fun h => (by obtain ⟨A', c', o, b, e, r, h2⟩ := f12 h; exact ⟨A', c', o, b, e, r.flat signS_flat hc (fun j h1 h2 => by have := (r.own_lt h1).1; omega), h2⟩), fun h => (by obtain ⟨A', c', o, b, e, r, h2⟩ := f13 h; exact ⟨A', c', o, b, e, r.flat signS_flat hc (fun j h1 h2 => by have := (r.own_lt h1).1; omega), h2⟩), fun h => (by obtain ⟨A', c', o, e, r, h2⟩ := f14 h; exact ⟨A', c', o, e, r.flat signS_flat hc (fun j h1 h2 => by have := (r.own_lt h1).1; omega), h2⟩), f15, fun h => (by obtain ⟨A', c', o, e, r, h2⟩ := f16 h; exact ⟨A', c', o, e, r.flat signS_flat hc (fun j h1 h2 => by have := (r.own_lt h1).1; omega), h2⟩), f17⟩
      · rintro L act X K0 ⟨v7, v8, v18, v19, v20, v21, v22, v23, v24, v25, v26, v27, v28, v29, v30, v31, v32, v33, q, rfl, hR, hq, hC, hO, f0, f1, f2, f3, f4, f5, f6, f7, f8, f9, f10, f11, f12, f13, f14, f15, f16, f17⟩ hL hd hK
        clear hd
        refine ⟨rfl, ?_⟩
        go_simp
        exact hK _ _ ⟨_, _, _, _, _, _, _, _, _, _, _, _, _, _, _, _, _, _, q, rfl, hR, hq, hC, hO, f0, f1, f2, f3, f4, f5, f6, fun _ => rfl, f8, f9, f10, f11, f12, f13, f14, f15, f16, f17⟩
      · rintro L act X K0 ⟨v7, v8, v18, v19, v20, v21, v22, v23, v24, v25, v26, v27, v28, v29, v30, v31, v32, v33, q, rfl, hR, hq, hC, hO, f0, f1, f2, f3, f4, f5, f6, f7, f8, f9, f10, f11, f12, f13, f14, f15, f16, f17⟩ hL hd hK
        have d7 := hd ⟨7, .data⟩ (by simp) rfl
        obtain rfl := f7 d7
        clear hd
        refine ⟨rfl, ?_⟩
        go_simp
        refine (pick_any rb X q 3 hR (by have := count_b L; omega) (by omega) (by omega)).mono ?_
        rintro e X2 ⟨u, rfl, z0, z1, hr2, hc⟩
        obtain ⟨u, rfl⟩ := Int.eq_ofNat_of_zero_le z0
        exact hK _ _ ⟨_, _, _, _, _, _, _, _, _, _, _, _, _, _, _, _, _, _, q + 1, rfl, hr2, count_p8 hL hq, hC.trans hc, hO.flat signS_flat hc (fun j h1 h2 => by have := (hO.own_lt h1).1; omega), f0, f1, f2, f3, f4, f5, f6, f7, fun _ => ⟨u, rfl, by have := z1 (by omega); omega⟩, f9, f10, f11, fun h => (by obtain ⟨A', c', o, b, e, r, h2⟩ := f12 h; exact ⟨A', c', o, b, e, r.flat signS_flat hc (fun j h1 h2 => by have := (r.own_lt h1).1; omega), h2⟩), fun h => (by obtain ⟨A', c', o, b, e, r, h2⟩ := f13 h; exact ⟨A', c', o, b, e, r.flat signS_flat hc (fun j h1 h2 => by have := (r.own_lt h1).1; omega), h2⟩), fun h => (by obtain ⟨A', c', o, e, r, h2⟩ := f14 h; exact ⟨A', c', o, e, r.flat signS_flat hc (fun j h1 h2 => by have := (r.own_lt h1).1; omega), h2⟩), f15, fun h => (by obtain ⟨A', c', o, e, r, h2⟩ := f16 h; exact ⟨A', c', o, e, r.flat signS_flat hc (fun j h1 h2 => by have := (r.own_lt h1).1; omega), h2⟩), f17⟩
      · rintro L act X K0 ⟨v7, v8, v18, v19, v20, v21, v22, v23, v24, v25, v26, v27, v28, v29, v30, v31, v32, v33, q, rfl, hR, hq, hC, hO, f0, f1, f2, f3, f4, f5, f6, f7, f8, f9, f10, f11, f12, f13, f14, f15, f16, f17⟩ hL hd hK
        have d8 := hd ⟨8, .data⟩ (by simp) rfl
        obtain ⟨u, rfl, hu⟩ := f8 d8
        have hwu : IntKind.i64.wrap (1 + (u : Int)) = 1 + (u : Int) := IntWalk.i64_in _ (by omega)
        clear hd
        refine ⟨rfl, ?_⟩
        go_simp
        exact hK _ _ ⟨_, _, _, _, _, _, _, _, _, _, _, _, _, _, _, _, _, _, q, rfl, hR, hq, hC, hO, f0, f1, f2, f3, f4, f5, f6, f7, fun _ => ⟨u, rfl, hu⟩, fun _ => ⟨_, rfl⟩, f10, f11, f12, f13, f14, f15, f16, f17⟩
      · rintro L act X K0 ⟨v7, v8, v18, v19, v20, v21, v22, v23, v24, v25, v26, v27, v28, v29, v30, v31, v32, v33, q, rfl, hR, hq, hC, hO, f0, f1, f2, f3, f4, f5, f6, f7, f8, f9, f10, f11, f12, f13, f14, f15, f16, f17⟩ hL hd hK
        have d6 := hd ⟨6, .data⟩ (by simp) rfl
        obtain ⟨x, rfl⟩ := f6 d6
        have d9 := hd ⟨9, .data⟩ (by simp) rfl
        obtain ⟨y, rfl⟩ := f9 d9
        clear hd
        refine ⟨rfl, ?_⟩
        go_simp
        exact hK _ _ ⟨_, _, _, _, _, _, _, _, _, _, _, _, _, _, _, _, _, _, q, rfl, hR, hq, hC, hO, f0, f1, f2, f3, f4, f5, fun _ => ⟨x, rfl⟩, f7, f8, fun _ => ⟨y, rfl⟩, fun _ => ⟨x, y, rfl⟩, f11, f12, f13, f14, f15, f16, f17⟩
      · rintro L act X K0 ⟨v7, v8, v18, v19, v20, v21, v22, v23, v24, v25, v26, v27, v28, v29, v30, v31, v32, v33, q, rfl, hR, hq, hC, hO, f0, f1, f2, f3, f4, f5, f6, f7, f8, f9, f10, f11, f12, f13, f14, f15, f16, f17⟩ hL hd hK
        have d4 := hd ⟨4, .data⟩ (by simp) rfl
        obtain ⟨a, rfl, ha⟩ := f4 d4
        have d10 := hd ⟨10, .data⟩ (by simp) rfl
        obtain ⟨x, y, rfl⟩ := f10 d10
        clear hd
        refine ⟨rfl, ?_⟩
        go_simp
        exact hK _ _ ⟨_, _, _, _, _, _, _, _, _, _, _, _, _, _, _, _, _, _, q, rfl, hR, hq, hC, hO, f0, f1, f2, f3, fun _ => ⟨a, rfl, ha⟩, f5, f6, f7, f8, f9, fun _ => ⟨x, y, rfl⟩, fun _ => ⟨a, x, y, rfl, ha⟩, f12, f13, f14, f15, f16, f17⟩
      · rintro L act X K0 ⟨v7, v8, v18, v19, v20, v21, v22, v23, v24, v25, v26, v27, v28, v29, v30, v31, v32, v33, q, rfl, hR, hq, hC, hO, f0, f1, f2, f3, f4, f5, f6, f7, f8, f9, f10, f11, f12, f13, f14, f15, f16, f17⟩ hL hd hK
        have d0 := hd ⟨0, .data⟩ (by simp) rfl
        obtain rfl := f0 d0
        have d11 := hd ⟨11, .data⟩ (by simp) rfl
        obtain ⟨a, x, y, rfl, ha⟩ := f11 d11
        have hrd := (hO.rd (by omega)).2
        have hXs := hC.size
        clear hd
        refine ⟨rfl, ?_⟩
        go_simp
        refine (specSystemAdd_any g 0 l.length c5 _ l a x y X hrd (by omega) (by omega)).mono ?_
        intro e X2 hres
        unfold RetSA at hres
        obtain ⟨A', n', c', o, b, rfl, r, rfl, ho, hc, hA⟩ := hres
        exact hK _ _ ⟨_, _, _, _, _, _, _, _, _, _, _, _, _, _, _, _, _, _, q, rfl, hR.chgR hc, hq, chg_hi hC (bel_chg hc) (fun j e => by omega), hO.bl hc, f0, f1, f2, f3, f4, f5, f6, f7, f8, f9, f10, fun _ => ⟨a, x, y, rfl, ha⟩, fun _ => ⟨A', c', o, b, rfl, r.low (by omega), ho, hA⟩, fun h => (by obtain ⟨A', c', o, b, e, r, h2⟩ := f13 h; exact ⟨A', c', o, b, e, r.bl hc, h2⟩), fun h => (by obtain ⟨A', c', o, e, r, h2⟩ := f14 h; exact ⟨A', c', o, e, r.bl hc, h2⟩), f15, fun h => (by obtain ⟨A', c', o, e, r, h2⟩ := f16 h; exact ⟨A', c', o, e, r.bl hc, h2⟩), f17⟩
      · rintro L act X K0 ⟨v7, v8, v18, v19, v20, v21, v22, v23, v24, v25, v26, v27, v28, v29, v30, v31, v32, v33, q, rfl, hR, hq, hC, hO, f0, f1, f2, f3, f4, f5, f6, f7, f8, f9, f10, f11, f12, f13, f14, f15, f16, f17⟩ hL hd hK
        have d12 := hd ⟨12, .data⟩ (by simp) rfl
        obtain ⟨A', c', o, b, rfl, r, h2⟩ := f12 d12
        clear hd
        refine ⟨rfl, ?_⟩
        go_simp
        exact hK _ _ ⟨_, _, _, _, _, _, _, _, _, _, _, _, _, _, _, _, _, _, q, rfl, hR, hq, hC, hO, f0, f1, f2, f3, f4, f5, f6, f7, f8, f9, f10, f11, fun _ => ⟨A', c', o, b, rfl, r, h2⟩, fun _ => ⟨A', c', o, b, rfl, r, h2⟩, f14, f15, f16, f17⟩
      · rintro L act X K0 ⟨v7, v8, v18, v19, v20, v21, v22, v23, v24, v25, v26, v27, v28, v29, v30, v31, v32, v33, q, rfl, hR, hq, hC, hO, f0, f1, f2, f3, f4, f5, f6, f7, f8, f9, f10, f11, f12, f13, f14, f15, f16, f17⟩ hL hd hK
        have d13 := hd ⟨13, .data⟩ (by simp) rfl
        obtain ⟨A', c', o, b, rfl, r, h2⟩ := f13 d13
        clear hd
        refine ⟨rfl, ?_⟩
        go_simp
        exact hK _ _ ⟨_, _, _, _, _, _, _, _, _, _, _, _, _, _, _, _, _, _, q, rfl, hR, hq, hC, hO, f0, f1, f2, f3, f4, f5, f6, f7, f8, f9, f10, f11, f12, fun _ => ⟨A', c', o, b, rfl, r, h2⟩, fun _ => ⟨A', c', o, rfl, r, h2⟩, f15, f16, f17⟩
      · rintro L act X K0 ⟨v7, v8, v18, v19, v20, v21, v22, v23, v24, v25, v26, v27, v28, v29, v30, v31, v32, v33, q, rfl, hR, hq, hC, hO, f0, f1, f2, f3, f4, f5, f6, f7, f8, f9, f10, f11, f12, f13, f14, f15, f16, f17⟩ hL hd hK
        have d13 := hd ⟨13, .data⟩ (by simp) rfl
        obtain ⟨A', c', o, b, rfl, r, h2⟩ := f13 d13
        clear hd
        refine ⟨rfl, ?_⟩
        go_simp
        exact hK _ _ ⟨_, _, _, _, _, _, _, _, _, _, _, _, _, _, _, _, _, _, q, rfl, hR, hq, hC, hO, f0, f1, f2, f3, f4, f5, f6, f7, f8, f9, f10, f11, f12, fun _ => ⟨A', c', o, b, rfl, r, h2⟩, f14, fun _ => ⟨b, rfl⟩, f16, f17⟩
      · rintro L act X K0 ⟨v7, v8, v18, v19, v20, v21, v22, v23, v24, v25, v26, v27, v28, v29, v30, v31, v32, v33, q, rfl, hR, hq, hC, hO, f0, f1, f2, f3, f4, f5, f6, f7, f8, f9, f10, f11, f12, f13, f14, f15, f16, f17⟩ hL hd hK
        have d14 := hd ⟨14, .data⟩ (by simp) rfl
        obtain ⟨A', c', o, rfl, r, h2⟩ := f14 d14
        clear hd
        refine ⟨rfl, ?_⟩
        go_simp
        exact hK _ _ ⟨_, _, _, _, _, _, _, _, _, _, _, _, _, _, _, _, _, _, q, rfl, hR, hq, hC, hO, f0, f1, f2, f3, f4, f5, f6, f7, f8, f9, f10, f11, f12, f13, fun _ => ⟨A', c', o, rfl, r, h2⟩, f15, fun _ => ⟨A', c', o, rfl, r, h2⟩, f17⟩
      · rintro L act X K0 ⟨v7, v8, v18, v19, v20, v21, v22, v23, v24, v25, v26, v27, v28, v29, v30, v31, v32, v33, q, rfl, hR, hq, hC, hO, f0, f1, f2, f3, f4, f5, f6, f7, f8, f9, f10, f11, f12, f13, f14, f15, f16, f17⟩ hL hd hK
        have d15 := hd ⟨15, .data⟩ (by simp) rfl
        obtain ⟨b, rfl⟩ := f15 d15
        clear hd
        refine ⟨rfl, ?_⟩
        go_simp
        exact hK _ _ ⟨_, _, _, _, _, _, _, _, _, _, _, _, _, _, _, _, _, _, q, rfl, hR, hq, hC, hO, f0, f1, f2, f3, f4, f5, f6, f7, f8, f9, f10, f11, f12, f13, f14, fun _ => ⟨b, rfl⟩, f16, fun _ => ⟨b, rfl⟩⟩
      · rintro L act X hLL ⟨v7, v8, v18, v19, v20, v21, v22, v23, v24, v25, v26, v27, v28, v29, v30, v31, v32, v33, q, rfl, hR, hq, hC, hO, f0, f1, f2, f3, f4, f5, f6, f7, f8, f9, f10, f11, f12, f13, f14, f15, f16, f17⟩
        obtain ⟨A', c', o, rfl, r, ho, hA⟩ := f16 (hLL 16 (by simp))
        obtain ⟨b, rfl⟩ := f17 (hLL 17 (by simp))
        obtain ⟨g2, rfl⟩ : ∃ g2, A' = some ⟨g2, 0, none⟩ := (by rcases r.addr with ⟨h1, _⟩ | h1; rw [h1] at hA; cases hA; exact h1)
        have hq2 := count_b2 hq
        have HO2 := hid r
        have HOO := hid hO
        have HR2 := hid hR
        have HC2 := hid (HC.out.trans hC)
        have HL2 := hid (((hC.block lb (Array.getElem?_eq_some_iff.1 HLX.out).1 hlr).trans HLX.out).trans HLB.out.symm)
        clear r hA hO hR hC hq hLL f0 f1 f2 f3 f4 f5 f6 f7 f8 f9 f10 f11 f12 f13 f14 f15 f16 f17
        cases b with
        | false =>
          go_wp2_with fail
          go_roundg (gk - 1)
          case measure => have := HKG.out; omega
          case rel => exact ⟨k + 1, g, c5, l, q, by have := HKG.out; omega, by go_num, rfl, HOO.out, by omega, by omega, HR2.out, HC2.out, HL2.out⟩
        | true =>
          go_wp2_with fail
          go_roundg (gk - 1)
          case measure => have := HKG.out; omega
          case rel => exact ⟨k + 1, g2, c', o, q, by have := HKG.out; omega, by go_num, rfl, HO2.out, by omega, by omega, HR2.out, HC2.out, HL2.out⟩
    case neg =>
      obtain rfl : k = N := by omega
      have hni : ¬ (k : Int) < (k : Int) := by omega
      by_cases hn0 : l.length = 0
      · have hln : ¬ (0 : Int) < (l.length : Int) := by omega
        clear hn0
        go_wp2_with fail
        go_ret
        exact ⟨_, c5, l, q0, rfl, HO.out, by omega, by omega, HRR.out, HC.out⟩
      · have hli : (0 : Int) < (l.length : Int) := by omega
        have hlp : 0 < l.length := by omega
        go_wp2_with fail
        refine (pick_any rb _ q0 40 HRR.out (by omega) (by omega) (by omega)).mono ?_
        rintro e w3 ⟨v, rfl, _, _, hr3, hc3⟩
        have HR3 := hid hr3
        have HO3 := hid (HO.out.chg hc3 (fun k hk => by omega))
        have HC3 := hid (HC.out.trans hc3)
        have hz3 := HC3.out.size
        clear hr3 hc3 hn0
        by_cases hv0 : v = 0
        · subst hv0
          have HOF := hid (of_lit rb 4 (q0 + 1) [⟨#[97]⟩, ⟨#[]⟩, ⟨#[98, 98]⟩, ⟨#[66]⟩] #[.string ⟨#[97]⟩, .string ⟨#[]⟩, .string ⟨#[98, 98]⟩, .string ⟨#[66]⟩] w3 HR3.out (by omega) rfl (by decide) rfl (by omega) (by omega))
          go_wp2_with fail
          refine HOF.out.mono ?_
          rintro e w4 ⟨s, hsm, rfl, hr4, hc4⟩
          have hs : s.size ≤ 20 := by
            revert s
            decide
          have HR4 := hid hr4
          have hO4 := HO3.out.chg hc4 (fun k hk => by omega)
          have HC4 := hid (HC3.out.trans hc4)
          obtain ⟨⟨v0, y0⟩, y1, y2, y3⟩ := hO4.at0 hlp (j := 0) (by decide)
          have HO5 := hid (hO4.setF signS_flat hlp 0 (by decide) (.string s) (s, (gt l 0).2) (fun D w' f he => ⟨⟨rfl, by show s.size ≤ _; omega⟩, he.2⟩))
          clear hsm hr4 hc4 hO4 HOF
          go_wp2_with fail
          go_ret
          exact ⟨_, c5, l.set 0 (s, (gt l 0).2), q0 + 1 + 1, by rw [List.length_set]; rfl, by rw [List.length_set]; exact HO5.out, by rw [List.length_set]; omega, by omega, HR4.out.set (by omega) _, chg_set HC4.out y3 _⟩
        · have hv0' : (v == 0) = false := by simpa using hv0
          by_cases hv1 : v = 1
          · subst hv1
            have hRd := (HO3.out.rd (by omega)).2
            obtain ⟨b', off', hA', _, _, hcx⟩ := hRd.2.2 (by omega)
            injection hA' with hA'
            injection hA' with e1 e2 _
            subst e1 e2
            obtain ⟨y0, y1, y2, y3⟩ := hcx.sign (k := 0) (by omega)
            simp only [Nat.zero_mul, Nat.add_zero, Nat.zero_add] at y0 y1 y2
            obtain ⟨x, hx⟩ : ∃ x, gt l 0 = x := ⟨_, rfl⟩
            rw [hx] at y0 y1 y2 y3
            obtain ⟨s, d, z⟩ := x
            dsimp only at y0 y1 y2 y3
            clear hRd hcx hx hv0 hv0'
            go_wp2_with (at_builtin; go_loud (refine wpList_append_R rfl (.tmp 51) (.tmp 55) _ rfl signS Try.underlying44 HI.out rfl (by decide) (v := .slice (some ⟨g, 0, none⟩) l.length c5) rfl (HO3.out.al _) (y := (s, d, z)) (cs := [.string s, .int .i64 d, .int .i64 z]) rfl (heap_alloc_new _ _) rfl (by simp [Value.oneCell']) ⟨⟨rfl, y3⟩, rfl, rfl⟩ (by omega) (by omega) (by simp; omega) ?_; intro A6 c6 w5 hO5 hb5))
            have hb6 := ((bnew w3 (.cells #[.string s, .int .i64 d, .int .i64 z] 100)).mono (B' := w.heap.size) (by omega)).trans hb5
            have HO5 := hid hO5
            have HR5 := hid (HR3.out.low hb6 hrl)
            have HC5 := hid (chg_hi HC3.out (bel_chg hb6) (fun j e => e))
            clear hO5 hb5 hb6 y0 y1 y2
            go_wp2_with fail
            go_ret
            exact ⟨A6, c6, l ++ [(s, d, z)], q0 + 1, by rw [List.length_append]; rfl, by rw [List.length_append]; exact HO5.out, by rw [List.length_append]; show l.length + 1 ≤ 10; omega, by omega, HR5.out, HC5.out⟩
          · have hv1' : (v == 1) = false := by simpa using hv1
            by_cases hv2 : v = 2
            · subst hv2
              obtain ⟨⟨v0, y0⟩, y1, y2, y3⟩ := HO3.out.at0 hlp (j := 2) (by decide)
              have HO5 := hid (HO3.out.setF signS_flat hlp 2 (by decide) (.int .i64 0) ((gt l 0).1, (gt l 0).2.1, 0) (fun D w' f he => ⟨he.1, he.2.1, rfl⟩))
              clear hv0 hv0' hv1 hv1'
              go_wp2_with fail
              go_ret
              exact ⟨_, c5, l.set 0 ((gt l 0).1, (gt l 0).2.1, 0), q0 + 1, by rw [List.length_set]; rfl, by rw [List.length_set]; exact HO5.out, by rw [List.length_set]; omega, by omega, HR3.out.set (by omega) _, chg_set HC3.out y3 _⟩
            · have hv2' : (v == 2) = false := by simpa using hv2
              clear hv0 hv1 hv2
              go_wp2_with fail
              go_ret
              exact ⟨_, c5, l, q0 + 1, rfl, HO3.out, by omega, by omega, HR3.out, HC3.out⟩
end Go.Proofs.Ytigemahbopligaa
