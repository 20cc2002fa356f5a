/- The draw of an outline: some list of strokes. -/
import Derived.Test.YtigemahbopligaaReader2
import Derived.Test.YtigemahbopligaaChange
namespace Go.Proofs.Ytigemahbopligaa
open Go.RowKit
/-- A store into one field of one element of a row of the call's own. -/
theorem OwnR.store {base : Nat} {w : World} {e : TypeId} {g n c : Nat} {l : List (Int × Int)} (h : OwnR strokeS base w e (.slice (some ⟨g, 0, none⟩) n c) l) {j i : Nat} (hj : j < l.length) (hi : i < 2) (x : Int) :
    OwnR strokeS base (w.setCell ⟨g, j * 2 + i, none⟩ (.int .i64 x)) e (.slice (some ⟨g, 0, none⟩) n c) (l.set j (if i = 0 then (x, (gt l j).2) else ((gt l j).1, x))) := by
  obtain ⟨xs, ⟨hl, h2⟩, hx⟩ := h
  rcases h2 with ⟨h3, h0⟩ | ⟨g', cap, cur, h3, hg, hh, hc, hcm, hcs, htake⟩
  · injection h3 with a1 a2 a3
    cases a1
  · injection h3 with a1 a2 a3
    injection a1 with a1
    injection a1 with a1
    subst a1 a2 a3
    have hcs' : cur.size = c * 2 := hcs
    have htake' : List.take (l.length * 2) cur.toList = xs := htake
    have hl' : xs.length = l.length * 2 := hl
    refine ⟨xs.set (j * 2 + i) (.int .i64 x), ⟨by rw [List.length_set, List.length_set]; exact hl, .inr ⟨g, c, cur.setIfInBounds (j * 2 + i) (.int .i64 x), by rw [List.length_set], hg, heap_setCell_same w g _ cur e _ hh, by rw [List.length_set]; exact hc, hcm, by rw [Array.size_setIfInBounds]; exact hcs, ?_⟩⟩, fun k hk => ?_⟩
    · rw [List.length_set, Array.toList_setIfInBounds, List.take_set]
      exact congrArg (fun z => List.set z (j * 2 + i) _) htake'
    · rw [List.length_set] at hk
      obtain ⟨f, hf, he⟩ := hx k hk
      have f0 := hf 0 (by show 0 < 2; omega)
      have f1 := hf 1 (by show 1 < 2; omega)
      have e0 : f 0 = .int .i64 (gt l k).1 := he.1
      have e1 : f 1 = .int .i64 (gt l k).2 := he.2
      have s0 : k * strokeS.sz + 0 = k * 2 + 0 := rfl
      have s1 : k * strokeS.sz + 1 = k * 2 + 1 := rfl
      rw [s0] at f0
      rw [s1] at f1
      have hget : ∀ t, t < 2 → (xs.set (j * 2 + i) (.int .i64 x))[k * 2 + t]? = if k = j ∧ t = i then some (.int .i64 x) else xs[k * 2 + t]? := by
        intro t ht
        rw [List.getElem?_set]
        by_cases hh2 : k = j ∧ t = i
        · rw [if_pos (by omega), if_pos hh2, if_pos (by omega)]
        · rw [if_neg (by omega), if_neg hh2]
      have hy : ∃ y : Int × Int, gt (l.set j (if i = 0 then (x, (gt l j).2) else ((gt l j).1, x))) k = y ∧ (xs.set (j * 2 + i) (.int .i64 x))[k * 2 + 0]? = some (.int .i64 y.1) ∧ (xs.set (j * 2 + i) (.int .i64 x))[k * 2 + 1]? = some (.int .i64 y.2) := by
        by_cases hkj : k = j
        · subst hkj
          match i, hi with
          | 0, _ => exact ⟨(x, (gt l k).2), by simp [gt, hk], by rw [hget 0 (by omega), if_pos ⟨rfl, rfl⟩], by rw [hget 1 (by omega), if_neg (by omega), f1, e1]⟩
          | 1, _ => exact ⟨((gt l k).1, x), by simp [gt, hk], by rw [hget 0 (by omega), if_neg (by omega), f0, e0], by rw [hget 1 (by omega), if_pos ⟨rfl, rfl⟩]⟩
        · exact ⟨gt l k, by simp [gt, List.getElem?_set, Ne.symm hkj], by rw [hget 0 (by omega), if_neg (fun h => hkj h.1), f0, e0], by rw [hget 1 (by omega), if_neg (fun h => hkj h.1), f1, e1]⟩
      obtain ⟨y, hy1, hy2, hy3⟩ := hy
      rw [hy1]
      refine ⟨fun t => if t = 0 then .int .i64 y.1 else .int .i64 y.2, fun t ht => ?_, ⟨rfl, rfl⟩⟩
      have ht' : t < 2 := ht
      match t, ht' with
      | 0, _ => exact hy2
      | 1, _ => exact hy3
theorem OwnR.at {base : Nat} {w : World} {e : TypeId} {g n c : Nat} {l : List (Int × Int)} (h : OwnR strokeS base w e (.slice (some ⟨g, 0, none⟩) n c) l) {j : Nat} (hj : j < l.length) :
    w.cell? ⟨g, j * 2, none⟩ = some (.int .i64 (gt l j).1) ∧ w.cell? ⟨g, j * 2 + 1, none⟩ = some (.int .i64 (gt l j).2) ∧ w.frozen? ⟨g, j * 2, none⟩ = false ∧ w.frozen? ⟨g, j * 2 + 1, none⟩ = false ∧ base ≤ g ∧ g < w.heap.size ∧ n = l.length := by
  obtain ⟨xs, ⟨hl, h2⟩, hx⟩ := h
  rcases h2 with ⟨h3, h0⟩ | ⟨g', cap, cur, h3, hg, hh, hc, hcm, hcs, htake⟩
  · injection h3 with a1 a2 a3
    cases a1
  · injection h3 with a1 a2 a3
    injection a1 with a1
    injection a1 with a1
    subst a1 a2 a3
    obtain ⟨f, hf, he⟩ := hx j hj
    have f0 : xs[j * 2]? = some (f 0) := hf 0 (by show 0 < 2; omega)
    have f1 : xs[j * 2 + 1]? = some (f 1) := hf 1 (by show 1 < 2; omega)
    have e0 : f 0 = .int .i64 (gt l j).1 := he.1
    have e1 : f 1 = .int .i64 (gt l j).2 := he.2
    rw [← htake, List.getElem?_take] at f0 f1
    split at f0
    · split at f1
      · exact ⟨by rw [cell_of_row w g _ cur e (0, 0) hh, ← e0]; simpa using f0, by rw [cell_of_row w g _ cur e (0, 0) hh, ← e1]; simpa using f1, frozen_of_row _ _ _ _ _ hh, frozen_of_row _ _ _ _ _ hh, hg, (Array.getElem?_eq_some_iff.1 hh).1, rfl⟩
      · cases f1
    · cases f0
theorem chg_bl {D : Nat → Prop} {a b c : World} (h : Chg D a b) {B : Nat} (k : Below B b c) (hB : a.heap.size ≤ B) : Chg D a c :=
  ⟨k.os.trans h.os, k.tape.trans h.tape, k.output.trans h.output, Nat.le_trans h.size k.size, fun i hi hd => (k.block i (by omega)).trans (h.block i hi hd)⟩
theorem chg_set {D : Nat → Prop} {a b : World} (h : Chg D a b) {g o : Nat} (hg : a.heap.size ≤ g) (v : Value) : Chg D a (b.setCell ⟨g, o, none⟩ v) :=
  have c := (Chg.refl (fun k => k = g) b).set (p := ⟨g, o, none⟩) rfl v
  ⟨c.os.trans h.os, c.tape.trans h.tape, c.output.trans h.output, Nat.le_trans h.size c.size, fun k hk hd => (c.block k (Nat.lt_of_lt_of_le hk h.size) (by omega)).trans (h.block k hk hd)⟩
theorem Rdr.set {rb : Nat} {w : World} {p : Nat} (h : Rdr rb w p) {g o : Nat} (hg : rb < g) (v : Value) : Rdr rb (w.setCell ⟨g, o, none⟩ v) p :=
  h.chg ((Chg.refl (fun k => k = g) w).set (p := ⟨g, o, none⟩) rfl v) (fun k hk => by omega)
/-- The six turns of the draw. -/
theorem six_at (w : World) (e : Nat) {j : Nat} (hj : j < 6) : ∃ z : Int, (w.alloc (.cells #[.int .i64 1, .int .i64 2, .int .i64 3, .int .i64 5, .int .i64 6, .int .i64 7] e)).cell? ⟨w.heap.size, j, none⟩ = some (.int .i64 z) ∧ 0 ≤ z ∧ z ≤ 7 := by
  rw [cell_of_row _ _ _ _ _ (0, 0) (heap_alloc_new w _)]
  match j, hj with
  | 0, _ => exact ⟨1, rfl, by omega, by omega⟩
  | 1, _ => exact ⟨2, rfl, by omega, by omega⟩
  | 2, _ => exact ⟨3, rfl, by omega, by omega⟩
  | 3, _ => exact ⟨5, rfl, by omega, by omega⟩
  | 4, _ => exact ⟨6, rfl, by omega, by omega⟩
  | 5, _ => exact ⟨7, rfl, by omega, by omega⟩
/-- What the draw of an outline returns. -/
def DrawnO (rb p most : Nat) (w : World) (e : Ending) (w' : World) : Prop :=
  ∃ B d o p', e = .returned (.slice B (List.length o) d) ∧ o.length ≤ d ∧ o.length ≤ most ∧ OwnR strokeS w.heap.size w' 64 (.slice B o.length d) o ∧ p' ≤ p + 100 ∧ Rdr rb w' p' ∧ Chg (fun k => k = rb) w w' ∧ ∃ g, B = some ⟨g, 0, none⟩
theorem drawnO {rb p most : Nat} {w w' : World} {A : Option Addr} {c p' : Nat} {o : List (Int × Int)} (hO : OwnR strokeS w.heap.size w' 64 (.slice A o.length c) o) (ho : o.length ≤ most) (hp : p' ≤ p + 100) (hR : Rdr rb w' p') (hc : Chg (fun k => k = rb) w w') (hA : ∃ g, A = some ⟨g, 0, none⟩) :
    DrawnO rb p most w (.returned (.slice A o.length c)) w' := by
  obtain ⟨A', c', he, hcc⟩ := hO.form
  injection he with _ _ he
  subst he
  exact ⟨A, c, o, p', rfl, hcc, ho, hO, hp, hR, hc, hA⟩
theorem drawnO_set {rb p most n : Nat} {w w' : World} {A : Option Addr} {c p' : Nat} {o : List (Int × Int)} (hO : OwnR strokeS w.heap.size w' 64 (.slice A n c) o) (hn : o.length = n) (ho : n ≤ most) (hp : p' ≤ p + 100) (hR : Rdr rb w' p') (hc : Chg (fun k => k = rb) w w') (hA : ∃ g, A = some ⟨g, 0, none⟩) :
    DrawnO rb p most w (.returned (.slice A n c)) w' := by
  subst hn
  exact drawnO hO ho hp hR hc hA
set_option maxRecDepth 100000 in
set_option maxHeartbeats 4000000 in
theorem l91Outline_any (rb : Nat) (w : World) (p most : Nat) (h : Rdr rb w p) (hp : p ≤ 1000) (hm : most ≤ 10) :
    Calls Try.prog 48 #[.pointer (some ⟨rb, 0, none⟩), .int .i64 (most : Int)] w (DrawnO rb p most w) := by
  obtain ⟨i0, hi1, hz0, hz1, hz2⟩ := info_parts (show (Try.prog.info? 64).map (fun i => (i.zero, i.size, i.bytes)) = some (some (.agg #[.int .i64 0, .int .i64 0]), 2, 16) by kernel_rfl)
  have HI := hid (And.intro hi1 (And.intro hz0 (And.intro hz1 hz2)))
  clear hi1 hz0 hz1 hz2
  have H := hid h
  have hlt := h.lt
  clear h
  go_enter Try.func48, Try.ntmps48
  go_wp2_with fail
  refine (pick_any rb _ p ((most : Int) + 1) (H.out.keep ((Below.refl _ _).alloc (by omega) _)) (by omega) (by omega) (by omega)).mono ?_
  rintro e w1 ⟨v, rfl, v0, v1, hr1, hc1⟩
  have v2 := v1 (by omega)
  obtain ⟨n, rfl⟩ := Int.eq_ofNat_of_zero_le v0
  have hnm : n ≤ most := by omega
  have hO1 := (OwnR.nil (S := strokeS) (base := w.heap.size) (w := w) (e := 64) (Nat.le_refl _) #[] rfl).chg hc1 (fun k hk => by omega)
  have HO1 := hid hO1
  have HR1 := hid hr1
  have HC1 := hid ((chg_new w (.cells #[] 64) (fun k => k = rb)).trans hc1)
  clear hr1 hc1 v1 v0 v2 hO1
  go_wp2_with fail
  refine (pick_any rb _ (p + 1) 8 HR1.out (by omega) (by omega) (by omega)).mono ?_
  rintro e w2 ⟨dr, rfl, d0, d1, hr2, hc2⟩
  have d2 := d1 (by omega)
  have HR2 := hid hr2
  have HO2 := hid (HO1.out.chg hc2 (fun k hk => by omega))
  have HC2 := hid (HC1.out.trans hc2)
  clear hr2 hc2 d1
  go_wp2_with fail
  go_loopg [5, 7, 8] n (fun gk out dir i wr => ∃ (k q : Nat) (z : Int) (o : List (Int × Int)) (A : Option Addr) (c : Nat), k + gk = n ∧ i = .int .i64 k ∧ dir = .int .i64 z ∧ 0 ≤ z ∧ z ≤ 7 ∧ out = .slice A o.length c ∧ o.length = k ∧ OwnR strokeS w.heap.size wr 64 (.slice A o.length c) o ∧ q ≤ p + 2 + 2 * k ∧ Rdr rb wr q ∧ Chg (fun k => k = rb) w wr ∧ ∃ g, A = some ⟨g, 0, none⟩)
  case atStart => exact ⟨0, p + 1 + 1, dr, [], _, _, Nat.zero_add _, rfl, rfl, by omega, by omega, rfl, rfl, HO2.out, by omega, HR2.out, HC2.out, _, rfl⟩
  case round =>
    obtain ⟨k, q, z, o, A, c, hkg, rfl, rfl, z0, z1, rfl, hok, hO, hq, hR, hC, ga, rfl⟩ := hrel
    have hk : k ≤ n := by omega
    have HKG := hid hkg
    have HOK := hid hok
    have hol : o.length ≤ n := by omega
    have HO := hid hO
    have HR := hid hR
    have HC := hid hC
    have hwz := hC.size
    clear hkg hok hO hR hC
    by_cases hlt2 : k < n
    case pos =>
      have hki : (k : Int) < (n : Int) := by omega
      go_wp2_with fail
      refine (pick_any rb _ q 3 HR.out (by omega) (by omega) (by omega)).mono ?_
      rintro e w3 ⟨s, rfl, s0, s1, hr3, hc3⟩
      have s2 := s1 (by omega)
      have HR3 := hid hr3
      have HO3 := hid (HO.out.chg hc3 (fun k hk => by omega))
      have hw3 := hc3.size
      have HC3 := hid (HC.out.trans hc3)
      clear hr3 hc3 s1
      go_wp2_with (at_builtin; refine wpList_append_R rfl (.tmp 21) (.tmp 27) _ rfl strokeS Try.underlying24 HI.out rfl (by decide) rfl (HO3.out.al _) (y := (z, 1 + s)) rfl (heap_alloc_new _ _) rfl (by simp [Value.oneCell']) ⟨rfl, rfl⟩ (by omega) (by omega) (by simp; omega) ?_; intro A2 c2 w4 hO4 hb4)
      have hl4 : (o ++ [(z, 1 + s)]).length = o.length + 1 := by simp
      have HO4 := hid hO4
      have hb34 := ((bnew w3 (.cells #[.int .i64 z, .int .i64 (1 + s)] 64)).mono (show w.heap.size ≤ w3.heap.size by omega)).trans hb4
      have HC4 := hid (chg_bl HC3.out hb34 (Nat.le_refl _))
      have HR4 := hid (HR3.out.keep (hb34.mono (by omega)))
      have hw4 := HC4.out.size
      obtain ⟨g4, hg4, -⟩ := hO4.blk (by omega)
      subst hg4
      clear hO4 hb4 hb34
      refine (pick_any rb _ (q + 1) 6 (HR4.out.keep ((Below.refl _ _).alloc (by have := HR4.out.lt; omega) _)) (by omega) (by omega) (by omega)).mono ?_
      rintro e w5 ⟨t, rfl, t0, t1, hr5, hc5⟩
      have t2 := t1 (by omega)
      obtain ⟨j, rfl⟩ := Int.eq_ofNat_of_zero_le t0
      have hj : j < 6 := by omega
      have hji : (j : Int) < 6 := by omega
      obtain ⟨u, hu, u0, u1⟩ := six_at w4 3 hj
      have hcu := hc5.cell (by omega) hu
      have HR5 := hid hr5
      have hc45 := (chg_new w4 (.cells #[.int .i64 1, .int .i64 2, .int .i64 3, .int .i64 5, .int .i64 6, .int .i64 7] 3) (fun k => k = rb)).trans hc5
      have HO5 := hid (HO4.out.chg hc45 (fun k hk => by omega))
      have HC5 := hid (HC4.out.trans hc45)
      clear hr5 hc5 hc45 hu t1 t0 t2
      go_wp2_with fail
      go_roundg (gk - 1)
      case measure => have := HKG.out; omega
      case rel => exact ⟨k + 1, q + 1 + 1, (z + u) % 8, o ++ [(z, 1 + s)], _, c2, by have := HKG.out; omega, by go_num, rfl, by omega, by omega, by rw [hl4], by rw [hl4, HOK.out], by rw [hl4]; exact HO5.out, by omega, HR5.out, HC5.out, _, rfl⟩
    case neg =>
      obtain rfl : k = n := by omega
      by_cases hk0 : k = 0
      case pos =>
        have h0 : ¬ (0 : Int) < (k : Int) := by omega
        clear hk0
        go_wp2_with fail
        go_ret
        exact drawnO HO.out (by omega) (by omega) HR.out HC.out ⟨_, rfl⟩
      case neg =>
        have h0 : (0 : Int) < (k : Int) := by omega
        obtain ⟨m, hm⟩ : ∃ m, k = m + 1 := ⟨k - 1, by omega⟩
        have HMM := hid hm
        have hk1 : (k : Int) - 1 = (m : Int) := by omega
        have hol0 : (0 : Int) < (o.length : Int) := by have := HOK.out; omega
        have holm : (m : Int) < (o.length : Int) := by have := HOK.out; omega
        obtain ⟨gb, hgb', hgb, -⟩ := HO.out.blk (by omega)
        injection hgb' with hgb'
        injection hgb' with hgb'
        subst hgb'
        clear hm hk0
        go_wp2_with fail
        refine (pick_any rb _ q 40 HR.out (by omega) (by omega) (by omega)).mono ?_
        rintro e w3 ⟨s, rfl, s0, s1, hr3, hc3⟩
        have HR3 := hid hr3
        have HO3 := hid (HO.out.chg hc3 (fun k hk => by omega))
        have hw3 := hc3.size
        have HC3 := hid (HC.out.trans hc3)
        clear hr3 hc3 s1
        by_cases e0 : s = 0
        case pos =>
          subst e0
          go_wp2_with fail
          refine (l91Stroke_any rb w3 (q + 1) HR3.out (by omega)).mono ?_
          rintro e w4 ⟨x, y, p', rfl, hp', hx, hy, hr4, hc4⟩
          have hO4 := HO3.out.chg hc4 (fun k hk => by omega)
          obtain ⟨c0, c1, f0, f1, _, _, _⟩ := hO4.at (j := 0) (by omega)
          have HS1 := hid (hO4.store (j := 0) (i := 0) (by omega) (by omega) x)
          have HS2 := hid (HS1.out.store (j := 0) (i := 1) (by simp; omega) (by omega) y)
          have HR4 := hid hr4
          have HC4 := hid (HC3.out.trans hc4)
          clear hr4 hc4 hO4 hx hy
          rw [Nat.zero_mul] at c0 c1 f0 f1
          go_wp2_with fail
          go_ret
          exact drawnO_set HS2.out (by simp) (by omega) (by omega) ((HR4.out.set (by omega) _).set (by omega) _) (chg_set (chg_set HC4.out hgb _) hgb _) ⟨_, rfl⟩
        case neg =>
          have e0' : (s == 0) = false := by simpa using e0
          clear e0
          by_cases e1 : s = 1
          case pos =>
            subst e1
            obtain ⟨c0, c1, f0, f1, _, _, _⟩ := HO3.out.at (j := 0) (by omega)
            obtain ⟨d0, d1, g0, g1, _, _, _⟩ := HO3.out.at (j := m) (by omega)
            rw [Nat.zero_mul] at c0 c1 f0 f1
            have HS1 := hid (HO3.out.store (j := m) (i := 0) (by omega) (by omega) (gt o 0).1)
            go_wp2_with fail
            go_ret
            exact drawnO_set HS1.out (by simp) (by omega) (by omega) (HR3.out.set (by omega) _) (chg_set HC3.out hgb _) ⟨_, rfl⟩
          case neg =>
            have e1' : (s == 1) = false := by simpa using e1
            clear e1
            by_cases e2 : s = 2
            case pos =>
              subst e2
              obtain ⟨d0, d1, g0, g1, _, _, _⟩ := HO3.out.at (j := m) (by omega)
              have HS1 := hid (HO3.out.store (j := m) (i := 1) (by omega) (by omega) 4)
              go_wp2_with fail
              go_ret
              exact drawnO_set HS1.out (by simp) (by omega) (by omega) (HR3.out.set (by omega) _) (chg_set HC3.out hgb _) ⟨_, rfl⟩
            case neg =>
              have e2' : (s == 2) = false := by simpa using e2
              clear e2
              go_wp2_with fail
              go_ret
              exact drawnO HO3.out (by omega) (by omega) HR3.out HC3.out ⟨_, rfl⟩
end Go.Proofs.Ytigemahbopligaa
