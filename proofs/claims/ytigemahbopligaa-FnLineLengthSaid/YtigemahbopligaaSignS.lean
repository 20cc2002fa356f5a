/- What the laws' helpers on signs do. -/
import Derived.Test.YtigemahbopligaaStrs2
import Derived.Test.YtigemahbopligaaStrokes
import Derived.Test.YtigemahbopligaaWordPure
namespace Go.Proofs.Ytigemahbopligaa
open Go.RowKit
theorem RdAt.sign {D : Nat → Prop} {w : World} {b off n : Nat} {l : List SignT} (h : RdAt signS D w b off n l) {k : Nat} (hk : k < n) :
    w.cell? ⟨b, off + k * 3, none⟩ = some (.string (gt l k).1) ∧ w.cell? ⟨b, off + k * 3 + 1, none⟩ = some (.int .i64 (gt l k).2.1) ∧ w.cell? ⟨b, off + k * 3 + 2, none⟩ = some (.int .i64 (gt l k).2.2) ∧ (gt l k).1.size ≤ 9223372036854775807 := by
  obtain ⟨f, hf, he, hg⟩ := h k hk
  have h0 := hf 0 (by show 0 < 3; omega)
  have h1 := hf 1 (by show 1 < 3; omega)
  have h2 := hf 2 (by show 2 < 3; omega)
  rw [show f 0 = _ from he.1] at h0
  rw [show f 1 = _ from hg.1] at h1
  rw [show f 2 = _ from hg.2] at h2
  exact ⟨h0, h1, h2, he.2⟩
theorem at_get3 {w : World} {b e : Nat} {x y z : Value} (h : w.heap[b]? = some (.cells #[x, y, z] e (0, 0))) : w.cell? ⟨b, 0, none⟩ = some x ∧ w.cell? ⟨b, 1, none⟩ = some y ∧ w.cell? ⟨b, 2, none⟩ = some z ∧ w.frozen? ⟨b, 0, none⟩ = false ∧ w.frozen? ⟨b, 1, none⟩ = false ∧ w.frozen? ⟨b, 2, none⟩ = false :=
  ⟨by rw [cell_of_row w _ _ _ _ (0, 0) h]; rfl, by rw [cell_of_row w _ _ _ _ (0, 0) h]; rfl, by rw [cell_of_row w _ _ _ _ (0, 0) h]; rfl, frozen_of_row _ _ _ _ _ h, frozen_of_row _ _ _ _ _ h, frozen_of_row _ _ _ _ _ h⟩
theorem signS_flat : Shape.flat signS := fun _ _ _ _ _ _ h => h
theorem Filled.set3 {α : Type} [Inhabited α] {S : Shape α} {lo hi : Nat} {w : World} {g e n k : Nat} {l : List α} (h : Filled S lo hi w g e n k l) (hs : S.sz = 3) (hk : k < n) {v0 v1 v2 : Value} (hE : S.E (rng lo hi) w (gt l k) fun j => if j = 0 then v0 else if j = 1 then v1 else v2) (hg : g < lo ∨ hi ≤ g) :
    Filled S lo hi (((w.setCell ⟨g, k * 3, none⟩ v0).setCell ⟨g, k * 3 + 1, none⟩ v1).setCell ⟨g, k * 3 + 2, none⟩ v2) g e n (k + 1) l := by
  obtain ⟨cur, a1, a2, a3, a4, a5⟩ := h
  have kp : ∀ x f, S.E (rng lo hi) w x f → S.E (rng lo hi) (((w.setCell ⟨g, k * 3, none⟩ v0).setCell ⟨g, k * 3 + 1, none⟩ v1).setCell ⟨g, k * 3 + 2, none⟩ v2) x f := fun x f hx => S.keep _ _ _ _ _ (fun b o q =>
    have hne : ∀ i : Nat, (⟨b, o, none⟩ : Addr) ≠ ⟨g, i, none⟩ := fun i e => by have q1 := q.1; have q2 := q.2; injection e with e _; omega
    (World.cell?_setCell_other _ ⟨g, k * 3 + 2, none⟩ ⟨b, o, none⟩ v2 (fun e => by have q1 := q.1; have q2 := q.2; injection e with e _; omega)).trans ((World.cell?_setCell_other _ ⟨g, k * 3 + 1, none⟩ ⟨b, o, none⟩ v1 (fun e => by have q1 := q.1; have q2 := q.2; injection e with e _; omega)).trans (World.cell?_setCell_other w ⟨g, k * 3, none⟩ ⟨b, o, none⟩ v0 (fun e => by have q1 := q.1; have q2 := q.2; injection e with e _; omega)))) hx
  refine ⟨((cur.setIfInBounds (k * 3) v0).setIfInBounds (k * 3 + 1) v1).setIfInBounds (k * 3 + 2) v2, heap_setCell_same _ g _ _ e v2 (heap_setCell_same _ g _ _ e v1 (heap_setCell_same w g _ cur e v0 a1)), by simpa using a2, a3, a4, fun j hj => ?_⟩
  rw [hs] at a2
  by_cases hjk : j = k
  · subst hjk
    refine ⟨_, fun i hi => ?_, kp _ _ hE⟩
    rw [hs] at hi ⊢
    by_cases hz : i = 0
    · subst hz
      simp [show j * 3 < cur.size by omega]
    · by_cases hz1 : i = 1
      · subst hz1
        simp [show j * 3 + 1 < cur.size by omega]
      · obtain rfl : i = 2 := by omega
        simp [show j * 3 + 2 < cur.size by omega]
  · obtain ⟨f, hf, he⟩ := a5 j (by omega)
    refine ⟨f, fun i hi => ?_, kp _ _ he⟩
    have := hf i hi
    rw [hs] at this hi ⊢
    rw [Array.getElem?_setIfInBounds, if_neg (by omega), Array.getElem?_setIfInBounds, if_neg (by omega), Array.getElem?_setIfInBounds, if_neg (by omega)]
    exact this
/-! Sizes. -/
def szGG : List SignT → Int → Int
  | [], l => l
  | x :: r, l => if l - x.1.size < 0 then -1 else szGG r (l - x.1.size)
def szSg (bs : List SignT) (l : Int) : Int := if l - bs.length < 0 then -1 else szGG bs (l - bs.length)
theorem szGG_ub : ∀ (bs : List SignT) (l : Int), 0 ≤ l → szGG bs l ≤ l ∧ -1 ≤ szGG bs l
  | [], l, h => by unfold szGG; omega
  | x :: r, l, h => by
    unfold szGG
    split
    · omega
    · have := szGG_ub r (l - x.1.size) (by omega)
      omega
theorem szSg_ub {bs : List SignT} {l : Int} (h : 0 ≤ l) : szSg bs l ≤ l ∧ -1 ≤ szSg bs l := by
  unfold szSg
  split
  · omega
  · have := szGG_ub bs (l - bs.length) (by omega)
    omega
theorem szSg_len {bs : List SignT} {l : Int} (h0 : 0 ≤ l) (h : 0 ≤ szSg bs l) : (bs.length : Int) ≤ l := by
  unfold szSg at h
  split at h
  · omega
  · omega
set_option maxHeartbeats 400000 in
theorem szSign_any (left d z : Int) (s : ByteArray) (w : World) (hs : s.size ≤ 9223372036854775807) (h0 : 0 ≤ left) (h1 : left ≤ 1048576) :
    Calls Try.prog 62 #[.agg #[.string s, .int .i64 d, .int .i64 z], .int .i64 left] w fun e w' => e = .returned (.int .i64 (szI s.size left)) ∧ Below w.heap.size w w' := by
  have HB := hid (fun o : Obj => bnew w o)
  have hwr : IntKind.i64.wrap (left - (s.size : Int)) = left - (s.size : Int) := IntWalk.i64_in _ (by omega)
  by_cases h : left - s.size < 0
  · have HH := hid (show szI s.size left = -1 by simp [szI, h])
    go_enter Try.func62, Try.ntmps62
    go_wp2_with fail
    go_ret
    exact ⟨ret_int HH.out.symm, HB.out _⟩
  · have HH := hid (show szI s.size left = left - s.size by simp only [szI, if_neg h])
    go_enter Try.func62, Try.ntmps62
    go_wp2_with fail
    go_ret
    exact ⟨ret_int HH.out.symm, HB.out _⟩
set_option maxHeartbeats 400000 in
theorem szSignS_any (A : Option Addr) (n c lo : Nat) (left : Int) (bs : List SignT) (w : World) (hx : Rd signS lo w.heap.size w A n bs) (h0 : 0 ≤ left) (h1 : left ≤ 1048576) :
    Calls Try.prog 32 #[.slice A n c, .int .i64 left] w fun e w' => e = .returned (.int .i64 (szSg bs left)) ∧ Below w.heap.size w w' := by
  obtain ⟨e1, e2, e3⟩ := hx
  have E1 := hid e1; clear e1
  have E3 := hid e3; clear e3
  by_cases h : left - n < 0
  · have HH := hid (show szSg bs left = -1 by simp [szSg, ← E1.out, h])
    go_enter Try.func32, Try.ntmps32
    go_wp2_with fail
    go_ret
    exact ⟨ret_int HH.out.symm, Below.refl _ _⟩
  · have HH := hid (show szSg bs left = szGG (bs.drop 0) (left - n) by simp only [szSg, ← E1.out, if_neg h, List.drop_zero])
    go_enter Try.func32, Try.ntmps32
    go_wp2_with fail
    go_loopw [1, 5] (fun l i wr => ∃ (k : Nat) (m : Int), k ≤ n ∧ i = .int .i64 k ∧ l = .int .i64 m ∧ 0 ≤ m ∧ m ≤ 1048576 ∧ szSg bs left = szGG (bs.drop k) m ∧ Below w.heap.size w wr) (fun _ i _ => n - (intOf i).toNat)
    case atStart => exact ⟨0, _, Nat.zero_le _, rfl, rfl, by omega, by omega, HH.out, Below.refl _ _⟩
    case round =>
      obtain ⟨k, m, hk, rfl, rfl, hm0, hm1, hr, hb⟩ := hrel
      have HR := hid hr; clear hr
      have HB := hid hb; clear hb
      clear HH
      by_cases hlt : k < n
      · obtain ⟨b, off, rfl, _, hbb, hcx⟩ := E3.out (by omega)
        obtain ⟨x0, x1, x2, x4⟩ := hcx.sign hlt
        have cx0 := bcl HB.out x0
        have cx1 := bcl HB.out x1
        have cx2 := bcl HB.out x2
        have HD := hid (drop_gt (l := bs) (by rw [← E1.out]; exact hlt))
        have hcall := fun w1 => szSign_any m (gt bs k).2.1 (gt bs k).2.2 (gt bs k).1 w1 x4 hm0 hm1
        have HCA := hid hcall
        clear hcx x0 x1 x2 hcall
        by_cases hs : m - (gt bs k).1.size < 0
        · have hse : szI (gt bs k).1.size m = -1 := by simp [szI, hs]
          have HSE := hid hse
          clear hse
          go_wp2_with fail
          refine (HCA.out _).mono ?_
          rw [HSE.out]
          rintro e w1 ⟨rfl, hb1⟩
          have HB1 := hid (btr HB.out hb1); clear hb1
          go_wp2_with fail
          go_ret
          exact ⟨ret_int (by rw [HR.out, HD.out, szGG]; exact (if_pos hs).symm), HB1.out⟩
        · have hse : szI (gt bs k).1.size m = m - (gt bs k).1.size := by simp only [szI, if_neg hs]
          have HSE := hid hse
          clear hse
          go_wp2_with fail
          refine (HCA.out _).mono ?_
          rw [HSE.out]
          rintro e w1 ⟨rfl, hb1⟩
          have HB1 := hid (btr HB.out hb1); clear hb1
          go_wp2_with fail
          go_roundw
          case rel => exact ⟨k + 1, _, by omega, by go_num, rfl, by omega, by omega, (by rw [HR.out, HD.out, szGG]; exact if_neg (Int.not_lt.2 hs)), HB1.out⟩
          case measure => simp [intOf]; omega
      · obtain rfl : k = n := by omega
        go_wp2_with fail
        go_ret
        exact ⟨ret_int (by rw [HR.out, List.drop_eq_nil_of_le (by rw [E1.out]; omega)]; rfl), HB.out⟩
set_option maxHeartbeats 400000 in
theorem eqSign_any (s t : ByteArray) (p q : Int × Int) (w : World) :
    Calls Try.prog 64 #[.agg #[.string s, .int .i64 p.1, .int .i64 p.2], .agg #[.string t, .int .i64 q.1, .int .i64 q.2]] w fun e w' => e = .returned (.bool (eqD (s, p) (t, q))) ∧ Below w.heap.size w w' := by
  have hB : ∀ x y : Obj, Below w.heap.size w ((w.alloc x).alloc y) := fun x y => ((Below.refl _ _).alloc (Nat.le_refl _) _).alloc (by simp) _
  have HB := hid hB; clear hB
  have hP : eqD (s, p) (t, q) = (eqD s t && eqD p q) := rfl
  have HP := hid hP; clear hP
  by_cases h : s = t
  · have h1 : (s.toList == t.toList) = true := by rw [h]; exact str_eq _
    have HH := hid h; clear h
    obtain ⟨z, hz⟩ : ∃ z, eqD p q = z := ⟨_, rfl⟩
    have HZ := hid hz
    have hc := fun w1 => eqStroke_any p.1 p.2 q.1 q.2 w1
    rw [show eqD (p.1, p.2) (q.1, q.2) = z from hz] at hc
    have HC := hid hc
    clear hz hc
    cases z
    · go_enter Try.func64, Try.ntmps64
      go_wp2_with fail
      refine (HC.out _).mono ?_
      rintro e w1 ⟨rfl, hb1⟩
      go_wp2
      go_ret
      exact ⟨ret_bool (by rw [HP.out, HZ.out, Bool.and_false]), btr (HB.out _ _) hb1⟩
    · go_enter Try.func64, Try.ntmps64
      go_wp2_with fail
      refine (HC.out _).mono ?_
      rintro e w1 ⟨rfl, hb1⟩
      go_wp2
      go_ret
      exact ⟨ret_bool (by rw [HP.out, HH.out, eqD_self, HZ.out]; rfl), btr (HB.out _ _) hb1⟩
  · have h1 : (s.toList == t.toList) = false := str_ne h
    have HH := hid h; clear h
    go_enter Try.func64, Try.ntmps64
    go_wp2
    go_ret
    exact ⟨ret_bool (by rw [HP.out, eqD_no HH.out, Bool.false_and]), HB.out _ _⟩
set_option maxHeartbeats 400000 in
theorem eqSignS_any (A A' : Option Addr) (n n' c c' lo lo' : Nat) (xs ys : List SignT) (w : World) (hx : Rd signS lo w.heap.size w A n xs) (hy : Rd signS lo' w.heap.size w A' n' ys) :
    Calls Try.prog 36 #[.slice A n c, .slice A' n' c'] w fun e w' => e = .returned (.bool (eqD xs ys)) ∧ Below w.heap.size w w' := by
  obtain ⟨e1, e2, e3⟩ := hx
  have E1 := hid e1; clear e1
  have E3 := hid e3; clear e3
  obtain ⟨f1, f2, f3⟩ := hy
  have F1 := hid f1; clear f1
  have F3 := hid f3; clear f3
  by_cases hne : n = n'
  · have h1 : ((n : Int) != (n' : Int)) = false := by simp [hne]
    have HE := hid hne; clear hne
    go_enter Try.func36, Try.ntmps36
    go_wp2
    go_loopw [5] (fun i wr => ∃ k : Nat, k ≤ n ∧ i = .int .i64 k ∧ eqD xs ys = eqD (xs.drop k) (ys.drop k) ∧ Below w.heap.size w wr) (fun i _ => n - (intOf i).toNat)
    case atStart => exact ⟨0, Nat.zero_le _, rfl, by simp, Below.refl _ _⟩
    case round =>
      obtain ⟨k, hk, rfl, htk, hb⟩ := hrel
      have HT := hid htk; clear htk
      by_cases hlt : k < n
      · have hlt' : k < n' := by have := HE.out; omega
        obtain ⟨b, off, rfl, _, hbb, hcx⟩ := E3.out (by omega)
        obtain ⟨b', off', rfl, _, hbb', hcy⟩ := F3.out (by omega)
        have hki : (k : Int) < (n : Int) := by omega
        have hki' : (k : Int) < (n' : Int) := by omega
        obtain ⟨x0, x1, x2, _⟩ := hcx.sign hlt
        obtain ⟨y0, y1, y2, _⟩ := hcy.sign hlt'
        have cx0 := aft_cell hbb x0
        have cx1 := aft_cell hbb x1
        have cx2 := aft_cell hbb x2
        have cy0 := aft_cell hbb' y0
        have cy1 := aft_cell hbb' y1
        have cy2 := aft_cell hbb' y2
        have hD := hid (And.intro (drop_gt (l := xs) (by rw [← E1.out]; exact hlt)) (drop_gt (l := ys) (by rw [← F1.out]; exact hlt')))
        have call : ∀ p : Aft w.heap.size w, Calls Try.prog 64 #[.agg #[.string (gt xs k).1, .int .i64 (gt xs k).2.1, .int .i64 (gt xs k).2.2], .agg #[.string (gt ys k).1, .int .i64 (gt ys k).2.1, .int .i64 (gt ys k).2.2]] p.val fun e w'' => e = .returned (.bool (eqD (gt xs k) (gt ys k))) ∧ ∃ q : Aft w.heap.size w, w'' = q.val :=
          fun p => aft_call (eqSign_any _ _ _ _ _) (Nat.le_refl _)
        have Hcall := hid call; clear call
        clear hcx hcy x0 x1 y0 y1 x2 y2
        go_wp2_with fail
        refine wp_region_aft hb (by kernel_rfl) (by kernel_rfl) ?_
        repeat (go_big_quiet_step ((go_at_call 64; exact Hcall.out _)))
        refine wpQuiet_nil ?_
        rintro _ ⟨⟨w2, hb2⟩, rfl⟩
        clear cx0 cx1 cy0 cy1 hb cx2 cy2
        by_cases hxy : eqD (gt xs k) (gt ys k) = true
        · have hnn : (!eqD (gt xs k) (gt ys k)) = false := by rw [hxy]; rfl
          rw [hnn]
          clear hnn
          go_wp2
          go_roundw
          case rel => exact ⟨k + 1, by omega, by go_num, by rw [HT.out, hD.out.1, hD.out.2, eqD_cons, hxy, Bool.true_and], hb2⟩
          case measure => simp [intOf]; omega
        · have hxy' : eqD (gt xs k) (gt ys k) = false := by simpa using hxy
          clear hxy
          have hnn : (!eqD (gt xs k) (gt ys k)) = true := by rw [hxy']; rfl
          rw [hnn]
          clear hnn
          go_wp2
          go_ret
          exact ⟨ret_bool (by rw [HT.out, hD.out.1, hD.out.2, eqD_cons, hxy', Bool.false_and]), hb2⟩
      · obtain rfl : k = n := by omega
        go_wp2
        go_ret
        exact ⟨ret_bool (by rw [HT.out, List.drop_eq_nil_of_le (by rw [E1.out]; omega), List.drop_eq_nil_of_le (by rw [← F1.out, ← HE.out]; omega)]; rfl), hb⟩
  · have h1 : ((n : Int) != (n' : Int)) = true := by simp; omega
    have hxy : xs ≠ ys := fun h => hne (by rw [E1.out, F1.out, h])
    have HN := hid hne; clear hne
    have HXY := hid hxy; clear hxy
    go_enter Try.func36, Try.ntmps36
    go_wp2
    go_ret
    exact ⟨ret_bool (by rw [eqD_no HXY.out]), Below.refl _ _⟩
set_option maxHeartbeats 400000 in
theorem toSign_any (s : ByteArray) (p q : Int) (w : World) :
    Calls Try.prog 63 #[.agg #[.string s, .int .i64 p, .int .i64 q]] w fun e w' => e = .returned (.agg #[.string s, .int .i64 p, .int .i64 q]) ∧ Below w.heap.size w w' := by
  have hB3 : ∀ (x y z : Obj), Below w.heap.size w (((w.alloc x).alloc y).alloc z) := fun x y z => bal (bal (bnew _ _) _) _
  have HB := hid hB3; clear hB3
  have hC : ∀ x y z : Obj, (((w.alloc x).alloc y).alloc z).heap[w.heap.size + 2]? = some z := fun x y z => by
    have := heap_alloc_new ((w.alloc x).alloc y) z
    rw [World.size_alloc, World.size_alloc] at this
    exact this
  have hR : ∀ x y z : Obj, (((w.alloc x).alloc y).alloc z).heap[w.heap.size + 1]? = some y := fun x y z => by
    have h1 := heap_alloc_new (w.alloc x) y
    rw [World.size_alloc] at h1
    exact ((bnew ((w.alloc x).alloc y) z).block (w.heap.size + 1) (by rw [World.size_alloc, World.size_alloc]; omega)).trans h1
  have HC := hid hC; clear hC
  have HR := hid hR; clear hR
  go_enter Try.func63, Try.ntmps63
  go_wp2_with fail
  refine (toStroke_any _ _ _).mono ?_
  rintro e w1 ⟨rfl, hb1⟩
  have hc1 := (hb1.block (w.heap.size + 2) (by simp)).trans (HC.out _ _ _)
  have hr1 := (hb1.block (w.heap.size + 1) (by simp)).trans (HR.out _ _ _)
  obtain ⟨a0, a1, a2, a3, a4, a5⟩ := at_get3 hc1
  obtain ⟨r0, r1, r2, r3, r4, r5⟩ := at_get3 hr1
  have hb2 := hid (btr (HB.out _ _ _) hb1)
  clear hb1 hc1 hr1
  go_wp2_with fail
  refine bodyPost_ret (v := .agg #[.string s, .int .i64 p, .int .i64 q]) (by simp [results, Try.results63, go_sem, r0, r1, r2]) rfl ⟨rfl, ?_⟩
  repeat (first | exact hb2.out | refine bsc ?_ (by dsimp only; omega) _)
set_option maxHeartbeats 400000 in
theorem toSignS_any (A : Option Addr) (n c lo : Nat) (xs : List SignT) (w : World) (hx : Rd signS lo w.heap.size w A n xs) (hn : n ≤ 1048576) :
    Calls Try.prog 34 #[.slice A n c] w fun e w' => ∃ g, e = .returned (.slice (some ⟨g, 0, none⟩) n n) ∧ Rd signS w.heap.size w'.heap.size w' (some ⟨g, 0, none⟩) n xs ∧ Below w.heap.size w w' := by
  obtain ⟨i0, hi, hz0, hz1, hz2⟩ := info_parts (show (Try.prog.info? 100).map (fun i => (i.zero, i.size, i.bytes)) = some (some (.agg #[.string ⟨#[]⟩, .int .i64 0, .int .i64 0]), 3, 32) by kernel_rfl)
  have hmk := fun w => make_rule (P := Try.prog) Try.underlying44 hi hz0 hz1 hz2 (n := n) (by omega) (by omega) w
  have F0 := fun w => Filled.new signS w.heap.size w.heap.size w 100 (madeCells (Value.agg #[.string ⟨#[]⟩, .int .i64 0, .int .i64 0]).cells (n * 3)) xs (by rw [size_madeCells, ← hx.1]; rfl) (by have := hx.1; omega)
  obtain ⟨e1, e2, e3⟩ := hx
  have E1 := hid e1; clear e1
  have E3 := hid e3; clear e3
  clear hi hz0 hz1 hz2
  go_enter Try.func34, Try.ntmps34
  go_wp2
  clear hmk
  go_loopw [4] (fun i wr => ∃ k : Nat, k ≤ n ∧ i = .int .i64 k ∧ Filled signS w.heap.size w.heap.size wr w.heap.size 100 n k xs ∧ Below w.heap.size w wr) (fun i _ => n - (intOf i).toNat)
  case atStart => exact ⟨0, Nat.zero_le _, rfl, by have := F0 w; rw [← E1.out] at this; exact this, (Below.refl _ _).alloc (Nat.le_refl _) _⟩
  case round =>
    obtain ⟨k, hk, rfl, hF, hb⟩ := hrel
    clear F0
    by_cases hlt : k < n
    · obtain ⟨b, off, rfl, _, hbb, hcx⟩ := E3.out (by omega)
      obtain ⟨x0, x1, x2, x4⟩ := hcx.sign hlt
      have cx0 := (hb.cell (p := ⟨b, off + k * 3, none⟩) hbb).trans x0
      have cx1 := (hb.cell (p := ⟨b, off + k * 3 + 1, none⟩) hbb).trans x1
      have cx2 := (hb.cell (p := ⟨b, off + k * 3 + 2, none⟩) hbb).trans x2
      have X4 := hid x4
      clear hcx x0 x1 x2
      go_wp2_with fail
      refine (toSign_any _ _ _ _).mono ?_
      rintro e w1 ⟨rfl, hb1⟩
      have hF1 := hF.keep hb1 hF.lt (Nat.le_of_lt hF.lt)
      obtain ⟨⟨v0, d0⟩, f0⟩ := hF1.at_ (i := k * 3) (by show k * 3 < n * 3; omega)
      obtain ⟨⟨v1, d1⟩, f1⟩ := hF1.at_ (i := k * 3 + 1) (by show k * 3 + 1 < n * 3; omega)
      obtain ⟨⟨v2, d2⟩, f2⟩ := hF1.at_ (i := k * 3 + 2) (by show k * 3 + 2 < n * 3; omega)
      have hlt1 := hF.lt
      clear cx0 cx1 cx2
      go_wp2
      go_roundw
      case rel => exact ⟨k + 1, by omega, by go_num, hF1.set3 rfl hlt ⟨⟨rfl, X4.out⟩, rfl, rfl⟩ (by omega), (((hb.trans (hb1.mono hb.size)).setCell (by simp) _).setCell (by simp) _).setCell (by simp) _⟩
      case measure => simp [intOf]; omega
    · obtain rfl : k = n := by omega
      go_wp2
      go_ret
      exact ⟨_, rfl, hF.done (Nat.le_refl _) hF.lt (Nat.le_refl _) hb.size, hb⟩
end Go.Proofs.Ytigemahbopligaa
