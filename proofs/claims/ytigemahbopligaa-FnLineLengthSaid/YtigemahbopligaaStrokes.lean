/- What the laws' helpers on strokes do. -/
import Derived.Test.YtigemahbopligaaPage
namespace Go.Proofs.Ytigemahbopligaa
open Go.RowKit

set_option maxHeartbeats 400000 in
theorem toStroke_any (d s : Int) (w : World) :
    Calls Try.prog 41 #[.agg #[.int .i64 d, .int .i64 s]] w fun e w' => e = .returned (.agg #[.int .i64 d, .int .i64 s]) ∧ Below w.heap.size w w' := by
  go_enter Try.func41, Try.ntmps41
  go_wp2
  refine bodyPost_ret (v := .agg #[.int .i64 d, .int .i64 s]) (by simp [results, Try.results41, go_sem]) rfl ⟨rfl, ?_⟩
  exact (((Below.refl _ _).alloc (Nat.le_refl _) _).alloc (by simp) _).alloc (by simp <;> omega) _
set_option maxHeartbeats 400000 in
theorem toStrokeS_fill (A : Option Addr) (n c lo : Nat) (xs : List (Int × Int)) (w : World) (hx : Rd strokeS lo w.heap.size w A n xs) (hn : n ≤ 1048576) :
    Calls Try.prog 12 #[.slice A n c] w fun e w' => ∃ g, e = .returned (.slice (some ⟨g, 0, none⟩) n n) ∧ Filled strokeS w.heap.size w.heap.size w' g 64 n n xs ∧ w.heap.size ≤ g ∧ Below w.heap.size w w' ∧ ∃ cur : Array Value, w'.heap[g]? = some (.cells cur 64 (0, 0)) ∧ cur.size = n * 2 := by
  obtain ⟨i0, hi, hz0, hz1, hz2⟩ := info_parts (show (Try.prog.info? 64).map (fun i => (i.zero, i.size, i.bytes)) = some (some (.agg #[.int .i64 0, .int .i64 0]), 2, 16) by kernel_rfl)
  have hmk := fun w => make_rule (P := Try.prog) Try.underlying24 hi hz0 hz1 hz2 (n := n) (by omega) (by omega) w
  have F0 := fun w => Filled.new strokeS w.heap.size w.heap.size w 64 (madeCells #[.int .i64 0, .int .i64 0] (n * 2)) xs (by rw [size_madeCells, ← hx.1]; rfl) (by have := hx.1; omega)
  obtain ⟨e1, e2, e3⟩ := hx
  have E1 := hid e1; clear e1
  have E3 := hid e3; clear e3
  clear hi hz0 hz1 hz2
  go_enter Try.func12, Try.ntmps12
  go_wp2
  clear hmk
  go_loopw [4] (fun i wr => ∃ k : Nat, k ≤ n ∧ i = .int .i64 k ∧ Filled strokeS w.heap.size w.heap.size wr w.heap.size 64 n k xs ∧ Below w.heap.size w wr ∧ ∃ cur : Array Value, wr.heap[w.heap.size]? = some (.cells cur 64 (0, 0)) ∧ cur.size = n * 2) (fun i _ => n - (intOf i).toNat)
  case atStart => exact ⟨0, Nat.zero_le _, rfl, by have := F0 w; rw [← E1.out] at this; exact this, (Below.refl _ _).alloc (Nat.le_refl _) _, _, heap_alloc_new _ _, size_madeCells _ _⟩
  case round =>
    obtain ⟨k, hk, rfl, hF, hb, hcur⟩ := hrel
    have HC := hid hcur; clear hcur
    clear F0
    by_cases hlt : k < n
    · obtain ⟨b, off, rfl, _, hbb, hcx⟩ := E3.out (by omega)
      obtain ⟨c1, c2⟩ := hcx.stroke hlt
      have cx := (hb.cell (p := ⟨b, off + k * 2, none⟩) hbb).trans c1
      have cy := (hb.cell (p := ⟨b, off + k * 2 + 1, none⟩) hbb).trans c2
      clear hcx c1 c2
      go_wp2_with fail
      refine (toStroke_any _ _ _).mono ?_
      rintro e w1 ⟨rfl, hb1⟩
      have hF1 := hF.keep hb1 hF.lt (Nat.le_of_lt hF.lt)
      obtain ⟨⟨v, c1⟩, f1⟩ := hF1.at_ (i := k * 2) (by show k * 2 < n * 2; omega)
      obtain ⟨⟨v', c2⟩, f2⟩ := hF1.at_ (i := k * 2 + 1) (by show k * 2 + 1 < n * 2; omega)
      have hlt1 := hF.lt
      clear cx cy
      go_wp2
      go_roundw
      case rel =>
        refine ⟨k + 1, by omega, by go_num, hF1.set2 rfl hlt ⟨rfl, rfl⟩ (by omega), ((hb.trans (hb1.mono hb.size)).setCell (by simp) _).setCell (by simp) _, ?_⟩
        obtain ⟨cur, q1, q2⟩ := HC.out
        exact ⟨_, heap_setCell_same _ _ _ _ _ _ (heap_setCell_same _ _ _ _ _ _ ((hb1.block _ hlt1).trans q1)), by simpa using q2⟩
      case measure => simp [intOf]; omega
    · obtain rfl : k = n := by omega
      go_wp2
      go_ret
      exact ⟨_, rfl, hF, Nat.le_refl _, hb, HC.out⟩
theorem toStrokeS_any (A : Option Addr) (n c lo : Nat) (xs : List (Int × Int)) (w : World) (hx : Rd strokeS lo w.heap.size w A n xs) (hn : n ≤ 1048576) :
    Calls Try.prog 12 #[.slice A n c] w fun e w' => ∃ g, e = .returned (.slice (some ⟨g, 0, none⟩) n n) ∧ Rd strokeS w.heap.size w'.heap.size w' (some ⟨g, 0, none⟩) n xs ∧ Below w.heap.size w w' :=
  (toStrokeS_fill A n c lo xs w hx hn).mono fun _ _ ⟨g, h1, h2, h3, h4, _⟩ => ⟨g, h1, h2.done h3 h2.lt (Nat.le_refl _) h4.size, h4⟩
set_option maxHeartbeats 400000 in
theorem szStrokeS_any (A : Option Addr) (n c : Nat) (left : Int) (w : World) (hn : n ≤ 9223372036854775807) (h0 : 0 ≤ left) (h1 : left ≤ 1048576) :
    Calls Try.prog 10 #[.slice A n c, .int .i64 left] w fun e w' => e = .returned (.int .i64 (szI n left)) ∧ w = w' := by
  by_cases h : left - n < 0
  · have H : szI n left = -1 := by simp [szI, h]
    have HH := hid H; clear H
    go_enter Try.func10, Try.ntmps10
    go_wp2
    go_ret
    exact ⟨ret_int HH.out.symm, rfl⟩
  · have H : szI n left = left - n := by simp only [szI, if_neg h]
    have HH := hid H; clear H
    go_enter Try.func10, Try.ntmps10
    go_wp2
    go_ret
    exact ⟨ret_int HH.out.symm, rfl⟩
set_option maxHeartbeats 400000 in
theorem eqStroke_any (d s d' s' : Int) (w : World) :
    Calls Try.prog 46 #[.agg #[.int .i64 d, .int .i64 s], .agg #[.int .i64 d', .int .i64 s']] w fun e w' => e = .returned (.bool (eqD (d, s) (d', s'))) ∧ Below w.heap.size w w' := by
  have hB : ∀ x y : Obj, Below w.heap.size w ((w.alloc x).alloc y) := fun x y => ((Below.refl _ _).alloc (Nat.le_refl _) _).alloc (by simp) _
  have HB := hid hB; clear hB
  by_cases h : d = d'
  · by_cases h2 : s = s'
    · subst h h2
      go_enter Try.func46, Try.ntmps46
      go_wp2
      go_ret
      exact ⟨ret_bool (eqD_self _).symm, HB.out _ _⟩
    · subst h
      have t : (s != s') = true := by simp [h2]
      have H2 := hid h2; clear h2
      go_enter Try.func46, Try.ntmps46
      go_wp2
      go_ret
      exact ⟨ret_bool (eqD_no (by simp [H2.out])).symm, HB.out _ _⟩
  · have t : (d != d') = true := by simp [h]
    have H2 := hid h; clear h
    go_enter Try.func46, Try.ntmps46
    go_wp2
    go_ret
    exact ⟨ret_bool (eqD_no (by simp [H2.out])).symm, HB.out _ _⟩
set_option maxHeartbeats 400000 in
theorem eqStrokeS_any (A A' : Option Addr) (n n' c c' lo lo' : Nat) (xs ys : List (Int × Int)) (w : World) (hx : Rd strokeS lo w.heap.size w A n xs) (hy : Rd strokeS lo' w.heap.size w A' n' ys) :
    Calls Try.prog 14 #[.slice A n c, .slice A' n' c'] w fun e w' => e = .returned (.bool (eqD xs ys)) ∧ Below w.heap.size w w' := by
  obtain ⟨e1, e2, e3⟩ := hx
  have E1 := hid e1; clear e1
  have E3 := hid e3; clear e3
  obtain ⟨f1, f2, f3⟩ := hy
  have F1 := hid f1; clear f1
  have F3 := hid f3; clear f3
  by_cases hne : n = n'
  · have h1 : ((n : Int) != (n' : Int)) = false := by simp [hne]
    have HE := hid hne; clear hne
    go_enter Try.func14, Try.ntmps14
    go_wp2
    go_loopw [5] (fun i wr => ∃ k : Nat, k ≤ n ∧ i = .int .i64 k ∧ eqD xs ys = eqD (xs.drop k) (ys.drop k) ∧ Below w.heap.size w wr) (fun i _ => n - (intOf i).toNat)
    case atStart => exact ⟨0, Nat.zero_le _, rfl, by simp, Below.refl _ _⟩
    case round =>
      obtain ⟨k, hk, rfl, htk, hb⟩ := hrel
      have HT := hid htk; clear htk
      by_cases hlt : k < n
      · have hlt' : k < n' := by have := HE.out; omega
        obtain ⟨b, off, rfl, _, hbb, hcx⟩ := E3.out (by omega)
        obtain ⟨b', off', rfl, _, hbb', hcy⟩ := F3.out (by omega)
        have hki : (k : Int) < (n : Int) := by omega
        have hki' : (k : Int) < (n' : Int) := by omega
        have cx0 := aft_cell hbb (hcx.stroke hlt).1
        have cx1 := aft_cell hbb (hcx.stroke hlt).2
        have cy0 := aft_cell hbb' (hcy.stroke hlt').1
        have cy1 := aft_cell hbb' (hcy.stroke hlt').2
        have hD := hid (And.intro (drop_gt (l := xs) (by rw [← E1.out]; exact hlt)) (drop_gt (l := ys) (by rw [← F1.out]; exact hlt')))
        have call : ∀ p : Aft w.heap.size w, Calls Try.prog 46 #[.agg #[.int .i64 (gt xs k).1, .int .i64 (gt xs k).2], .agg #[.int .i64 (gt ys k).1, .int .i64 (gt ys k).2]] p.val fun e w'' => e = .returned (.bool (eqD (gt xs k) (gt ys k))) ∧ ∃ q : Aft w.heap.size w, w'' = q.val :=
          fun p => aft_call (eqStroke_any _ _ _ _ _) (Nat.le_refl _)
        have Hcall := hid call; clear call
        clear hcx hcy
        go_wp2_with fail
        refine wp_region_aft hb (by kernel_rfl) (by kernel_rfl) ?_
        repeat (go_big_quiet_step ((go_at_call 46; exact Hcall.out _)))
        refine wpQuiet_nil ?_
        rintro _ ⟨⟨w2, hb2⟩, rfl⟩
        clear cx0 cx1 cy0 cy1 hb
        by_cases hxy : eqD (gt xs k) (gt ys k) = true
        · have hnn : (!eqD (gt xs k) (gt ys k)) = false := by rw [hxy]; rfl
          rw [hnn]
          clear hnn
          go_wp2
          go_roundw
          case rel => exact ⟨k + 1, by omega, by go_num, by rw [HT.out, hD.out.1, hD.out.2, eqD_cons, hxy, Bool.true_and], hb2⟩
          case measure => simp [intOf]; omega
        · have hxy' : eqD (gt xs k) (gt ys k) = false := by simpa using hxy
          clear hxy
          have hnn : (!eqD (gt xs k) (gt ys k)) = true := by rw [hxy']; rfl
          rw [hnn]
          clear hnn
          go_wp2
          go_ret
          exact ⟨ret_bool (by rw [HT.out, hD.out.1, hD.out.2, eqD_cons, hxy', Bool.false_and]), hb2⟩
      · obtain rfl : k = n := by omega
        go_wp2
        go_ret
        exact ⟨ret_bool (by rw [HT.out, List.drop_eq_nil_of_le (by rw [E1.out]; omega), List.drop_eq_nil_of_le (by rw [← F1.out, ← HE.out]; omega)]; rfl), hb⟩
  · have h1 : ((n : Int) != (n' : Int)) = true := by simp; omega
    have hxy : xs ≠ ys := fun h => hne (by rw [E1.out, F1.out, h])
    have HN := hid hne; clear hne
    have HXY := hid hxy; clear hxy
    go_enter Try.func14, Try.ntmps14
    go_wp2
    go_ret
    exact ⟨ret_bool (by rw [eqD_no HXY.out]), Below.refl _ _⟩
end Go.Proofs.Ytigemahbopligaa
