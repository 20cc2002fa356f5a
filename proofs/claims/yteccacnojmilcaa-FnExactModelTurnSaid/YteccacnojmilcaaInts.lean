/- What the laws' helpers on lists of integers do. -/
import Derived.Test.YteccacnojmilcaaLib
import Derived.Test.YteccacnojmilcaaProg
namespace Go.Proofs.Yteccacnojmilcaa
open Go.RowKit

set_option maxHeartbeats 400000 in
theorem toIntS_any (A : Option Addr) (n c lo : Nat) (xs : List Int) (w : World) (hx : Rd intS lo w.heap.size w A n xs) (hn : n ≤ 1048576) :
    Calls Try.prog 29 #[.slice A n c] w fun e w' => ∃ g, e = .returned (.slice (some ⟨g, 0, none⟩) n n) ∧ Rd intS w.heap.size w'.heap.size w' (some ⟨g, 0, none⟩) n xs ∧ Below w.heap.size w w' := by
  obtain ⟨i0, hi, hz0, hz1, hz2⟩ := info_parts (show (Try.prog.info? 3).map (fun i => (i.zero, i.size, i.bytes)) = some (some (.int .i64 0), 1, 8) by kernel_rfl)
  have hmk := fun w => make_rule (P := Try.prog) Try.underlying34 hi hz0 hz1 hz2 (n := n) (by omega) (by omega) w
  have F0 := fun w => Filled.new intS w.heap.size w.heap.size w 3 (madeCells #[Value.int .i64 0] n) xs (by rw [size_madeCells, ← hx.1]; show n = n * 1; omega) (by have := hx.1; omega)
  obtain ⟨e1, e2, e3⟩ := hx
  have E1 := hid e1; clear e1
  have E3 := hid e3; clear e3
  clear hi hz0 hz1 hz2
  go_enter Try.func29, Try.ntmps29
  go_wp2
  clear hmk
  go_loopw [4] (fun i wr => ∃ k : Nat, k ≤ n ∧ i = .int .i64 k ∧ Filled intS w.heap.size w.heap.size wr w.heap.size 3 n k xs ∧ Below w.heap.size w wr) (fun i _ => n - (intOf i).toNat)
  case atStart => exact ⟨0, Nat.zero_le _, rfl, by have := F0 w; rw [← E1.out] at this; exact this, (Below.refl _ _).alloc (Nat.le_refl _) _⟩
  case round =>
    obtain ⟨k, hk, rfl, hF, hb⟩ := hrel
    clear F0
    by_cases hlt : k < n
    · obtain ⟨b, off, rfl, _, hbb, hcx⟩ := E3.out (by omega)
      have cx := (hb.cell (p := ⟨b, off + k, none⟩) hbb).trans (hcx.int hlt)
      obtain ⟨⟨v, c1⟩, f1⟩ := hF.at_ (i := k) (by show k < n * 1; omega)
      clear hcx
      go_wp2
      go_roundw
      case rel => exact ⟨k + 1, by omega, by go_num, hF.set1 rfl hlt rfl (by omega), hb.setCell (by simp) _⟩
      case measure => simp [intOf]; omega
    · obtain rfl : k = n := by omega
      go_wp2
      go_ret
      exact ⟨_, rfl, hF.done (by omega) hF.lt (by omega) hb.size, hb⟩

def szI (n : Nat) (left : Int) : Int := if left - n < 0 then -1 else left - n
def szGo : List Nat → Int → Int
  | [], l => l
  | n :: r, l => if szI n l < 0 then -1 else szGo r (szI n l)
def szRows (rows : List (List Int)) (left : Int) : Int := if left - rows.length < 0 then -1 else szGo (rows.map List.length) (left - rows.length)

set_option maxHeartbeats 400000 in
theorem szIntS_any (A : Option Addr) (n c : Nat) (left : Int) (w : World) (hn : n ≤ 9223372036854775807) (h0 : 0 ≤ left) (h1 : left ≤ 1048576) :
    Calls Try.prog 32 #[.slice A n c, .int .i64 left] w fun e w' => e = .returned (.int .i64 (szI n left)) ∧ w = w' := by
  by_cases h : left - n < 0
  · have H : szI n left = -1 := by simp [szI, h]
    have HH := hid H; clear H
    go_enter Try.func32, Try.ntmps32
    go_wp2
    go_ret
    exact ⟨ret_int HH.out.symm, rfl⟩
  · have H : szI n left = left - n := by simp only [szI, if_neg h]
    have HH := hid H; clear H
    go_enter Try.func32, Try.ntmps32
    go_wp2
    go_ret
    exact ⟨ret_int HH.out.symm, rfl⟩
set_option maxHeartbeats 400000 in
theorem szIntSS_any (A : Option Addr) (n c lo : Nat) (left : Int) (rows : List (List Int)) (w : World) (hx : Rd (sliceS intS) lo w.heap.size w A n rows) (h0 : 0 ≤ left) (h1 : left ≤ 1048576) :
    Calls Try.prog 8 #[.slice A n c, .int .i64 left] w fun e w' => e = .returned (.int .i64 (szRows rows left)) ∧ w = w' := by
  obtain ⟨e1, e2, e3⟩ := hx
  have E1 := hid e1; clear e1
  have E3 := hid e3; clear e3
  by_cases h : left - n < 0
  · have HH := hid (show szRows rows left = -1 by simp [szRows, ← E1.out, h])
    go_enter Try.func8, Try.ntmps8
    go_wp2_with fail
    go_ret
    exact ⟨ret_int HH.out.symm, rfl⟩
  · have HH := hid (show szRows rows left = szGo ((rows.map List.length).drop 0) (left - n) by simp only [szRows, ← E1.out, if_neg h, List.drop_zero])
    go_enter Try.func8, Try.ntmps8
    go_wp2_with fail
    go_loop [1, 5] (fun l i => ∃ (k : Nat) (m : Int), k ≤ n ∧ i = .int .i64 k ∧ l = .int .i64 m ∧ 0 ≤ m ∧ m ≤ 1048576 ∧ szRows rows left = szGo ((rows.map List.length).drop k) m) (fun _ i => n - (intOf i).toNat)
    case atStart => exact ⟨0, _, Nat.zero_le _, rfl, rfl, by omega, by omega, HH.out⟩
    case round =>
      obtain ⟨k, m, hk, rfl, rfl, hm0, hm1, hr⟩ := hrel
      have HR := hid hr; clear hr
      clear HH
      by_cases hlt : k < n
      · obtain ⟨b, off, rfl, _, hbb, hcx⟩ := E3.out (by omega)
        obtain ⟨A', c', cx, _, hrow⟩ := hcx.row hlt
        have hl : (gt rows k).length ≤ 9223372036854775807 := hrow.2.1
        have hd : (rows.map List.length).drop k = (gt rows k).length :: (rows.map List.length).drop (k + 1) := by
          rw [drop_gt (by simp [← E1.out, hlt]), gt_map (by rw [← E1.out]; exact hlt)]
        have HD := hid hd; clear hd
        clear hcx hrow
        by_cases hs : szI (gt rows k).length m < 0
        · go_wp2_with (first | (go_at_call 32; refine (szIntS_any _ _ _ _ _ (by omega) (by omega) (by omega)).mono ?_; rintro e w' ⟨rfl, rfl⟩))
          go_ret
          exact ⟨ret_int (by rw [HR.out, HD.out, szGo, if_pos hs]), rfl⟩
        · have hs1 : szI (gt rows k).length m ≤ m := by unfold szI; split <;> omega
          go_wp2_with (first | (go_at_call 32; refine (szIntS_any _ _ _ _ _ (by omega) (by omega) (by omega)).mono ?_; rintro e w' ⟨rfl, rfl⟩))
          go_round
          case rel => exact ⟨k + 1, _, by omega, by go_num, rfl, by omega, by omega, by rw [HR.out, HD.out, szGo, if_neg (by omega)]⟩
          case measure => simp [intOf]; omega
      · obtain rfl : k = n := by omega
        go_wp2
        go_ret
        exact ⟨ret_int (by rw [HR.out, List.drop_eq_nil_of_le (by simp [← E1.out])]; rfl), rfl⟩
set_option maxHeartbeats 400000 in
theorem eqIntS_any (A A' : Option Addr) (n n' c c' lo lo' : Nat) (xs ys : List Int) (w : World) (hx : Rd intS lo w.heap.size w A n xs) (hy : Rd intS lo' w.heap.size w A' n' ys) :
    Calls Try.prog 31 #[.slice A n c, .slice A' n' c'] w fun e w' => e = .returned (.bool (eqD xs ys)) ∧ Below w.heap.size w w' := by
  obtain ⟨e1, e2, e3⟩ := hx
  have E1 := hid e1; clear e1
  have E3 := hid e3; clear e3
  obtain ⟨f1, f2, f3⟩ := hy
  have F1 := hid f1; clear f1
  have F3 := hid f3; clear f3
  by_cases hne : n = n'
  · have h1 : ((n : Int) != (n' : Int)) = false := by simp [hne]
    have HE := hid hne; clear hne
    go_enter Try.func31, Try.ntmps31
    go_wp2
    go_loopw [5] (fun i wr => ∃ k : Nat, k ≤ n ∧ i = .int .i64 k ∧ eqD xs ys = eqD (xs.drop k) (ys.drop k) ∧ Below w.heap.size w wr) (fun i _ => n - (intOf i).toNat)
    case atStart => exact ⟨0, Nat.zero_le _, rfl, by simp, Below.refl _ _⟩
    case round =>
      obtain ⟨k, hk, rfl, htk, hb⟩ := hrel
      have HT := hid htk; clear htk
      by_cases hlt : k < n
      · have hlt' : k < n' := by have := HE.out; omega
        obtain ⟨b, off, rfl, _, hbb, hcx⟩ := E3.out (by omega)
        obtain ⟨b', off', rfl, _, hbb', hcy⟩ := F3.out (by omega)
        have hki : (k : Int) < (n : Int) := by omega
        have hki' : (k : Int) < (n' : Int) := by omega
        have cx := aft_cell hbb (hcx.int hlt)
        have cy := aft_cell hbb' (hcy.int hlt')
        have hD := hid (And.intro (drop_gt (l := xs) (by rw [← E1.out]; exact hlt)) (drop_gt (l := ys) (by rw [← F1.out]; exact hlt')))
        clear hcx hcy
        go_wp2_with fail
        refine wp_region_aft hb (by kernel_rfl) (by kernel_rfl) ?_
        repeat (go_big_quiet_step (fail))
        refine wpQuiet_nil ?_
        rintro _ ⟨⟨w2, hb2⟩, rfl⟩
        clear cx cy hb
        by_cases hxy : gt xs k = gt ys k
        · have hxy' : (gt xs k != gt ys k) = false := by simp [hxy]
          have HXY := hid hxy; clear hxy
          go_wp2
          go_roundw
          case rel => exact ⟨k + 1, by omega, by go_num, by rw [HT.out, hD.out.1, hD.out.2, HXY.out, eqD_cons, eqD_self, Bool.true_and], hb2⟩
          case measure => simp [intOf]; omega
        · have hxy' : (gt xs k != gt ys k) = true := by simp [hxy]
          have HXY := hid hxy; clear hxy
          go_wp2
          go_ret
          exact ⟨ret_bool (by rw [HT.out, hD.out.1, hD.out.2, eqD_cons, eqD_no HXY.out, Bool.false_and]), hb2⟩
      · obtain rfl : k = n := by omega
        go_wp2
        go_ret
        exact ⟨ret_bool (by rw [HT.out, List.drop_eq_nil_of_le (by rw [E1.out]; omega), List.drop_eq_nil_of_le (by rw [← F1.out, ← HE.out]; omega)]; rfl), hb⟩
  · have h1 : ((n : Int) != (n' : Int)) = true := by simp; omega
    have hxy : xs ≠ ys := fun h => hne (by rw [E1.out, F1.out, h])
    have HN := hid hne; clear hne
    have HXY := hid hxy; clear hxy
    go_enter Try.func31, Try.ntmps31
    go_wp2
    go_ret
    exact ⟨ret_bool (by rw [eqD_no HXY.out]), Below.refl _ _⟩
set_option maxHeartbeats 400000 in
theorem eqIntSS_any (A A' : Option Addr) (n n' c c' lo lo' : Nat) (xs ys : List (List Int)) (w : World) (hx : Rd (sliceS intS) lo w.heap.size w A n xs) (hy : Rd (sliceS intS) lo' w.heap.size w A' n' ys) :
    Calls Try.prog 12 #[.slice A n c, .slice A' n' c'] w fun e w' => e = .returned (.bool (eqD xs ys)) ∧ Below w.heap.size w w' := by
  obtain ⟨e1, e2, e3⟩ := hx
  have E1 := hid e1; clear e1
  have E3 := hid e3; clear e3
  obtain ⟨f1, f2, f3⟩ := hy
  have F1 := hid f1; clear f1
  have F3 := hid f3; clear f3
  by_cases hne : n = n'
  · have h1 : ((n : Int) != (n' : Int)) = false := by simp [hne]
    have HE := hid hne; clear hne
    go_enter Try.func12, Try.ntmps12
    go_wp2
    go_loopw [5] (fun i wr => ∃ k : Nat, k ≤ n ∧ i = .int .i64 k ∧ eqD xs ys = eqD (xs.drop k) (ys.drop k) ∧ Below w.heap.size w wr) (fun i _ => n - (intOf i).toNat)
    case atStart => exact ⟨0, Nat.zero_le _, rfl, by simp, Below.refl _ _⟩
    case round =>
      obtain ⟨k, hk, rfl, htk, hb⟩ := hrel
      have HT := hid htk; clear htk
      by_cases hlt : k < n
      · have hlt' : k < n' := by have := HE.out; omega
        obtain ⟨b, off, rfl, _, hbb, hcx⟩ := E3.out (by omega)
        obtain ⟨b', off', rfl, _, hbb', hcy⟩ := F3.out (by omega)
        have hki : (k : Int) < (n : Int) := by omega
        have hki' : (k : Int) < (n' : Int) := by omega
        obtain ⟨Ax, cx', cx0, _, rx⟩ := hcx.row hlt
        obtain ⟨Ay, cy', cy0, _, ry⟩ := hcy.row hlt'
        have cx := aft_cell hbb cx0
        have cy := aft_cell hbb' cy0
        have hD := hid (And.intro (drop_gt (l := xs) (by rw [← E1.out]; exact hlt)) (drop_gt (l := ys) (by rw [← F1.out]; exact hlt')))
        have call : ∀ p : Aft w.heap.size w, Calls Try.prog 31 #[.slice Ax (gt xs k).length cx', .slice Ay (gt ys k).length cy'] p.val fun e w'' => e = .returned (.bool (eqD (gt xs k) (gt ys k))) ∧ ∃ q : Aft w.heap.size w, w'' = q.val :=
          fun p => aft_call (eqIntS_any _ _ _ _ _ _ lo lo' _ _ _ ((rx.below p.prop (Nat.le_refl _)).wide (Nat.le_refl _) p.prop.size) ((ry.below p.prop (Nat.le_refl _)).wide (Nat.le_refl _) p.prop.size)) (Nat.le_refl _)
        have Hcall := hid call; clear call
        clear hcx hcy rx ry cx0 cy0
        go_wp2_with fail
        refine wp_region_aft hb (by kernel_rfl) (by kernel_rfl) ?_
        repeat (go_big_quiet_step ((go_at_call 31; exact Hcall.out _)))
        refine wpQuiet_nil ?_
        rintro _ ⟨⟨w2, hb2⟩, rfl⟩
        clear cx cy hb
        by_cases hxy : eqD (gt xs k) (gt ys k) = true
        · have hnn : (!eqD (gt xs k) (gt ys k)) = false := by rw [hxy]; rfl
          rw [hnn]
          clear hnn
          go_wp2
          go_roundw
          case rel => exact ⟨k + 1, by omega, by go_num, by rw [HT.out, hD.out.1, hD.out.2, eqD_cons, hxy, Bool.true_and], hb2⟩
          case measure => simp [intOf]; omega
        · have hxy' : eqD (gt xs k) (gt ys k) = false := by simpa using hxy
          clear hxy
          have hnn : (!eqD (gt xs k) (gt ys k)) = true := by rw [hxy']; rfl
          rw [hnn]
          clear hnn
          go_wp2
          go_ret
          exact ⟨ret_bool (by rw [HT.out, hD.out.1, hD.out.2, eqD_cons, hxy', Bool.false_and]), hb2⟩
      · obtain rfl : k = n := by omega
        go_wp2
        go_ret
        exact ⟨ret_bool (by rw [HT.out, List.drop_eq_nil_of_le (by rw [E1.out]; omega), List.drop_eq_nil_of_le (by rw [← F1.out, ← HE.out]; omega)]; rfl), hb⟩
  · have h1 : ((n : Int) != (n' : Int)) = true := by simp; omega
    have hxy : xs ≠ ys := fun h => hne (by rw [E1.out, F1.out, h])
    have HN := hid hne; clear hne
    have HXY := hid hxy; clear hxy
    go_enter Try.func12, Try.ntmps12
    go_wp2
    go_ret
    exact ⟨ret_bool (by rw [eqD_no HXY.out]), Below.refl _ _⟩
set_option maxHeartbeats 400000 in
theorem toIntSS_any (A : Option Addr) (n c lo : Nat) (xs : List (List Int)) (w : World) (hx : Rd (sliceS intS) lo w.heap.size w A n xs) (hn : n ≤ 1048576) (hr : ∀ r ∈ xs, r.length ≤ 1048576) :
    Calls Try.prog 10 #[.slice A n c] w fun e w' => ∃ g, e = .returned (.slice (some ⟨g, 0, none⟩) n n) ∧ Rd (sliceS intS) w.heap.size w'.heap.size w' (some ⟨g, 0, none⟩) n xs ∧ Below w.heap.size w w' := by
  obtain ⟨i0, hi, hz0, hz1, hz2⟩ := info_parts (show (Try.prog.info? 34).map (fun i => (i.zero, i.size, i.bytes)) = some (some (.slice none 0 0), 1, 24) by kernel_rfl)
  have hmk := fun w => make_rule (P := Try.prog) Try.underlying22 hi hz0 hz1 hz2 (n := n) (by omega) (by omega) w
  have F0 := fun w => Filled.new (sliceS intS) (w.heap.size + 1) (w.heap.size + 1) w 34 (madeCells #[Value.slice none 0 0] n) xs (by rw [size_madeCells, ← hx.1]; show n = n * 1; omega) (by have := hx.1; omega)
  obtain ⟨e1, e2, e3⟩ := hx
  have E1 := hid e1; clear e1
  have E3 := hid e3; clear e3
  have HR := hid hr; clear hr
  clear hi hz0 hz1 hz2
  go_enter Try.func10, Try.ntmps10
  go_wp2
  clear hmk
  go_loopw [4] (fun i wr => ∃ k : Nat, k ≤ n ∧ i = .int .i64 k ∧ Filled (sliceS intS) (w.heap.size + 1) wr.heap.size wr w.heap.size 34 n k xs ∧ Below w.heap.size w wr) (fun i _ => n - (intOf i).toNat)
  case atStart => exact ⟨0, Nat.zero_le _, rfl, by have := F0 w; rw [← E1.out] at this; exact this.wide (by simp), (Below.refl _ _).alloc (Nat.le_refl _) _⟩
  case round =>
    obtain ⟨k, hk, rfl, hF, hb⟩ := hrel
    clear F0
    by_cases hlt : k < n
    · obtain ⟨b, off, rfl, _, hbb, hcx⟩ := E3.out (by omega)
      obtain ⟨Ax, cx', cx0, _, rx⟩ := hcx.row hlt
      have cx := (hb.cell (p := ⟨b, off + k, none⟩) hbb).trans cx0
      have rx1 := (rx.below hb (Nat.le_refl _)).wide (Nat.le_refl _) hb.size
      clear hcx cx0 rx
      have hl : (gt xs k).length ≤ 1048576 := HR.out _ (gt_mem (by rw [← E1.out]; exact hlt))
      go_wp2_with fail
      refine (toIntS_any _ _ _ lo _ _ rx1 hl).mono ?_
      rintro e w1 ⟨g1, rfl, rx2, hb1⟩
      have hF1 := (hF.keep hb1 hF.lt (Nat.le_refl _)).wide hb1.size
      obtain ⟨⟨v, c1⟩, f1⟩ := hF1.at_ (i := k) (by show k < n * 1; omega)
      have hlt1 := hF.lt
      clear cx rx1
      go_wp2
      go_roundw
      case rel => exact ⟨k + 1, by omega, by go_num, (hF1.set1 rfl hlt ⟨_, _, rfl, Nat.le_refl _, Rd_iff.1 (rx2.wide (by omega) (Nat.le_refl _))⟩ (by omega)).wide (by simp), (hb.trans (hb1.mono hb.size)).setCell (by simp) _⟩
      case measure => simp [intOf]; omega
    · obtain rfl : k = n := by omega
      go_wp2
      go_ret
      exact ⟨_, rfl, hF.done (by omega) hF.lt (by omega) (Nat.le_refl _), hb⟩
end Go.Proofs.Yteccacnojmilcaa
