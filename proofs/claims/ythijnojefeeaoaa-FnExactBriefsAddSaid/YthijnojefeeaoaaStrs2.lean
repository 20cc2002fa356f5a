/- Lists of texts and of briefs: what the laws' helpers on them do, further. -/
import Derived.Test.YthijnojefeeaoaaStrs
import Derived.Test.YthijnojefeeaoaaAtTwo
namespace Go.Proofs.Ythijnojefeeaoaa
open Go.RowKit
theorem str_ne {x y : ByteArray} (h : x ≠ y) : (x.toList == y.toList) = false := by rw [beq_str]; exact eqD_no h
theorem str_eq (x : ByteArray) : (x.toList == x.toList) = true := by rw [beq_str]; exact eqD_self x
set_option maxHeartbeats 400000 in
theorem eqStringS_any (A A' : Option Addr) (n n' c c' lo lo' : Nat) (xs ys : List ByteArray) (w : World) (hx : Rd strS lo w.heap.size w A n xs) (hy : Rd strS lo' w.heap.size w A' n' ys) :
    Calls Try.prog 29 #[.slice A n c, .slice A' n' c'] w fun e w' => e = .returned (.bool (eqD xs ys)) ∧ Below w.heap.size w w' := by
  obtain ⟨e1, e2, e3⟩ := hx
  have E1 := hid e1; clear e1
  have E3 := hid e3; clear e3
  obtain ⟨f1, f2, f3⟩ := hy
  have F1 := hid f1; clear f1
  have F3 := hid f3; clear f3
  by_cases hne : n = n'
  · have h1 : ((n : Int) != (n' : Int)) = false := by simp [hne]
    have HE := hid hne; clear hne
    go_enter Try.func29, Try.ntmps29
    go_wp2
    go_loopw [5] (fun i wr => ∃ k : Nat, k ≤ n ∧ i = .int .i64 k ∧ eqD xs ys = eqD (xs.drop k) (ys.drop k) ∧ Below w.heap.size w wr) (fun i _ => n - (intOf i).toNat)
    case atStart => exact ⟨0, Nat.zero_le _, rfl, by simp, Below.refl _ _⟩
    case round =>
      obtain ⟨k, hk, rfl, htk, hb⟩ := hrel
      have HT := hid htk; clear htk
      by_cases hlt : k < n
      · have hlt' : k < n' := by have := HE.out; omega
        obtain ⟨b, off, rfl, _, hbb, hcx⟩ := E3.out (by omega)
        obtain ⟨b', off', rfl, _, hbb', hcy⟩ := F3.out (by omega)
        have hki : (k : Int) < (n : Int) := by omega
        have hki' : (k : Int) < (n' : Int) := by omega
        have cx := aft_cell hbb (hcx.str hlt).1
        have cy := aft_cell hbb' (hcy.str hlt').1
        have hD := hid (And.intro (drop_gt (l := xs) (by rw [← E1.out]; exact hlt)) (drop_gt (l := ys) (by rw [← F1.out]; exact hlt')))
        clear hcx hcy
        go_wp2_with fail
        refine wp_region_aft hb (by kernel_rfl) (by kernel_rfl) ?_
        repeat (go_big_quiet_step (fail))
        refine wpQuiet_nil ?_
        rintro _ ⟨⟨w2, hb2⟩, rfl⟩
        clear cx cy hb
        by_cases hxy : gt xs k = gt ys k
        · have hxy' : (!((gt xs k).toList == (gt ys k).toList)) = false := by rw [hxy, str_eq]; rfl
          have HXY := hid hxy; clear hxy
          rw [hxy']
          clear hxy'
          go_wp2
          go_roundw
          case rel => exact ⟨k + 1, by omega, by go_num, by rw [HT.out, hD.out.1, hD.out.2, HXY.out, eqD_cons, eqD_self, Bool.true_and], hb2⟩
          case measure => simp [intOf]; omega
        · have hxy' : (!((gt xs k).toList == (gt ys k).toList)) = true := by rw [str_ne hxy]; rfl
          have HXY := hid hxy; clear hxy
          rw [hxy']
          clear hxy'
          go_wp2
          go_ret
          exact ⟨ret_bool (by rw [HT.out, hD.out.1, hD.out.2, eqD_cons, eqD_no HXY.out, Bool.false_and]), hb2⟩
      · obtain rfl : k = n := by omega
        go_wp2
        go_ret
        exact ⟨ret_bool (by rw [HT.out, List.drop_eq_nil_of_le (by rw [E1.out]; omega), List.drop_eq_nil_of_le (by rw [← F1.out, ← HE.out]; omega)]; rfl), hb⟩
  · have h1 : ((n : Int) != (n' : Int)) = true := by simp; omega
    have hxy : xs ≠ ys := fun h => hne (by rw [E1.out, F1.out, h])
    have HN := hid hne; clear hne
    have HXY := hid hxy; clear hxy
    go_enter Try.func29, Try.ntmps29
    go_wp2
    go_ret
    exact ⟨ret_bool (by rw [eqD_no HXY.out]), Below.refl _ _⟩
set_option maxHeartbeats 400000 in
theorem eqBrief_any (A A' : Option Addr) (n n' c c' lo lo' : Nat) (s t : ByteArray) (xs ys : List ByteArray) (w : World) (hx : Rd strS lo w.heap.size w A n xs) (hy : Rd strS lo' w.heap.size w A' n' ys) :
    Calls Try.prog 38 #[.agg #[.string s, .slice A n c], .agg #[.string t, .slice A' n' c']] w fun e w' => e = .returned (.bool (eqD (s, xs) (t, ys))) ∧ Below w.heap.size w w' := by
  have hB : ∀ x y : Obj, Below w.heap.size w ((w.alloc x).alloc y) := fun x y => ((Below.refl _ _).alloc (Nat.le_refl _) _).alloc (by simp) _
  have HB := hid hB; clear hB
  have HX := hid hx; clear hx
  have HY := hid hy; clear hy
  have hP : eqD (s, xs) (t, ys) = (eqD s t && eqD xs ys) := rfl
  have HP := hid hP; clear hP
  by_cases h : s = t
  · have h1 : (s.toList == t.toList) = true := by rw [h]; exact str_eq _
    have HH := hid h; clear h
    by_cases h2 : eqD xs ys = true
    · go_enter Try.func38, Try.ntmps38
      go_wp2_with fail
      refine (eqStringS_any _ _ _ _ _ _ _ _ _ _ _ (HX.out.bl (HB.out _ _)) (HY.out.bl (HB.out _ _))).mono ?_
      rintro e w1 ⟨rfl, hb1⟩
      rw [h2]
      go_wp2
      go_ret
      exact ⟨ret_bool (by rw [HP.out, HH.out, eqD_self, h2]; rfl), btr (HB.out _ _) hb1⟩
    · have h2' : eqD xs ys = false := by simpa using h2
      clear h2
      go_enter Try.func38, Try.ntmps38
      go_wp2_with fail
      refine (eqStringS_any _ _ _ _ _ _ _ _ _ _ _ (HX.out.bl (HB.out _ _)) (HY.out.bl (HB.out _ _))).mono ?_
      rintro e w1 ⟨rfl, hb1⟩
      rw [h2']
      go_wp2
      go_ret
      exact ⟨ret_bool (by rw [HP.out, h2', Bool.and_false]), btr (HB.out _ _) hb1⟩
  · have h1 : (s.toList == t.toList) = false := str_ne h
    have HH := hid h; clear h
    go_enter Try.func38, Try.ntmps38
    go_wp2
    go_ret
    exact ⟨ret_bool (by rw [HP.out, eqD_no HH.out, Bool.false_and]), HB.out _ _⟩
set_option maxHeartbeats 400000 in
theorem eqBriefS_any (A A' : Option Addr) (n n' c c' lo lo' : Nat) (xs ys : List BriefT) (w : World) (hx : Rd briefS lo w.heap.size w A n xs) (hy : Rd briefS lo' w.heap.size w A' n' ys) :
    Calls Try.prog 28 #[.slice A n c, .slice A' n' c'] w fun e w' => e = .returned (.bool (eqD xs ys)) ∧ Below w.heap.size w w' := by
  obtain ⟨e1, e2, e3⟩ := hx
  have E1 := hid e1; clear e1
  have E3 := hid e3; clear e3
  obtain ⟨f1, f2, f3⟩ := hy
  have F1 := hid f1; clear f1
  have F3 := hid f3; clear f3
  by_cases hne : n = n'
  · have h1 : ((n : Int) != (n' : Int)) = false := by simp [hne]
    have HE := hid hne; clear hne
    go_enter Try.func28, Try.ntmps28
    go_wp2
    go_loopw [5] (fun i wr => ∃ k : Nat, k ≤ n ∧ i = .int .i64 k ∧ eqD xs ys = eqD (xs.drop k) (ys.drop k) ∧ Below w.heap.size w wr) (fun i _ => n - (intOf i).toNat)
    case atStart => exact ⟨0, Nat.zero_le _, rfl, by simp, Below.refl _ _⟩
    case round =>
      obtain ⟨k, hk, rfl, htk, hb⟩ := hrel
      have HT := hid htk; clear htk
      by_cases hlt : k < n
      · have hlt' : k < n' := by have := HE.out; omega
        obtain ⟨b, off, rfl, _, hbb, hcx⟩ := E3.out (by omega)
        obtain ⟨b', off', rfl, _, hbb', hcy⟩ := F3.out (by omega)
        have hki : (k : Int) < (n : Int) := by omega
        have hki' : (k : Int) < (n' : Int) := by omega
        obtain ⟨Ax, cx', x0, x1, _, _, rx⟩ := hcx.brief hlt
        obtain ⟨Ay, cy', y0, y1, _, _, ry⟩ := hcy.brief hlt'
        have cx0 := aft_cell hbb x0
        have cx1 := aft_cell hbb x1
        have cy0 := aft_cell hbb' y0
        have cy1 := aft_cell hbb' y1
        have hD := hid (And.intro (drop_gt (l := xs) (by rw [← E1.out]; exact hlt)) (drop_gt (l := ys) (by rw [← F1.out]; exact hlt')))
        have call : ∀ p : Aft w.heap.size w, Calls Try.prog 38 #[.agg #[.string (gt xs k).1, .slice Ax (gt xs k).2.length cx'], .agg #[.string (gt ys k).1, .slice Ay (gt ys k).2.length cy']] p.val fun e w'' => e = .returned (.bool (eqD (gt xs k) (gt ys k))) ∧ ∃ q : Aft w.heap.size w, w'' = q.val :=
          fun p => aft_call (eqBrief_any _ _ _ _ _ _ lo lo' _ _ _ _ _ ((rx.below p.prop (Nat.le_refl _)).wide (Nat.le_refl _) p.prop.size) ((ry.below p.prop (Nat.le_refl _)).wide (Nat.le_refl _) p.prop.size)) (Nat.le_refl _)
        have Hcall := hid call; clear call
        clear hcx hcy rx ry x0 x1 y0 y1
        go_wp2_with fail
        refine wp_region_aft hb (by kernel_rfl) (by kernel_rfl) ?_
        repeat (go_big_quiet_step ((go_at_call 38; exact Hcall.out _)))
        refine wpQuiet_nil ?_
        rintro _ ⟨⟨w2, hb2⟩, rfl⟩
        clear cx0 cx1 cy0 cy1 hb
        by_cases hxy : eqD (gt xs k) (gt ys k) = true
        · have hnn : (!eqD (gt xs k) (gt ys k)) = false := by rw [hxy]; rfl
          rw [hnn]
          clear hnn
          go_wp2
          go_roundw
          case rel => exact ⟨k + 1, by omega, by go_num, by rw [HT.out, hD.out.1, hD.out.2, eqD_cons, hxy, Bool.true_and], hb2⟩
          case measure => simp [intOf]; omega
        · have hxy' : eqD (gt xs k) (gt ys k) = false := by simpa using hxy
          clear hxy
          have hnn : (!eqD (gt xs k) (gt ys k)) = true := by rw [hxy']; rfl
          rw [hnn]
          clear hnn
          go_wp2
          go_ret
          exact ⟨ret_bool (by rw [HT.out, hD.out.1, hD.out.2, eqD_cons, hxy', Bool.false_and]), hb2⟩
      · obtain rfl : k = n := by omega
        go_wp2
        go_ret
        exact ⟨ret_bool (by rw [HT.out, List.drop_eq_nil_of_le (by rw [E1.out]; omega), List.drop_eq_nil_of_le (by rw [← F1.out, ← HE.out]; omega)]; rfl), hb⟩
  · have h1 : ((n : Int) != (n' : Int)) = true := by simp; omega
    have hxy : xs ≠ ys := fun h => hne (by rw [E1.out, F1.out, h])
    have HN := hid hne; clear hne
    have HXY := hid hxy; clear hxy
    go_enter Try.func28, Try.ntmps28
    go_wp2
    go_ret
    exact ⟨ret_bool (by rw [eqD_no HXY.out]), Below.refl _ _⟩
set_option maxHeartbeats 400000 in
theorem toBrief_any (A : Option Addr) (n c lo : Nat) (s : ByteArray) (xs : List ByteArray) (w : World) (hx : Rd strS lo w.heap.size w A n xs) (hn : n ≤ 1048576) :
    Calls Try.prog 36 #[.agg #[.string s, .slice A n c]] w fun e w' => ∃ g, e = .returned (.agg #[.string s, .slice (some ⟨g, 0, none⟩) n n]) ∧ Rd strS w.heap.size w'.heap.size w' (some ⟨g, 0, none⟩) n xs ∧ Below w.heap.size w w' := by
  have hB3 : ∀ (x y z : Obj), Below w.heap.size w (((w.alloc x).alloc y).alloc z) := fun x y z => bal (bal (bnew _ _) _) _
  have HX := hid (fun x y z => hx.bl (hB3 x y z)); clear hx
  have HB := hid hB3; clear hB3
  have hC : ∀ x y z : Obj, (((w.alloc x).alloc y).alloc z).heap[w.heap.size + 2]? = some z := fun x y z => by
    have := heap_alloc_new ((w.alloc x).alloc y) z
    rw [World.size_alloc, World.size_alloc] at this
    exact this
  have hR : ∀ x y z : Obj, (((w.alloc x).alloc y).alloc z).heap[w.heap.size + 1]? = some y := fun x y z => by
    have h1 := heap_alloc_new (w.alloc x) y
    rw [World.size_alloc] at h1
    exact ((bnew ((w.alloc x).alloc y) z).block (w.heap.size + 1) (by rw [World.size_alloc, World.size_alloc]; omega)).trans h1
  have HC := hid hC; clear hC
  have HR := hid hR; clear hR
  go_enter Try.func36, Try.ntmps36
  go_wp2_with fail
  refine (toStringS_any _ _ _ _ _ _ (HX.out _ _ _) hn).mono ?_
  rintro e w1 ⟨g1, rfl, rx2, hb1⟩
  have hc1 := (hb1.block (w.heap.size + 2) (by simp)).trans (HC.out _ _ _)
  have hr1 := (hb1.block (w.heap.size + 1) (by simp)).trans (HR.out _ _ _)
  obtain ⟨a0, a1, a2, a3⟩ := at_get hc1
  obtain ⟨r0, r1, r2, r3⟩ := at_get hr1
  have hb2 := hid (btr (HB.out _ _ _) hb1)
  have hz := hb1.size
  rw [World.size_alloc, World.size_alloc, World.size_alloc] at hz rx2
  have RX := hid rx2
  clear hb1 rx2 hc1 hr1
  go_wp2_with fail
  refine bodyPost_ret (v := .agg #[.string s, .slice (some ⟨g1, 0, none⟩) n n]) (by simp [results, Try.results36, go_sem, r0, r1]) rfl ?_
  refine ⟨g1, rfl, ?_, bsc (bsc (bsc hb2.out (by show w.heap.size ≤ w.heap.size + 2; omega) _) (by show w.heap.size ≤ w.heap.size + 1; omega) _) (by show w.heap.size ≤ w.heap.size + 1; omega) _⟩
  rw [World.size_setCell, World.size_setCell, World.size_setCell]
  refine (RX.out.keep fun b o h1 h2 => ?_).wide (by omega) (Nat.le_refl _)
  rw [World.cell?_setCell_other _ _ _ _ (by intro e; injection e with e _; omega), World.cell?_setCell_other _ _ _ _ (by intro e; injection e with e _; omega), World.cell?_setCell_other _ _ _ _ (by intro e; injection e with e _; omega)]
set_option maxHeartbeats 400000 in
theorem szBriefS_any (A : Option Addr) (n c lo : Nat) (left : Int) (bs : List BriefT) (w : World) (hx : Rd briefS lo w.heap.size w A n bs) (h0 : 0 ≤ left) (h1 : left ≤ 1048576) :
    Calls Try.prog 23 #[.slice A n c, .int .i64 left] w fun e w' => e = .returned (.int .i64 (szBS bs left)) ∧ Below w.heap.size w w' := by
  obtain ⟨e1, e2, e3⟩ := hx
  have E1 := hid e1; clear e1
  have E3 := hid e3; clear e3
  by_cases h : left - n < 0
  · have HH := hid (show szBS bs left = -1 by simp [szBS, ← E1.out, h])
    go_enter Try.func23, Try.ntmps23
    go_wp2_with fail
    go_ret
    exact ⟨ret_int HH.out.symm, Below.refl _ _⟩
  · have HH := hid (show szBS bs left = szBG (bs.drop 0) (left - n) by simp only [szBS, ← E1.out, if_neg h, List.drop_zero])
    go_enter Try.func23, Try.ntmps23
    go_wp2_with fail
    go_loopw [1, 5] (fun l i wr => ∃ (k : Nat) (m : Int), k ≤ n ∧ i = .int .i64 k ∧ l = .int .i64 m ∧ 0 ≤ m ∧ m ≤ 1048576 ∧ szBS bs left = szBG (bs.drop k) m ∧ Below w.heap.size w wr) (fun _ i _ => n - (intOf i).toNat)
    case atStart => exact ⟨0, _, Nat.zero_le _, rfl, rfl, by omega, by omega, HH.out, Below.refl _ _⟩
    case round =>
      obtain ⟨k, m, hk, rfl, rfl, hm0, hm1, hr, hb⟩ := hrel
      have HR := hid hr; clear hr
      have HB := hid hb; clear hb
      clear HH
      by_cases hlt : k < n
      · obtain ⟨b, off, rfl, _, hbb, hcx⟩ := E3.out (by omega)
        obtain ⟨A1, c1, x0, x1, x2, _, x4⟩ := hcx.brief hlt
        have cx0 := bcl HB.out x0
        have cx1 := bcl HB.out x1
        have X4 := hid (x4.bl HB.out)
        have X2 := hid x2
        have HD := hid (drop_gt (l := bs) (by rw [← E1.out]; exact hlt))
        clear hcx x0 x1 x2 x4
        have hu := szB_ub (b := ((gt bs k).1, (gt bs k).2)) hm0
        by_cases hs : szB ((gt bs k).1, (gt bs k).2) m < 0
        · go_wp2_with fail
          refine (szBrief_any _ _ _ _ _ _ _ _ X4.out X2.out (by omega) (by omega)).mono ?_
          rintro e w1 ⟨rfl, hb1⟩
          have HB1 := hid hb1; clear hb1
          go_wp2_with fail
          go_ret
          exact ⟨ret_int (by rw [HR.out, HD.out, szBG]; exact (if_pos hs).symm), btr HB.out HB1.out⟩
        · go_wp2_with fail
          refine (szBrief_any _ _ _ _ _ _ _ _ X4.out X2.out (by omega) (by omega)).mono ?_
          rintro e w1 ⟨rfl, hb1⟩
          have HB1 := hid hb1; clear hb1
          go_wp2_with fail
          go_roundw
          case rel => exact ⟨k + 1, _, by omega, by go_num, rfl, by omega, by omega, (by rw [HR.out, HD.out, szBG]; exact if_neg (Int.not_lt.2 hs)), btr HB.out HB1.out⟩
          case measure => simp [intOf]; omega
      · obtain rfl : k = n := by omega
        go_wp2_with fail
        go_ret
        exact ⟨ret_int (by rw [HR.out, List.drop_eq_nil_of_le (by rw [E1.out]; omega)]; rfl), HB.out⟩
set_option maxHeartbeats 400000 in
theorem toBriefS_any (A : Option Addr) (n c lo : Nat) (xs : List BriefT) (w : World) (hx : Rd briefS lo w.heap.size w A n xs) (hn : n ≤ 1048576) (hr : ∀ b ∈ xs, b.2.length ≤ 1048576) :
    Calls Try.prog 25 #[.slice A n c] w fun e w' => ∃ g, e = .returned (.slice (some ⟨g, 0, none⟩) n n) ∧ Rd briefS w.heap.size w'.heap.size w' (some ⟨g, 0, none⟩) n xs ∧ Below w.heap.size w w' := by
  obtain ⟨i0, hi, hz0, hz1, hz2⟩ := info_parts (show (Try.prog.info? 31).map (fun i => (i.zero, i.size, i.bytes)) = some (some (.agg #[.string ⟨#[]⟩, .slice none 0 0]), 2, 40) by kernel_rfl)
  have hmk := fun w => make_rule (P := Try.prog) Try.underlying23 hi hz0 hz1 hz2 (n := n) (by omega) (by omega) w
  have F0 := fun w => Filled.new briefS (w.heap.size + 1) (w.heap.size + 1) w 31 (madeCells (Value.agg #[.string ⟨#[]⟩, .slice none 0 0]).cells (n * 2)) xs (by rw [size_madeCells, ← hx.1]; rfl) (by have := hx.1; omega)
  obtain ⟨e1, e2, e3⟩ := hx
  have E1 := hid e1; clear e1
  have E3 := hid e3; clear e3
  have HR := hid hr; clear hr
  clear hi hz0 hz1 hz2
  go_enter Try.func25, Try.ntmps25
  go_wp2
  clear hmk
  go_loopw [4] (fun i wr => ∃ k : Nat, k ≤ n ∧ i = .int .i64 k ∧ Filled briefS (w.heap.size + 1) wr.heap.size wr w.heap.size 31 n k xs ∧ Below w.heap.size w wr) (fun i _ => n - (intOf i).toNat)
  case atStart => exact ⟨0, Nat.zero_le _, rfl, by have := F0 w; rw [← E1.out] at this; exact this.wide (by simp), (Below.refl _ _).alloc (Nat.le_refl _) _⟩
  case round =>
    obtain ⟨k, hk, rfl, hF, hb⟩ := hrel
    clear F0
    by_cases hlt : k < n
    · obtain ⟨b, off, rfl, _, hbb, hcx⟩ := E3.out (by omega)
      obtain ⟨Ax, cx', x0, x1, x2, _, rx⟩ := hcx.brief hlt
      have cx0 := bcl hb x0
      have cx1 := bcl hb x1
      have rx1 := rx.bl hb
      have X2 := hid x2
      clear hcx x0 x1 x2 rx
      have hl : (gt xs k).2.length ≤ 1048576 := HR.out _ (gt_mem (by rw [← E1.out]; exact hlt))
      go_wp2_with fail
      refine (toBrief_any _ _ _ lo _ _ _ rx1 hl).mono ?_
      rintro e w1 ⟨g1, rfl, rx2, hb1⟩
      have hF1 := (hF.keep hb1 hF.lt (Nat.le_refl _)).wide hb1.size
      obtain ⟨⟨v0, d0⟩, f0⟩ := hF1.at_ (i := k * 2) (by show k * 2 < n * 2; omega)
      obtain ⟨⟨v1, d1⟩, f1⟩ := hF1.at_ (i := k * 2 + 1) (by show k * 2 + 1 < n * 2; omega)
      have hlt1 := hF.lt
      clear cx0 cx1 rx1
      go_wp2
      go_roundw
      case rel => exact ⟨k + 1, by omega, by go_num, (hF1.set2 rfl hlt ⟨⟨rfl, X2.out⟩, _, _, rfl, Nat.le_refl _, Rd_iff.1 (rx2.wide (by omega) (Nat.le_refl _))⟩ (by omega)).wide (by simp), ((hb.trans (hb1.mono hb.size)).setCell (by simp) _).setCell (by simp) _⟩
      case measure => simp [intOf]; omega
    · obtain rfl : k = n := by omega
      go_wp2
      go_ret
      exact ⟨_, rfl, hF.done (by omega) hF.lt (by omega) (Nat.le_refl _), hb⟩
end Go.Proofs.Ythijnojefeeaoaa
