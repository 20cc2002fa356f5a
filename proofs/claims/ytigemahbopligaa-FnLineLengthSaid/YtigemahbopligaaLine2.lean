/- Written forms and lines: copies, comparisons. -/
import Derived.Test.YtigemahbopligaaLine
namespace Go.Proofs.Ytigemahbopligaa
open Go.RowKit
attribute [local go_sem] Oper.semAt_some
set_option maxHeartbeats 1000000 in
theorem eqWrittenS_any (A A' : Option Addr) (n n' c c' lo lo' : Nat) (xs ys : List WrT) (w : World) (hx : Rd writtenS lo w.heap.size w A n xs) (hy : Rd writtenS lo' w.heap.size w A' n' ys) :
    Calls Try.prog 27 #[.slice A n c, .slice A' n' c'] w fun e w' => e = .returned (.bool (eqD xs ys)) ∧ Below w.heap.size w w' := by
  obtain ⟨e1, e2, e3⟩ := hx
  have E1 := hid e1; clear e1
  have E3 := hid e3; clear e3
  obtain ⟨f1, f2, f3⟩ := hy
  have F1 := hid f1; clear f1
  have F3 := hid f3; clear f3
  by_cases hne : n = n'
  · have h1 : ((n : Int) != (n' : Int)) = false := by simp [hne]
    have HE := hid hne; clear hne
    go_enter Try.func27, Try.ntmps27
    go_wp2
    go_loopw [5] (fun i wr => ∃ k : Nat, k ≤ n ∧ i = .int .i64 k ∧ eqD xs ys = eqD (xs.drop k) (ys.drop k) ∧ Below w.heap.size w wr) (fun i _ => n - (intOf i).toNat)
    case atStart => exact ⟨0, Nat.zero_le _, rfl, by simp, Below.refl _ _⟩
    case round =>
      obtain ⟨k, hk, rfl, htk, hb⟩ := hrel
      have HT := hid htk; clear htk
      by_cases hlt : k < n
      · have hlt' : k < n' := by have := HE.out; omega
        obtain ⟨b, off, rfl, _, hbb, hcx⟩ := E3.out (by omega)
        obtain ⟨b', off', rfl, _, hbb', hcy⟩ := F3.out (by omega)
        have hki : (k : Int) < (n : Int) := by omega
        have hki' : (k : Int) < (n' : Int) := by omega
        obtain ⟨Ax, cx', x0, x1, _, rx⟩ := hcx.written hlt
        obtain ⟨Ay, cy', y0, y1, _, ry⟩ := hcy.written hlt'
        have cx0 := aft_cell hbb x0
        have cx1 := aft_cell hbb x1
        have cy0 := aft_cell hbb' y0
        have cy1 := aft_cell hbb' y1
        have hD := hid (And.intro (drop_gt (l := xs) (by rw [← E1.out]; exact hlt)) (drop_gt (l := ys) (by rw [← F1.out]; exact hlt')))
        have call : ∀ p : Aft w.heap.size w, Calls Try.prog 56 #[.agg #[.slice Ax (gt xs k).1.length cx', .int .i64 (gt xs k).2], .agg #[.slice Ay (gt ys k).1.length cy', .int .i64 (gt ys k).2]] p.val fun e w'' => e = .returned (.bool (eqD (gt xs k) (gt ys k))) ∧ ∃ q : Aft w.heap.size w, w'' = q.val :=
          fun p => aft_call (eqWritten_any _ _ _ _ _ _ lo lo' _ _ _ _ _ ((rx.below p.prop (Nat.le_refl _)).wide (Nat.le_refl _) p.prop.size) ((ry.below p.prop (Nat.le_refl _)).wide (Nat.le_refl _) p.prop.size)) (Nat.le_refl _)
        have Hcall := hid call; clear call
        clear hcx hcy rx ry x0 x1 y0 y1
        go_wp2_with fail
        refine wp_region_aft hb (by kernel_rfl) (by kernel_rfl) ?_
        repeat (go_big_quiet_step ((go_at_call 56; exact Hcall.out _)))
        refine wpQuiet_nil ?_
        rintro _ ⟨⟨w2, hb2⟩, rfl⟩
        clear cx0 cx1 cy0 cy1 hb
        by_cases hxy : eqD (gt xs k) (gt ys k) = true
        · have hnn : (!eqD (gt xs k) (gt ys k)) = false := by rw [hxy]; rfl
          rw [hnn]
          clear hnn
          go_wp2
          go_roundw
          case rel => exact ⟨k + 1, by omega, by go_num, by rw [HT.out, hD.out.1, hD.out.2, eqD_cons, hxy, Bool.true_and], hb2⟩
          case measure => simp [intOf]; omega
        · have hxy' : eqD (gt xs k) (gt ys k) = false := by simpa using hxy
          clear hxy
          have hnn : (!eqD (gt xs k) (gt ys k)) = true := by rw [hxy']; rfl
          rw [hnn]
          clear hnn
          go_wp2
          go_ret
          exact ⟨ret_bool (by rw [HT.out, hD.out.1, hD.out.2, eqD_cons, hxy', Bool.false_and]), hb2⟩
      · obtain rfl : k = n := by omega
        go_wp2
        go_ret
        exact ⟨ret_bool (by rw [HT.out, List.drop_eq_nil_of_le (by rw [E1.out]; omega), List.drop_eq_nil_of_le (by rw [← F1.out, ← HE.out]; omega)]; rfl), hb⟩
  · have h1 : ((n : Int) != (n' : Int)) = true := by simp; omega
    have hxy : xs ≠ ys := fun h => hne (by rw [E1.out, F1.out, h])
    have HN := hid hne; clear hne
    have HXY := hid hxy; clear hxy
    go_enter Try.func27, Try.ntmps27
    go_wp2
    go_ret
    exact ⟨ret_bool (by rw [eqD_no HXY.out]), Below.refl _ _⟩
set_option maxHeartbeats 1000000 in
theorem toWritten_any (A : Option Addr) (n c lo : Nat) (p : Int) (xs : List (Int × Int)) (w : World) (hx : Rd strokeS lo w.heap.size w A n xs) (hn : n ≤ 1048576) :
    Calls Try.prog 54 #[.agg #[.slice A n c, .int .i64 p]] w fun e w' => ∃ g, e = .returned (.agg #[.slice (some ⟨g, 0, none⟩) n n, .int .i64 p]) ∧ Rd strokeS w.heap.size w'.heap.size w' (some ⟨g, 0, none⟩) n xs ∧ Below w.heap.size w w' := by
  have hB3 : ∀ (x y z : Obj), Below w.heap.size w (((w.alloc x).alloc y).alloc z) := fun x y z => bal (bal (bnew _ _) _) _
  have HX := hid (fun x y z => hx.bl (hB3 x y z)); clear hx
  have HB := hid hB3; clear hB3
  have hC : ∀ x y z : Obj, (((w.alloc x).alloc y).alloc z).heap[w.heap.size + 2]? = some z := fun x y z => by
    have := heap_alloc_new ((w.alloc x).alloc y) z
    rw [World.size_alloc, World.size_alloc] at this
    exact this
  have hR : ∀ x y z : Obj, (((w.alloc x).alloc y).alloc z).heap[w.heap.size + 1]? = some y := fun x y z => by
    have h1 := heap_alloc_new (w.alloc x) y
    rw [World.size_alloc] at h1
    exact ((bnew ((w.alloc x).alloc y) z).block (w.heap.size + 1) (by rw [World.size_alloc, World.size_alloc]; omega)).trans h1
  have hP : ∀ x y z : Obj, (((w.alloc x).alloc y).alloc z).heap[w.heap.size]? = some x := fun x y z =>
    ((bnew ((w.alloc x).alloc y) z).block w.heap.size (by rw [World.size_alloc, World.size_alloc]; omega)).trans (((bnew (w.alloc x) y).block w.heap.size (by rw [World.size_alloc]; omega)).trans (heap_alloc_new w x))
  have HC := hid hC; clear hC
  have HR := hid hR; clear hR
  have HP := hid hP; clear hP
  go_enter Try.func54, Try.ntmps54
  go_wp2_with fail
  refine (toStrokeS_any _ _ _ _ _ _ (HX.out _ _ _) hn).mono ?_
  rintro e w1 ⟨g1, rfl, rx2, hb1⟩
  have hc1 := (hb1.block (w.heap.size + 2) (by simp)).trans (HC.out _ _ _)
  have hr1 := (hb1.block (w.heap.size + 1) (by simp)).trans (HR.out _ _ _)
  have hp1 := (hb1.block w.heap.size (by simp; omega)).trans (HP.out _ _ _)
  obtain ⟨a0, a1, a2, a3⟩ := at_get hc1
  obtain ⟨r0, r1, r2, r3⟩ := at_get hr1
  obtain ⟨p0, p1, _, _⟩ := at_get hp1
  have hb2 := hid (btr (HB.out _ _ _) hb1)
  have hz := hb1.size
  rw [World.size_alloc, World.size_alloc, World.size_alloc] at hz rx2
  have RX := hid rx2
  clear hb1 rx2 hc1 hr1 hp1
  go_wp2_with fail
  refine bodyPost_ret (v := .agg #[.slice (some ⟨g1, 0, none⟩) n n, .int .i64 p]) (by simp [results, Try.results54, go_sem, r0, r1]) rfl ?_
  refine ⟨g1, rfl, ?_, ?_⟩
  · simp only [World.size_setCell]
    refine (RX.out.keep fun b o h1 h2 => ?_).wide (by omega) (Nat.le_refl _)
    repeat rw [World.cell?_setCell_other _ _ _ _ (by intro e; injection e with e _; omega)]
  · repeat (first | exact hb2.out | refine bsc ?_ (by dsimp only; omega) _)
set_option maxHeartbeats 1000000 in
theorem toWrittenS_any (A : Option Addr) (n c lo : Nat) (xs : List WrT) (w : World) (hx : Rd writtenS lo w.heap.size w A n xs) (hn : n ≤ 1048576) (hr : ∀ b ∈ xs, b.1.length ≤ 1048576) :
    Calls Try.prog 25 #[.slice A n c] w fun e w' => ∃ g, e = .returned (.slice (some ⟨g, 0, none⟩) n n) ∧ Rd writtenS w.heap.size w'.heap.size w' (some ⟨g, 0, none⟩) n xs ∧ Below w.heap.size w w' := by
  obtain ⟨i0, hi, hz0, hz1, hz2⟩ := info_parts (show (Try.prog.info? 51).map (fun i => (i.zero, i.size, i.bytes)) = some (some (.agg #[.slice none 0 0, .int .i64 0]), 2, 32) by kernel_rfl)
  have hmk := fun w => make_rule (P := Try.prog) Try.underlying40 hi hz0 hz1 hz2 (n := n) (by omega) (by omega) w
  have F0 := fun w => Filled.new writtenS (w.heap.size + 1) (w.heap.size + 1) w 51 (madeCells (Value.agg #[.slice none 0 0, .int .i64 0]).cells (n * 2)) xs (by rw [size_madeCells, ← hx.1]; rfl) (by have := hx.1; omega)
  obtain ⟨e1, e2, e3⟩ := hx
  have E1 := hid e1; clear e1
  have E3 := hid e3; clear e3
  have HR := hid hr; clear hr
  clear hi hz0 hz1 hz2
  go_enter Try.func25, Try.ntmps25
  go_wp2
  clear hmk
  go_loopw [4] (fun i wr => ∃ k : Nat, k ≤ n ∧ i = .int .i64 k ∧ Filled writtenS (w.heap.size + 1) wr.heap.size wr w.heap.size 51 n k xs ∧ Below w.heap.size w wr) (fun i _ => n - (intOf i).toNat)
  case atStart => exact ⟨0, Nat.zero_le _, rfl, by have := F0 w; rw [← E1.out] at this; exact this.wide (by simp), (Below.refl _ _).alloc (Nat.le_refl _) _⟩
  case round =>
    obtain ⟨k, hk, rfl, hF, hb⟩ := hrel
    clear F0
    by_cases hlt : k < n
    · obtain ⟨b, off, rfl, _, hbb, hcx⟩ := E3.out (by omega)
      obtain ⟨Ax, cx', x0, x1, _, rx⟩ := hcx.written hlt
      have cx0 := bcl hb x0
      have cx1 := bcl hb x1
      have rx1 := rx.bl hb
      clear hcx x0 x1 rx
      have hl : (gt xs k).1.length ≤ 1048576 := HR.out _ (gt_mem (by rw [← E1.out]; exact hlt))
      go_wp2_with fail
      refine (toWritten_any _ _ _ lo _ _ _ rx1 hl).mono ?_
      rintro e w1 ⟨g1, rfl, rx2, hb1⟩
      have hF1 := (hF.keep hb1 hF.lt (Nat.le_refl _)).wide hb1.size
      obtain ⟨⟨v0, d0⟩, f0⟩ := hF1.at_ (i := k * 2) (by show k * 2 < n * 2; omega)
      obtain ⟨⟨v1, d1⟩, f1⟩ := hF1.at_ (i := k * 2 + 1) (by show k * 2 + 1 < n * 2; omega)
      have hlt1 := hF.lt
      clear cx0 cx1 rx1
      go_wp2
      go_roundw
      case rel => exact ⟨k + 1, by omega, by go_num, (hF1.set2 rfl hlt ⟨⟨_, _, rfl, Nat.le_refl _, Rd_iff.1 (rx2.wide (by omega) (Nat.le_refl _))⟩, rfl⟩ (by omega)).wide (by simp), ((hb.trans (hb1.mono hb.size)).setCell (by simp) _).setCell (by simp) _⟩
      case measure => simp [intOf]; omega
    · obtain rfl : k = n := by omega
      go_wp2
      go_ret
      exact ⟨_, rfl, hF.done (by omega) hF.lt (by omega) (Nat.le_refl _), hb⟩
end Go.Proofs.Ytigemahbopligaa
