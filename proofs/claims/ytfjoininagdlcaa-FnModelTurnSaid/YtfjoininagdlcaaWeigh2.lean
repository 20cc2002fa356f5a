/- What the program's and the reference's functions that weigh readings return. -/
import Derived.Test.YtfjoininagdlcaaWeigh
import Derived.StillTactics
namespace Go.Proofs.Ytfjoininagdlcaa
open Go.RowKit
/-- The last of a list; -1 if there is none. -/
def lastI (l : List Int) : Int := if l.length = 0 then -1 else gt l (l.length - 1)
theorem lastI_take {l : List Int} {k : Nat} (h : k < l.length) : lastI (l.take (k + 1)) = gt l k := by
  have e : (l.take (k + 1)).length = k + 1 := by simp; omega
  unfold lastI
  rw [if_neg (by omega), e]
  simp [gt, show k < k + 1 by omega]
theorem lastI_bd {l : List Int} {n : Nat} (h : ∀ y ∈ l, 0 ≤ y ∧ y < n) : lastI l < n := by
  unfold lastI
  split
  · omega
  · exact (h _ (gt_mem (by omega))).2
set_option maxHeartbeats 1000000 in
theorem weight_any (A B C : Option Addr) (n c m e0 q d lo : Nat) (l : List Int) (r : List (List Int)) (pre : List Int) (x : Int) (w : World) (hl : Rd intS lo w.heap.size w A n l) (hr : Rd (sliceS intS) lo w.heap.size w B m r) (hp : Rd intS lo w.heap.size w C q pre) (hm : modelOk l r = true) (hb : ∀ y ∈ pre, 0 ≤ y ∧ y < n) (hx0 : 0 ≤ x) (hxn : x < n) :
    Calls Try.prog 79 #[.agg #[.slice A n c, .slice B m e0], .slice C q d, .int .i64 x] w fun e w' => e = .returned (.int .i64 (wgt l r (lastI pre) x)) ∧ Below w.heap.size w w' := by
  obtain ⟨m1, m2, m3, m4, m5⟩ := modelOk_yes hm
  have hn := hl.1
  have hmm := hr.1
  have hq := hp.1
  have hq63 := hp.2.1
  obtain ⟨j, rfl⟩ := Int.eq_ofNat_of_zero_le hx0
  have hj : j < n := by omega
  have hji : (j : Int) < (n : Int) := by omega
  by_cases hq0 : q = 0
  case pos =>
    have HF := hid (show wgt l r (lastI pre) (j : Int) = gt l j by
      have : lastI pre = -1 := by unfold lastI; rw [if_pos (by omega)]
      rw [this]; unfold wgt; rw [if_pos (by omega), Int.toNat_natCast])
    have hl3 := hl.2.2
    obtain ⟨bb, off, rfl, _, hbb, hcx⟩ := hl3 (by omega)
    have cx := hcx.int hj
    clear hcx hl3 hl hr hp hm m3 m4 m5 hn hmm m1 m2 hq hb
    subst hq0
    go_enter Try.func79, Try.ntmps79
    go_wp2
    go_ret
    exact ⟨ret_int HF.out.symm, bnew _ _⟩
  case neg =>
    obtain ⟨t, ht⟩ : ∃ t, q = t + 1 := ⟨q - 1, by omega⟩
    have hqb : ((q : Int) == 0) = false := by simpa using hq0
    have htq : (q : Int) - 1 = (t : Int) := by omega
    have htl : t < q := by omega
    have hti : (t : Int) < (q : Int) := by omega
    have hlast : lastI pre = gt pre t := by unfold lastI; rw [if_neg (by omega), show pre.length - 1 = t by omega]
    obtain ⟨hy0, hyn⟩ := hb _ (gt_mem (l := pre) (k := t) (by omega))
    obtain ⟨i, hyi⟩ := Int.eq_ofNat_of_zero_le hy0
    have hi : i < m := by omega
    have hii : (i : Int) < (m : Int) := by omega
    have HF := hid (show wgt l r (lastI pre) (j : Int) = gt (gt r i) j by rw [hlast, hyi]; unfold wgt; rw [if_neg (by omega), Int.toNat_natCast, Int.toNat_natCast])
    have hp3 := hp.2.2
    obtain ⟨bp, offp, rfl, _, hbp, hcp⟩ := hp3 (by omega)
    have cp := hcp.int htl
    rw [hyi] at cp
    have hr3 := hr.2.2
    obtain ⟨bb, off, rfl, _, hbb, hcx⟩ := hr3 (by omega)
    obtain ⟨D, cc, ce, _, hrow⟩ := hcx.row hi
    have hlen : (gt r i).length = n := by have := (m5 _ (gt_mem (l := r) (k := i) (by omega))).1; omega
    rw [hlen] at ce hrow
    have hw3 := hrow.2.2
    obtain ⟨b2, off2, rfl, _, hb2, hcy⟩ := hw3 (by omega)
    have cy := hcy.int hj
    have hwrap : IntKind.i64.wrap (t : Int) = (t : Int) := IntWalk.i64_in _ (by omega)
    have hwrap2 : IntKind.i64.wrap ((q : Int) - 1) = (t : Int) := by rw [htq]; exact hwrap
    clear hcp hcx hcy hr3 hw3 hp3 hrow hl hr hp hm m3 m4 m5 hn hmm m1 m2 hlen hq hb hlast hy0 hyn hyi ht hq0
    go_enter Try.func79, Try.ntmps79
    go_wp2_with fail
    go_quiet (fail)
    go_wp2
    go_ret
    exact ⟨ret_int HF.out.symm, below_drewN (bnew _ _) _⟩
set_option maxHeartbeats 1000000 in
theorem sum_any (A B C : Option Addr) (n c m e0 q d lo : Nat) (l : List Int) (r : List (List Int)) (xs : List Int) (w : World) (hl : Rd intS lo w.heap.size w A n l) (hr : Rd (sliceS intS) lo w.heap.size w B m r) (hp : Rd intS lo w.heap.size w C q xs) (hqd : q ≤ d) (hm : modelOk l r = true) (hb : ∀ y ∈ xs, 0 ≤ y ∧ y < n) (hq8 : q ≤ 8) :
    Calls Try.prog 59 #[.agg #[.slice A n c, .slice B m e0], .slice C q d] w fun e w' => e = .returned (.int .i64 (sumW l r (-1) 0 xs)) ∧ Below w.heap.size w w' := by
  have L := hid hl
  have R := hid hr
  have P := hid hp
  have HM := hid hm
  have HB := hid hb
  have hnl := hid hl.1
  have hq := hid hp.1
  clear hl hr hp hm hb
  go_enter Try.func59, Try.ntmps59
  have b0 := bnew w (.cells #[.slice A n c, .slice B m e0] 26)
  have c0 := heap_alloc_new w (.cells #[.slice A n c, .slice B m e0] 26)
  have z0 : (w.alloc (.cells #[.slice A n c, .slice B m e0] 26)).heap.size = w.heap.size + 1 := by simp
  go_wp2_with fail
  generalize w.alloc (.cells #[.slice A n c, .slice B m e0] 26) = w1 at *
  have B0 := hid b0
  have C0 := hid c0
  have Z0 := hid z0
  clear b0 c0 z0
  go_loopg [5, 11] q (fun gk s i wr => ∃ (k : Nat) (z : Int), k + gk = q ∧ i = .int .i64 k ∧ s = .int .i64 z ∧ 0 ≤ z ∧ z ≤ 9 * k ∧ sumW l r (-1) 0 xs = sumW l r (lastI (xs.take k)) z (xs.drop k) ∧ Below w1.heap.size w1 wr)
  case atStart => exact ⟨0, 0, Nat.zero_add _, rfl, rfl, by omega, by omega, rfl, Below.refl _ _⟩
  case round =>
    obtain ⟨k, z, hkg, rfl, rfl, hz0, hz1, hs, hbr⟩ := hrel
    have HKG := hid hkg
    have HS := hid hs
    have hk : k ≤ q := by omega
    clear hkg hs
    by_cases hlt : k < q
    case neg =>
      obtain rfl : k = q := by omega
      have HF := hid (show sumW l r (-1) 0 xs = z by rw [HS.out, List.drop_eq_nil_of_le (by rw [hq.out]; omega)]; rfl)
      go_wp2
      go_ret
      exact ⟨ret_int HF.out.symm, B0.out.trans (hbr.mono B0.out.size)⟩
    case pos =>
      have hki : (k : Int) < (q : Int) := by omega
      have hkq : (k : Int) ≤ (d : Int) := by omega
      have hP3 := P.out.2.2
      obtain ⟨b, off, rfl, _, hbb, hcx⟩ := hP3 (by omega)
      have hbw := btr B0.out hbr
      have cx := bcl hbw (hcx.int hlt)
      have hd := hid (drop_gt (l := xs) (k := k) (by rw [← hq.out]; exact hlt))
      have ht := hid (lastI_take (l := xs) (k := k) (by rw [← hq.out]; exact hlt))
      obtain ⟨hx0, hxn⟩ := HB.out _ (gt_mem (l := xs) (k := k) (by rw [← hq.out]; exact hlt))
      have hpre := hid (P.out.sub (i := 0) (j := k) (Nat.zero_le _) hk (some ⟨b, off, none⟩) (fun b' off' h _ => by injection h with h; injection h with h1 h2 _; rw [← h1, ← h2, Nat.zero_mul, Nat.add_zero]))
      rw [Nat.sub_zero, List.drop_zero] at hpre
      obtain ⟨x, hxe⟩ : ∃ x, gt xs k = x := ⟨_, rfl⟩
      rw [hxe] at cx hx0 hxn
      have HX := hid hxe
      have hbt : ∀ y ∈ xs.take k, 0 ≤ y ∧ y < n := fun y hy => HB.out y (List.mem_of_mem_take hy)
      have wb := wgt_bd HM.out (b := lastI (xs.take k)) (x := x) (by rw [← hnl.out]; exact lastI_bd hbt) hx0 (by rw [← hnl.out]; exact hxn)
      have hz1' := Z0.out
      have hzr := hbr.size
      have hm1 := aft_cell (B := wr.heap.size) (w0 := wr) (by omega) (bcl hbr (show w1.cell? ⟨w.heap.size, 0, none⟩ = some (.slice A n c) from (at_get' C0.out).1))
      have hm2 := aft_cell (B := wr.heap.size) (w0 := wr) (by omega) (bcl hbr (show w1.cell? ⟨w.heap.size, 1, none⟩ = some (.slice B m e0) from (at_get' C0.out).2.1))
      clear hz1'
      have HBW := hid hbw
      have call := fun p : Aft wr.heap.size wr => aft_call (weight_any A B (some ⟨b, off, none⟩) n c m e0 k d lo l r (xs.take k) x p.val ((L.out.bl HBW.out).bl p.prop) ((R.out.bl HBW.out).bl p.prop) ((hpre.out.bl HBW.out).bl p.prop) HM.out hbt hx0 hxn) (Nat.le_refl _)
      have CALL := hid call
      have HHX := hid (And.intro hx0 hxn)
      clear call hP3 hcx hxe hbw hbt hx0 hxn
      obtain ⟨v, hv⟩ : ∃ v, wgt l r (lastI (xs.take k)) x = v := ⟨_, rfl⟩
      have HV := hid hv
      rw [hv] at wb
      clear hv
      obtain ⟨v0, v1⟩ := wb
      go_wp2_with fail
      refine wp_region_aft (Below.refl wr.heap.size wr) (by kernel_rfl) (by kernel_rfl) ?_
      repeat (go_big_quiet_step (fail))
      go_big_quiet_step ((go_at_call 79; exact CALL.out _))
      repeat (go_big_quiet_step (fail))
      refine wpQuiet_nil ?_
      rintro _ ⟨⟨w2, hb2⟩, rfl⟩
      rw [HV.out]
      have hbr2 := btr hbr hb2
      clear hb2 hbr cx hm1 hm2
      by_cases e0' : v = 0
      case pos =>
        have HF := hid (show sumW l r (-1) 0 xs = -1 by rw [HS.out, hd.out, HX.out, sumW, HV.out, if_pos e0'])
        subst e0'
        go_wp2
        go_ret
        exact ⟨ret_int HF.out.symm, B0.out.trans (hbr2.mono B0.out.size)⟩
      case neg =>
        have t1 : (v == 0) = false := by simpa using e0'
        have HF := hid (show sumW l r (-1) 0 xs = sumW l r (lastI (xs.take (k + 1))) (z + v) (xs.drop (k + 1)) by rw [HS.out, hd.out, ht.out, HX.out, sumW, HV.out, if_neg e0'])
        clear e0'
        go_wp2
        go_roundg (gk - 1)
        case measure => have := HKG.out; omega
        case rel => exact ⟨k + 1, z + v, by have := HKG.out; omega, by go_num, rfl, by omega, by omega, HF.out, hbr2⟩
end Go.Proofs.Ytfjoininagdlcaa
