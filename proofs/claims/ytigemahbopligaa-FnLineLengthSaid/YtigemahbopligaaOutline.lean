/- What the program's and the reference's functions on single strokes, valid outlines and their lengths return. -/
import Derived.Test.YtigemahbopligaaStrokes
namespace Go.Proofs.Ytigemahbopligaa
open Go.RowKit

set_option maxHeartbeats 400000 in
theorem specStrokeValid_any (d s : Int) (w : World) :
    Calls Try.prog 65 #[.agg #[.int .i64 d, .int .i64 s]] w fun e w' => e = .returned (.bool (strokeOk (d, s))) ∧ Below w.heap.size w w' := by
  by_cases h : inB d 0 7 = true
  · have HH := hid (show strokeOk (d, s) = inB s 1 3 by simp [strokeOk, h])
    go_enter Try.func65, Try.ntmps65
    go_wp2_with (go_at_call 39; refine (l6In_any _ _ _ _).mono ?_; rintro e w' ⟨rfl, rfl⟩)
    go_ret
    exact ⟨ret_bool HH.out.symm, (Below.refl _ _).alloc (Nat.le_refl _) _⟩
  · have h' : inB d 0 7 = false := by simpa using h
    clear h
    have HH := hid (show strokeOk (d, s) = false by simp [strokeOk, h'])
    go_enter Try.func65, Try.ntmps65
    go_wp2_with (go_at_call 39; refine (l6In_any _ _ _ _).mono ?_; rintro e w' ⟨rfl, rfl⟩)
    go_ret
    exact ⟨ret_bool HH.out.symm, (Below.refl _ _).alloc (Nat.le_refl _) _⟩
set_option maxHeartbeats 400000 in
theorem implStrokeValid_any (d s : Int) (w : World) :
    Calls Try.prog 66 #[.agg #[.int .i64 d, .int .i64 s]] w fun e w' => e = .returned (.bool (strokeOk (d, s))) ∧ Below w.heap.size w w' := by
  by_cases h1 : 0 ≤ d
  case neg =>
    have HH := hid (show strokeOk (d, s) = false by simp [strokeOk, inB, h1])
    go_enter Try.func66, Try.ntmps66
    go_wp2
    go_ret
    exact ⟨ret_bool HH.out.symm, (Below.refl _ _).alloc (Nat.le_refl _) _⟩
  by_cases h2 : d < 8
  case neg =>
    have HH := hid (show strokeOk (d, s) = false by simp [strokeOk, inB]; omega)
    go_enter Try.func66, Try.ntmps66
    go_wp2
    go_ret
    exact ⟨ret_bool HH.out.symm, (Below.refl _ _).alloc (Nat.le_refl _) _⟩
  by_cases h3 : 1 ≤ s
  case neg =>
    have HH := hid (show strokeOk (d, s) = false by simp [strokeOk, inB]; omega)
    go_enter Try.func66, Try.ntmps66
    go_wp2
    go_ret
    exact ⟨ret_bool HH.out.symm, (Below.refl _ _).alloc (Nat.le_refl _) _⟩
  by_cases h4 : s ≤ 3
  case neg =>
    have HH := hid (show strokeOk (d, s) = false by simp [strokeOk, inB]; omega)
    go_enter Try.func66, Try.ntmps66
    go_wp2
    go_ret
    exact ⟨ret_bool HH.out.symm, (Below.refl _ _).alloc (Nat.le_refl _) _⟩
  have HH := hid (show strokeOk (d, s) = true by rw [strokeOk_yes]; omega)
  go_enter Try.func66, Try.ntmps66
  go_wp2
  go_ret
  exact ⟨ret_bool HH.out.symm, (Below.refl _ _).alloc (Nat.le_refl _) _⟩
set_option maxHeartbeats 1000000 in
theorem specOutlineValid_any (A : Option Addr) (n c lo : Nat) (o : List (Int × Int)) (w : World) (hx : Rd strokeS lo w.heap.size w A n o) :
    Calls Try.prog 38 #[.slice A n c] w fun e w' => e = .returned (.bool (outOk o)) ∧ Below w.heap.size w w' := by
  obtain ⟨e1, e2, e3⟩ := hx
  have E1 := hid e1; clear e1
  have E3 := hid e3; clear e3
  go_enter Try.func38, Try.ntmps38
  go_wp2
  go_loopw [3] (fun i wr => ∃ k : Nat, k ≤ n ∧ i = .int .i64 k ∧ linked o = outFrom (if k = 0 then none else some (gt o (k - 1))) (o.drop k) ∧ (0 < k → strokeOk (gt o (k - 1)) = true) ∧ Below w.heap.size w wr) (fun i _ => n - (intOf i).toNat)
  case atStart => exact ⟨0, Nat.zero_le _, rfl, linked_from o, fun h => absurd h (by omega), Below.refl _ _⟩
  case round =>
    obtain ⟨k, hk, rfl, hr, hprev, hb⟩ := hrel
    have HR := hid hr; clear hr
    have HP := hid hprev; clear hprev
    by_cases hlt : k < n
    · obtain ⟨b, off, rfl, _, hbb, hcx⟩ := E3.out (by omega)
      have hki : (k : Int) < (n : Int) := by omega
      have cx0 := aft_cell hbb (hcx.stroke hlt).1
      have cx1 := aft_cell hbb (hcx.stroke hlt).2
      have hd := hid (drop_gt (l := o) (by rw [← E1.out]; exact hlt))
      have call : ∀ p : Aft w.heap.size w, Calls Try.prog 65 #[.agg #[.int .i64 (gt o k).1, .int .i64 (gt o k).2]] p.val fun e w'' => e = .returned (.bool (strokeOk (gt o k))) ∧ ∃ q : Aft w.heap.size w, w'' = q.val :=
        fun p => aft_call (specStrokeValid_any _ _ _) (Nat.le_refl _)
      have Hcall := hid call; clear call
      by_cases hok : strokeOk (gt o k) = true
      case neg =>
        have hok' : strokeOk (gt o k) = false := by simpa using hok
        clear hok
        have HF := hid (show outOk o = false by
          rw [outOk, HR.out, hd.out]
          split <;> simp [outFrom, hok'])
        clear hcx
        go_wp2_with fail
        refine wp_region_aft hb (by kernel_rfl) (by kernel_rfl) ?_
        repeat (go_big_quiet_step ((go_at_call 65; exact Hcall.out _)))
        refine wpQuiet_nil ?_
        rintro _ ⟨⟨w2, hb2⟩, rfl⟩
        clear cx0 cx1 hb
        go_wp2
        go_ret
        exact ⟨ret_bool HF.out.symm, hb2⟩
      case pos =>
        by_cases hk0 : k = 0
        · have HK0 := hid hk0
          have hk1 : k ≤ 0 := by omega
          have hki0 : decide ((0 : Int) < (k : Int)) = false := by simp; omega
          have hki1 : decide (0 < k) = false := by simp; omega
          clear hk0 hcx
          go_wp2_with fail
          refine wp_region_aft hb (by kernel_rfl) (by kernel_rfl) ?_
          repeat (go_big_quiet_step ((go_at_call 65; exact Hcall.out _)))
          refine wpQuiet_nil ?_
          rintro _ ⟨⟨w2, hb2⟩, rfl⟩
          have HOK := hid hok
          clear cx0 cx1 hb hok
          go_wp2
          go_roundw
          case rel => exact ⟨k + 1, by omega, by go_num, by rw [HR.out, hd.out, if_pos HK0.out, if_neg (by omega), outFrom, HOK.out, Bool.true_and]; rfl, fun _ => HOK.out, hb2⟩
          case measure => simp [intOf]; omega
        · have hk1 : 0 < k := by omega
          have hki0 : decide ((0 : Int) < (k : Int)) = true := by simp; omega
          have hki1 : decide (0 < k) = true := by simp; omega
          have hp := HP.out hk1
          obtain ⟨p1, p2, p3, p4⟩ := strokeOk_yes.1 hp
          obtain ⟨q1, q2, q3, q4⟩ := strokeOk_yes.1 hok
          have cz0 := aft_cell hbb (hcx.stroke (k := k - 1) (by omega)).1
          clear hcx
          by_cases ha : ((gt o k).1 - (gt o (k - 1)).1).tmod 4 = 0
          case pos =>
            have HF := hid (show outOk o = false by rw [outOk, HR.out, hd.out, if_neg hk0, outFrom, adj, ha]; simp)
            have hnn : ((((gt o k).1 - (gt o (k - 1)).1).tmod 4) == 0) = true := by rw [ha]; rfl
            have HA := hid ha; clear ha
            clear hp hk0
            go_wp2_with fail
            refine wp_region_aft hb (by kernel_rfl) (by kernel_rfl) ?_
            repeat (go_big_quiet_step ((go_at_call 65; exact Hcall.out _)))
            refine wpQuiet_nil ?_
            rintro _ ⟨⟨w2, hb2⟩, rfl⟩
            clear cx0 cx1 cz0 hb
            go_wp2
            go_ret
            exact ⟨ret_bool HF.out.symm, hb2⟩
          case neg =>
            have HF := hid (show adj (gt o (k - 1)) (gt o k) = true by simp [adj, ha])
            have hnn : ((((gt o k).1 - (gt o (k - 1)).1).tmod 4) == 0) = false := by simp [ha]
            have HA := hid ha; clear ha
            have HK0 := hid hk0
            clear hp hk0
            go_wp2_with fail
            refine wp_region_aft hb (by kernel_rfl) (by kernel_rfl) ?_
            repeat (go_big_quiet_step ((go_at_call 65; exact Hcall.out _)))
            refine wpQuiet_nil ?_
            rintro _ ⟨⟨w2, hb2⟩, rfl⟩
            have HOK := hid hok
            clear cx0 cx1 cz0 hb hok
            go_wp2
            go_roundw
            case rel => exact ⟨k + 1, by omega, by go_num, by rw [HR.out, hd.out, if_neg HK0.out, if_neg (by omega), outFrom, HOK.out, HF.out, Bool.true_and, Bool.true_and]; rfl, fun _ => HOK.out, hb2⟩
            case measure => simp [intOf]; omega
    · obtain rfl : k = n := by omega
      have HL := hid (show linked o = true by
        rw [HR.out, List.drop_eq_nil_of_le (by rw [E1.out]; omega)]
        split <;> rfl)
      go_wp2
      go_ret
      exact ⟨ret_bool (by rw [outOk, HL.out, ← E1.out, Bool.true_and]; simp; omega), hb⟩
set_option maxHeartbeats 1000000 in
theorem specOutlineLength_any (A : Option Addr) (n c lo : Nat) (o : List (Int × Int)) (w : World) (hx : Rd strokeS lo w.heap.size w A n o) :
    Calls Try.prog 21 #[.slice A n c] w fun e w' => e = .returned (.int .i64 (lenOf o)) ∧ Below w.heap.size w w' := by
  have hv := specOutlineValid_any A n c lo o w hx
  obtain ⟨e1, e2, e3⟩ := hx
  have E1 := hid e1; clear e1
  have E3 := hid e3; clear e3
  have HV := hid hv; clear hv
  by_cases hok : outOk o = true
  case neg =>
    have hok' : outOk o = false := by simpa using hok
    have HH := hid (show lenOf o = -1 by simp [lenOf, hok'])
    clear hok
    go_enter Try.func21, Try.ntmps21
    go_wp2_with fail
    refine HV.out.mono ?_
    rintro e w1 ⟨rfl, hb1⟩
    go_wp2
    go_ret
    exact ⟨ret_int HH.out.symm, hb1⟩
  case pos =>
    have HH := hid (show lenOf o = 0 + sumSz (o.drop 0) by simp [lenOf, hok])
    obtain ⟨hl, h8⟩ := outOk_yes hok
    have HK := hid (linked_ok hl)
    clear hl
    go_enter Try.func21, Try.ntmps21
    go_wp2_with fail
    refine HV.out.mono ?_
    rintro e w1 ⟨rfl, hb1⟩
    go_wp2
    have HOK := hid hok
    clear hok
    go_loop [3, 4] (fun t i => ∃ (k : Nat) (m : Int), k ≤ n ∧ i = .int .i64 k ∧ t = .int .i64 m ∧ 0 ≤ m ∧ m ≤ 3 * k ∧ lenOf o = m + sumSz (o.drop k)) (fun _ i => n - (intOf i).toNat)
    case atStart => exact ⟨0, 0, Nat.zero_le _, rfl, rfl, by omega, by omega, HH.out⟩
    case round =>
      obtain ⟨k, m, hk, rfl, rfl, hm0, hm1, hr⟩ := hrel
      have HR := hid hr; clear hr
      have hn8 : n ≤ 8 := by have := E1.out; omega
      by_cases hlt : k < n
      · obtain ⟨b, off, rfl, _, hbb, hcx⟩ := E3.out (by omega)
        have cx := (hb1.cell (p := ⟨b, off + k * 2 + 1, none⟩) hbb).trans (hcx.stroke hlt).2
        have hd := hid (drop_gt (l := o) (by rw [← E1.out]; exact hlt))
        obtain ⟨_, _, q3, q4⟩ := strokeOk_yes.1 (HK.out _ (gt_mem (by rw [← E1.out]; exact hlt)))
        clear hcx
        go_wp2
        go_round
        case rel => exact ⟨k + 1, _, by omega, by go_num, rfl, by omega, by omega, by rw [HR.out, hd.out, sumSz]; omega⟩
        case measure => simp [intOf]; omega
      · obtain rfl : k = n := by omega
        go_wp2
        go_ret
        exact ⟨ret_int (by rw [HR.out, List.drop_eq_nil_of_le (by rw [E1.out]; omega)]; simp [sumSz]), hb1⟩
end Go.Proofs.Ytigemahbopligaa
