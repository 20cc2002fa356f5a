/- heldBriefS on marked briefs. -/
import Derived.Test.YthijnojefeeaoaaMarkB2
namespace Go.Proofs.Ythijnojefeeaoaa
open Go.RowKit
attribute [local go_sem] Oper.semAt_some
theorem marksB_gt {ns : List Nat} {j : Nat} (h : j < ns.length) (k : Int) : gt (marksB k ns) j = (mtV (k + sumB (ns.take j)), marksT (k + sumB (ns.take j) + 1) (gt ns j)) := by
  induction ns generalizing k j with
  | nil => simp at h
  | cons n r ih =>
    cases j with
    | zero => simp [marksB, gt, sumB]
    | succ j =>
      have := ih (j := j) (by simpa using h) (k + 1 + n)
      have e1 : gt (marksB k (n :: r)) (j + 1) = gt (marksB (k + 1 + n) r) j := by simp [marksB, gt]
      have e2 : gt (n :: r) (j + 1) = gt r j := by simp [gt]
      rw [e1, e2, this, List.take_succ_cons, sumB]
      have e4 : k + 1 + (n : Int) + (sumB (r.take j) : Int) = k + ((1 + n + sumB (r.take j) : Nat) : Int) := by omega
      rw [e4]
set_option maxRecDepth 100000 in
set_option maxHeartbeats 1000000 in
theorem heldBriefS_any (A : Option Addr) (n c lo : Nat) (k0 : Int) (ns : List Nat) (w : World) (hx : Rd briefS lo w.heap.size w A n (marksB k0 ns)) (hns : ∀ x ∈ ns, x ≤ 1048576) (hs : sumB ns ≤ 4194304) (h0 : 0 ≤ k0) (h1 : k0 ≤ 4194304) :
    Calls Try.prog 40 #[.slice A n c, .int .i64 k0] w fun r w' => r = .returned (.int .i64 (k0 + sumB ns)) ∧ Below w.heap.size w w' := by
  have hln := hx.1
  rw [marksB_len] at hln
  have HLN := hid hln
  have h63 := hx.2.1
  have E3 := hid hx.2.2
  have HNS := hid hns
  clear hx hln hns
  go_enter Try.func40, Try.ntmps40
  go_wp2_with fail
  go_loopg [1, 5] n (fun gk k i wr => ∃ (j : Nat) (m : Int), j + gk = n ∧ i = .int .i64 j ∧ k = .int .i64 m ∧ m = k0 + sumB (ns.take j) ∧ Below w.heap.size w wr)
  case atStart => exact ⟨0, k0, Nat.zero_add _, rfl, rfl, by simp [sumB], Below.refl _ _⟩
  case round =>
    obtain ⟨j, m, hjg, rfl, rfl, hm, hb⟩ := hrel
    have HJG := hid hjg
    have HM := hid hm
    have HB := hid hb
    have hsl := sumB_le ns j
    have hm1 : m ≤ 1099511627776 := by omega
    have hm4 : m ≤ 8388608 := by omega
    have hm0 : 0 ≤ m := by omega
    have hj : j ≤ n := by omega
    clear hjg hm hb
    by_cases hlt : j < n
    case pos =>
      have hji : (j : Int) < (n : Int) := by omega
      have hjl : j < ns.length := by rw [← HLN.out]; exact hlt
      obtain ⟨b, off, rfl, _, hbb, hcx⟩ := E3.out (by omega)
      obtain ⟨A1, c1, x0, x1, _, _, x4⟩ := hcx.brief hlt
      rw [marksB_gt hjl, ← HM.out] at x0 x1 x4
      have hsj := sumB_take hjl
      have hsj2 := sumB_le ns (j + 1)
      have hu1 := HNS.out _ (gt_mem hjl)
      obtain ⟨u, hu⟩ : ∃ u, gt ns j = u := ⟨_, rfl⟩
      rw [hu] at x1 x4 hsj hu1
      dsimp only at x0 x1 x4
      rw [marksT_len] at x1 x4
      have c0 := bcl HB.out x0
      have c1' := bcl HB.out x1
      have X4 := hid (x4.bl HB.out)
      obtain ⟨s, hs'⟩ : ∃ s, mtV m = s := ⟨_, rfl⟩
      rw [hs'] at c0
      have ac0 := aft_cell (B := wr.heap.size) (w0 := wr) (block_lt_of_cell c0) c0
      have hse := str_eq s
      have call : ∀ pp : Aft wr.heap.size wr, Calls Try.prog 66 #[.int .i64 m] pp.val fun e w'' => e = .returned (.string s) ∧ ∃ r : Aft wr.heap.size wr, w'' = r.val := fun pp => by
        have := markText_any m pp.val hm1
        rw [hs'] at this
        exact aft_call this (Nat.le_refl _)
      have Hcall := hid call
      have HC1 := hid c1'
      have HSJ := hid hsj
      have hwm : IntKind.i64.wrap (m + 1) = m + 1 := IntWalk.i64_in _ (by omega)
      have hnl : ¬ m + 1 + (u : Int) < 0 := by omega
      clear hcx x0 x1 x4 hs' call hu hsj c1'
      go_wp2_with fail
      refine wp_region_aft (B := wr.heap.size) (w0 := wr) (Below.refl _ _) (by kernel_rfl) (by kernel_rfl) ?_
      repeat (go_big_quiet_step ((go_at_call 66; exact Hcall.out _)))
      refine wpQuiet_nil ?_
      rintro w3 ⟨⟨w4, hb4⟩, hw4⟩
      have hw5 : w3 = w4 := hw4
      clear hw4
      subst hw5
      have HB4 := hid (btr HB.out hb4)
      have q1 := bcl hb4 HC1.out
      have HH := hid (heldStringS_any A1 u c1 lo (m + 1) w3 (X4.out.bl hb4) hu1 (by omega) (by omega))
      clear hb4 ac0 c0 HC1
      go_wp2_with fail
      refine HH.out.mono ?_
      rintro e w6 ⟨rfl, hb6⟩
      have HB6 := hid (btr HB4.out hb6)
      clear hb6 HH q1
      go_wp2_with fail
      go_roundg (gk - 1)
      case measure => have := HJG.out; omega
      case rel => exact ⟨j + 1, m + 1 + u, by have := HJG.out; omega, by go_num, rfl, by rw [HM.out, HSJ.out]; omega, HB6.out⟩
    case neg =>
      obtain rfl : j = n := by omega
      go_wp2_with fail
      go_ret
      exact ⟨ret_int (by rw [HM.out, List.take_of_length_le (by rw [← HLN.out]; exact Nat.le_refl _)]), HB.out⟩
end Go.Proofs.Ythijnojefeeaoaa
