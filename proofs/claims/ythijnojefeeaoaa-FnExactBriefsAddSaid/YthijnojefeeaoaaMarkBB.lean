/- Marks of returned briefs and of one brief; sizes of briefs that are some. -/
import Derived.Test.YthijnojefeeaoaaMarkB2
import Derived.Test.YthijnojefeeaoaaBAddI
namespace Go.Proofs.Ythijnojefeeaoaa
open Go.RowKit
attribute [local go_sem] Oper.semAt_some
theorem sumB_each : ∀ {ns : List Nat} {m : Nat}, (∀ x ∈ ns, x ≤ m) → sumB ns ≤ (1 + m) * ns.length
  | [], _, _ => Nat.zero_le _
  | x :: r, m, h => by
    have h1 := h x (by simp)
    have h2 := sumB_each (ns := r) (m := m) fun y hy => h y (by simp [hy])
    have e : sumB (x :: r) = 1 + x + sumB r := rfl
    rw [e, List.length_cons, Nat.mul_add, Nat.mul_one]
    omega
theorem addB_bd (bs : List BriefT) (b : BriefT) : ((addB bs b).getD []).length ≤ 8 ∧ ∀ x ∈ (addB bs b).getD [], x.2.length ≤ 3 := by
  unfold addB
  split
  · next h =>
    refine ⟨?_, fun x hx => (briefs_wd h x hx).2⟩
    unfold briefsOk at h
    rw [Bool.and_eq_true, decide_eq_true_eq] at h
    exact h.1
  · exact ⟨Nat.zero_le _, fun x hx => by cases hx⟩
set_option maxRecDepth 100000 in
set_option maxHeartbeats 1000000 in
theorem markBriefS_res (A : Option Addr) (n c lo hi : Nat) (ds : List BrD) (k0 : Int) (w : World) (h : NestB lo hi w (.slice A n c) ds) (hhi : w.heap.size ≤ hi) (hnl : n = ds.length) (hds : ds.length ≤ 1048576) (hs : sumB (lensB ds) ≤ 4194304) (hns : ∀ d ∈ ds, d.2.2.2.length ≤ 1048576) (h0 : 0 ≤ k0) (h1 : k0 ≤ 4194304) :
    Calls Try.prog 30 #[.slice A n c, .int .i64 k0] w fun r w' => r = .returned (.int .i64 (k0 + sumB (lensB ds))) ∧ Rd briefS 0 w'.heap.size w' A n (marksB k0 (lensB ds)) ∧ Chg (rng lo hi) w w' := by
  by_cases hz : n = 0
  case pos =>
    have hd : ds = [] := List.length_eq_zero_iff.1 (hnl.symm.trans hz)
    clear h hnl hds hs hns
    subst hz hd
    go_enter Try.func30, Try.ntmps30
    go_wp2_with fail
    go_loopg [1, 5] 0 (fun gk k i wr => i = .int .i64 0 ∧ k = .int .i64 k0 ∧ w = wr)
    case atStart => exact ⟨rfl, rfl, rfl⟩
    case round =>
      obtain ⟨rfl, rfl, rfl⟩ := hrel
      go_wp2_with fail
      go_ret
      exact ⟨ret_int (by simp [lensB, sumB]), Rd.nil _ _ _ _ _, Chg.refl _ _⟩
  case neg =>
    have hb := h.own.blk (by omega)
    obtain ⟨g, rfl, hg, hlt, _⟩ := hb
    refine (markBriefS_some g n c lo hi ds k0 w h (by omega) hds hs hns h0 h1).mono fun r w' ⟨q1, q2, q3⟩ => ⟨q1, ?_, q3⟩
    exact q2.rd0 (markBD_lists k0 ds) (by rw [marksB_len]; unfold lensB; rw [List.length_map]; omega)
set_option maxRecDepth 100000 in
set_option maxHeartbeats 1000000 in
theorem markBrief_row (s : ByteArray) (g n c : Nat) (l : List ByteArray) (k0 : Int) (w : World) (hr : RowS w (g, c, l)) (hnl : n = l.length) (hn : n ≤ 1048576) (h0 : 0 ≤ k0) (h1 : k0 ≤ 4194304) :
    Calls Try.prog 39 #[.agg #[.string s, .slice (some ⟨g, 0, none⟩) n c], .int .i64 k0] w fun r w' => r = .returned (.int .i64 (k0 + n)) ∧ Chg (fun k => k = g) w w' := by
  have HR := hid fun o : Obj => hr.chg (chgN0 w o) (fun h => h)
  have HNL := hid hnl
  clear hr hnl
  have HC := hid fun o : Obj => (chgN0 w o).wide (D' := fun k => k = g) (fun _ h => h.elim)
  go_enter Try.func39, Try.ntmps39
  go_wp2_with fail
  refine (markStringS_row g n c l k0 _ (HR.out _) HNL.out hn (by omega) (by omega)).mono ?_
  rintro e w1 ⟨rfl, -, hc⟩
  have HC1 := hid ((HC.out _).trans hc)
  clear hc
  go_wp2_with fail
  go_ret
  exact ⟨rfl, HC1.out⟩
end Go.Proofs.Ythijnojefeeaoaa
