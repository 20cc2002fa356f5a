/- Rows of numbers of the call's own, nil and empty ones too: copied, marked. -/
import Derived.Test.YtoincfpffioioaaNestFns
import Derived.Test.YtoincfpffioioaaIter2
namespace Go.Proofs.Ytoincfpffioioaa
open Go.RowKit
set_option maxRecDepth 100000 in
set_option maxHeartbeats 1000000 in
/-- A row of the call's own. -/
theorem clone_own (b off n c lo : Nat) (l : List Int) (w : World) (hx : Rd intS lo w.heap.size w (some ⟨b, off, none⟩) n l) (hn : n ≤ 1048576) :
    Calls Try.prog 43 #[.slice (some ⟨b, off, none⟩) n c] w fun e w' => ∃ A d, e = .returned (.slice A n d) ∧ OwnR intS w.heap.size w' 3 (.slice A n d) l ∧ (0 < n → ∃ g, A = some ⟨g, 0, none⟩) ∧ Below w.heap.size w w' := by
  obtain ⟨i0, hi1, hz0, hz1, hz2⟩ := info_parts (show (Try.prog.info? 3).map (fun i => (i.zero, i.size, i.bytes)) = some (some (.int .i64 0), 1, 8) by kernel_rfl)
  have HI := hid (And.intro hi1 (And.intro hz0 (And.intro hz1 hz2)))
  clear hi1 hz0 hz1 hz2
  have hnl := hid hx.1
  have CX := hid (show ∀ k, k < n → w.cell? ⟨b, off + k, none⟩ = some (.int .i64 (gt l k)) from fun k (hk : k < n) => by
    obtain ⟨b', off', he, _, hbb, hcx⟩ := hx.2.2 (by omega)
    injection he with he
    injection he with he1 he2 _
    subst he1 he2
    exact hcx.int hk)
  clear hx
  have hnil : ∀ w' : World, (binOp .eql 22 (.slice (some ⟨b, off, none⟩) n c) (.slice none 0 0)).run Try.prog w' = .ok (.bool false) w' := fun w' => Lib.run_eql_slice_nil w' 22 3 _ _ _ _ _ Try.underlying22
  go_enter Try.func43, Try.ntmps43
  go_wp2_with (at_builtin; refine wpList_append_ints rfl (.tmp 5) (.tmp 6) _ rfl Try.underlying22 HI.out rfl (v := .slice (some ⟨w.heap.size, 0, none⟩) 0 0) (l := []) rfl (OwnR.nil (base := w.heap.size) (Nat.le_refl _) _ rfl) rfl hnl.out.symm (fun k hk => bcl (bnew _ _) (CX.out k hk)) (by simp; omega) (by simp) ?_; intro A2 c2 w2 hO hc hv)
  go_ret
  rw [List.nil_append, List.length_nil, Nat.zero_add] at hO
  refine ⟨A2, c2, rfl, hO, fun h0 => ?_, (bnew w _).trans (hc.below (by simp) (fun k hk => by have e : some w.heap.size = some k := hk; injection e with e; omega))⟩
  obtain ⟨g, hg, _⟩ := hO.blk h0
  exact ⟨g, hg⟩
set_option maxHeartbeats 1000000 in
theorem markIntS_res (A : Option Addr) (n c base : Nat) (l : List Int) (k0 : Int) (w : World) (h : OwnR intS base w 3 (.slice A n c) l) (hnl : n = l.length) (hn : n ≤ 1048576) (h0 : 0 ≤ k0) (h1 : k0 ≤ 1099511627776) :
    Calls Try.prog 23 #[.slice A n c, .int .i64 k0] w fun r w' => r = .returned (.int .i64 (k0 + n)) ∧ Rd intS base w'.heap.size w' A n (marksI k0 n) ∧ Chg (fun k => (Value.slice A n c).ownBlock = some k) w w' := by
  by_cases hz : n = 0
  case pos =>
    clear h hnl
    subst hz
    go_enter Try.func23, Try.ntmps23
    go_wp2_with fail
    go_loopg [1, 5] 0 (fun gk k i wr => i = .int .i64 0 ∧ k = .int .i64 k0 ∧ w = wr)
    case atStart => exact ⟨rfl, rfl, rfl⟩
    case round =>
      obtain ⟨rfl, rfl, rfl⟩ := hrel
      go_wp2_with fail
      go_ret
      exact ⟨ret_int (by simp), Rd.nil _ _ _ _ _, Chg.refl _ _⟩
  case neg =>
    obtain ⟨g, rfl, hg, hlt, _⟩ := h.blk (by omega)
    obtain ⟨_, hra, _⟩ := h.rowAt (by omega)
    refine (markIntS_row g n c 3 l k0 w hra hnl hn h0 h1).mono fun r w' ⟨q1, q2, q3⟩ => ⟨q1, ?_, q3.wide fun k hk => by rw [hk]; rfl⟩
    have := Rd_iff.2 (q2.rd (D := rng base w'.heap.size) ⟨hg, q2.lt⟩)
    rw [marksI_len] at this
    exact this
end Go.Proofs.Ytoincfpffioioaa
