/- Rows of numbers of the call's own, nil and empty ones too: copied, marked. -/
import Derived.Test.YtfjoininagdlcaaNestFns
import Derived.Test.YtfjoininagdlcaaIter2
namespace Go.Proofs.Ytfjoininagdlcaa
open Go.RowKit
set_option maxRecDepth 100000 in
set_option maxHeartbeats 1000000 in
/-- A row of the call's own. -/
theorem clone_own (b off n c lo : Nat) (l : List Int) (w : World) (hx : Rd intS lo w.heap.size w (some ⟨b, off, none⟩) n l) (hn : n ≤ 1048576) :
    Calls Try.prog 57 #[.slice (some ⟨b, off, none⟩) n c] w fun e w' => ∃ A d, e = .returned (.slice A n d) ∧ OwnR intS w.heap.size w' 3 (.slice A n d) l ∧ (0 < n → ∃ g, A = some ⟨g, 0, none⟩) ∧ Below w.heap.size w w' := by
  obtain ⟨i0, hi1, hz0, hz1, hz2⟩ := info_parts (show (Try.prog.info? 3).map (fun i => (i.zero, i.size, i.bytes)) = some (some (.int .i64 0), 1, 8) by kernel_rfl)
  have HI := hid (And.intro hi1 (And.intro hz0 (And.intro hz1 hz2)))
  clear hi1 hz0 hz1 hz2
  have hnl := hid hx.1
  have CX := hid (show ∀ k, k < n → w.cell? ⟨b, off + k, none⟩ = some (.int .i64 (gt l k)) from fun k (hk : k < n) => by
    obtain ⟨b', off', he, _, hbb, hcx⟩ := hx.2.2 (by omega)
    injection he with he
    injection he with he1 he2 _
    subst he1 he2
    exact hcx.int hk)
  clear hx
  have hnil : ∀ w' : World, (binOp .eql 23 (.slice (some ⟨b, off, none⟩) n c) (.slice none 0 0)).run Try.prog w' = .ok (.bool false) w' := fun w' => Lib.run_eql_slice_nil w' 23 3 _ _ _ _ _ Try.underlying23
  go_enter Try.func57, Try.ntmps57
  go_wp2_with (at_builtin; refine wpList_append_ints rfl (.tmp 5) (.tmp 6) _ rfl Try.underlying23 HI.out rfl (v := .slice (some ⟨w.heap.size, 0, none⟩) 0 0) (l := []) rfl (OwnR.nil (base := w.heap.size) (Nat.le_refl _) _ rfl) rfl hnl.out.symm (fun k hk => bcl (bnew _ _) (CX.out k hk)) (by simp; omega) (by simp) ?_; intro A2 c2 w2 hO hc hv)
  go_ret
  rw [List.nil_append, List.length_nil, Nat.zero_add] at hO
  refine ⟨A2, c2, rfl, hO, fun h0 => ?_, (bnew w _).trans (hc.below (by simp) (fun k hk => by have e : some w.heap.size = some k := hk; injection e with e; omega))⟩
  obtain ⟨g, hg, _⟩ := hO.blk h0
  exact ⟨g, hg⟩
end Go.Proofs.Ytfjoininagdlcaa
