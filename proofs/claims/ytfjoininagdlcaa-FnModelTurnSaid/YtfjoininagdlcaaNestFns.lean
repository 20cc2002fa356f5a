/- Copies, marks and looks of rows of rows: what the functions return. -/
import Derived.Test.YtfjoininagdlcaaNest
import Derived.Test.YtfjoininagdlcaaInts
import Derived.Deep.LoopGhost
namespace Go.Proofs.Ytfjoininagdlcaa
open Go.RowKit
/-- k, k + 1, .. -/
def marksI (k : Int) (n : Nat) : List Int := (List.range n).map fun (j : Nat) => k + (j : Int)
theorem marksI_len (k : Int) (n : Nat) : (marksI k n).length = n := by simp [marksI]
theorem marksI_gt {k : Int} {n j : Nat} (h : j < n) : gt (marksI k n) j = k + j := by simp [gt, marksI, h]
def sumLen : List Nat → Nat
  | [] => 0
  | n :: r => n + sumLen r
/-- The marks of rows of these lengths. -/
def marksSS (k : Int) : List Nat → List (List Int)
  | [] => []
  | n :: r => marksI k n :: marksSS (k + n) r
theorem marksSS_len (k : Int) (ns : List Nat) : (marksSS k ns).map List.length = ns := by
  induction ns generalizing k with
  | nil => rfl
  | cons n r ih => rw [marksSS, List.map_cons, ih, marksI_len]
set_option maxRecDepth 100000 in
set_option maxHeartbeats 1000000 in
/-- A row in a block of its own. -/
theorem clone_any (b off n c lo : Nat) (l : List Int) (w : World) (hx : Rd intS lo w.heap.size w (some ⟨b, off, none⟩) n l) (h0 : 0 < n) (hn : n ≤ 1048576) :
    Calls Try.prog 57 #[.slice (some ⟨b, off, none⟩) n c] w fun e w' => ∃ g d, e = .returned (.slice (some ⟨g, 0, none⟩) n d) ∧ RowAt w' 3 (g, d, l) ∧ w.heap.size ≤ g ∧ Below w.heap.size w w' := by
  obtain ⟨i0, hi1, hz0, hz1, hz2⟩ := info_parts (show (Try.prog.info? 3).map (fun i => (i.zero, i.size, i.bytes)) = some (some (.int .i64 0), 1, 8) by kernel_rfl)
  have HI := hid (And.intro hi1 (And.intro hz0 (And.intro hz1 hz2)))
  clear hi1 hz0 hz1 hz2
  have hnl := hid hx.1
  obtain ⟨b', off', he, _, hbb, hcx⟩ := hx.2.2 h0
  injection he with he
  injection he with he1 he2 _
  subst he1 he2
  have CX := hid fun k (hk : k < n) => hcx.int hk
  clear hcx hx
  have hnil : ∀ w' : World, (binOp .eql 23 (.slice (some ⟨b, off, none⟩) n c) (.slice none 0 0)).run Try.prog w' = .ok (.bool false) w' := fun w' => Lib.run_eql_slice_nil w' 23 3 _ _ _ _ _ Try.underlying23
  go_enter Try.func57, Try.ntmps57
  go_wp2_with (at_builtin; refine wpList_append_ints rfl (.tmp 5) (.tmp 6) _ rfl Try.underlying23 HI.out rfl (v := .slice (some ⟨w.heap.size, 0, none⟩) 0 0) (l := []) rfl (OwnR.nil (base := w.heap.size) (Nat.le_refl _) _ rfl) rfl hnl.out.symm (fun k hk => bcl (bnew _ _) (CX.out k hk)) (by simp; omega) (by simp) ?_; intro A2 c2 w2 hO hc hv)
  go_ret
  rw [List.nil_append, List.length_nil, Nat.zero_add] at hO
  obtain ⟨g, rfl, hg, hgl, _⟩ := hO.blk h0
  have hr := (hO.rowAt (by have := hnl.out; omega)).2.1
  exact ⟨g, c2, rfl, hr, hg, (bnew w _).trans (hc.below (by simp) (fun k hk => by have e : some w.heap.size = some k := hk; injection e with e; omega))⟩
end Go.Proofs.Ytfjoininagdlcaa
