/- A row of rows that are all the same slice. -/
import Derived.Test.YtfjoininagdlcaaNest
namespace Go.Proofs.Ytfjoininagdlcaa
open Go.RowKit
theorem same_rows {lo : Nat} {w : World} {e : TypeId} {A A' : Option Addr} {k d n dd : Nat} {u : Value} {row : List Int} (h : OwnR valS lo w e (.slice A k d) (List.replicate k u)) (hu : Value.slice A' n dd = u) (hn : row.length = n) (hc : n ≤ dd) (hr : Rd intS 0 w.heap.size w A' n row) (hk : k ≤ 1048576) : Rd (sliceS intS) 0 w.heap.size w A k (List.replicate k row) := by
  subst hn
  have h1 := (h.rd (by rw [List.length_replicate]; omega)).2.wide (lo' := 0) (Nat.zero_le _) (Nat.le_refl _)
  refine ⟨by rw [List.length_replicate], by omega, fun h0 => ?_⟩
  obtain ⟨b, off, hA, hb1, hb2, ha⟩ := h1.2.2 h0
  refine ⟨b, off, hA, hb1, hb2, fun i hi => ?_⟩
  obtain ⟨f, hf, he⟩ := ha i hi
  refine ⟨f, hf, ?_⟩
  have e1 : gt (List.replicate k u) i = u := by simp [gt, hi]
  have e2 : gt (List.replicate k row) i = row := by simp [gt, hi]
  have he' : f 0 = gt (List.replicate k u) i := he
  rw [e2]
  refine ⟨A', dd, ?_, hc, Rd_iff.1 hr⟩
  rw [he', e1, hu]
end Go.Proofs.Ytfjoininagdlcaa
