/- Rows of rows in which two have exchanged places. General; nothing here names the program. -/
import Derived.Test.YteccacnojmilcaaTurnDef
import Derived.Test.YteccacnojmilcaaForce3
namespace Go.Proofs.Yteccacnojmilcaa
open Go.RowKit
theorem turnI_map {α β : Type} [Inhabited α] [Inhabited β] (f : α → β) {a b : Nat} {l : List α} (ha : a < l.length) (hb : b < l.length) : (turnI a b l).map f = turnI a b (l.map f) := by
  refine ext_gt (by rw [List.length_map, turnI_len, turnI_len, List.length_map]) fun k hk => ?_
  rw [List.length_map, turnI_len] at hk
  rw [gt_map (by rw [turnI_len]; exact hk), turnI_gt hk, turnI_gt (by rw [List.length_map]; exact hk), gt_map (sw_lt ha hb hk)]
theorem sw_inj {a b i j : Nat} (h : sw a b i = sw a b j) : i = j := by
  have := congrArg (sw a b) h
  rwa [sw_sw, sw_sw] at this
theorem turnI_nodup {l : List Nat} {a b : Nat} (ha : a < l.length) (hb : b < l.length) (h : l.Nodup) : (turnI a b l).Nodup := by
  have h' := List.pairwise_iff_getElem.1 h
  have inj : ∀ i j, i < l.length → j < l.length → gt l i = gt l j → i = j := fun i j hi hj e => by
    rcases Nat.lt_trichotomy i j with hlt | heq | hgt
    · rw [gt_eq hi, gt_eq hj] at e
      exact absurd e (h' i j hi hj hlt)
    · exact heq
    · rw [gt_eq hi, gt_eq hj] at e
      exact absurd e.symm (h' j i hj hi hgt)
  refine List.pairwise_iff_getElem.2 fun i j hi hj hij e => ?_
  have hi2 : i < l.length := by rw [turnI_len] at hi; exact hi
  have hj2 : j < l.length := by rw [turnI_len] at hj; exact hj
  rw [← gt_eq hi, ← gt_eq hj, turnI_gt hi2, turnI_gt hj2] at e
  have := sw_inj (inj _ _ (sw_lt ha hb hi2) (sw_lt ha hb hj2) e)
  omega
theorem NestR.turn {lo hi a b : Nat} {w w' : World} {et ei : TypeId} {v : Value} {rs : List RowD} (h : NestR lo hi w et ei v rs) (ha : a < rs.length) (hb : b < rs.length) (ho : OwnR valS lo w' et v (turnI a b (rs.map rowV))) {D : Nat → Prop} (hc : Chg D w w') (hd : ∀ q ∈ rs, ¬ D q.1) : NestR lo hi w' et ei v (turnI a b rs) := by
  refine ⟨by rw [turnI_map _ ha hb]; exact ho, fun q hq => ?_, ?_⟩
  · have hq' := turnI_mem ha hb hq
    obtain ⟨h1, h2, h3, h4⟩ := h.row q hq'
    exact ⟨h1, h2, h3, h4.kept (hc.block _ h4.lt (hd q hq'))⟩
  · rw [turnI_map _ ha hb]
    exact turnI_nodup (by rw [List.length_map]; exact ha) (by rw [List.length_map]; exact hb) h.one
end Go.Proofs.Yteccacnojmilcaa
