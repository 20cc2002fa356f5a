/- FnLineLength returns true whatever its arguments, and its arguments read afterwards as before. Conditions: none beyond the row's own. -/
import Derived.Test.YtigemahbopligaaRows
import Derived.Test.YtigemahbopligaaSeat
import Derived.Test.YtigemahbopligaaLawLineLength
namespace Go.Proofs.Ytigemahbopligaa
open Go.ChangeShapes Go.WideShapes Go.ChangeAt Go.RowKit

set_option maxRecDepth 100000 in
theorem fnLineLength_lifted (os : Os) (started : os.Started) (H : Type) (enc : TypeId × Value → H) :
    ReturnsInHanded {} Try.checked os 8 .any (Rows.fnLineLengthSpec.pre6 enc Try.prog Try.f8 Rows.fnLineLengthRow.domain false) (Rows.fnLineLengthSpec.post enc Try.prog Try.f8 false true false false) := by
  refine returnsInHanded_of_change (C := Try.checked) Try.own started (by kernel_rfl) Try.func8
    (ChangeSpec.witness6 (enc := enc) (C := Try.checked) false ⟨#[], #[.slice none 0 0, .slice none 0 0], []⟩ 8 (by kernel_rfl) (by kernel_rfl) (by kernel_rfl) (by kernel_rfl)) ?_
  intro W base args ds gs before hval0 hW hcnd _
  have hval : ∀ (j : Nat) t v, Try.f8.params[j]? = some t → args[j]? = some v → Value.okWide Try.prog W .any base t v := hval0
  have hW' := hW
  obtain ⟨p, q, hA0, hV, rfl, hfz, hnd⟩ := hW
  have hA : DataW.TrodAll enc Try.prog W 0 (fun _ => true) true Try.f8.params.toList args.toList ds p := hA0
  rw [Try.params8] at hA hval
  obtain ⟨v0, v1, d0, d1, p0, p1, rfl, rfl, rfl, h0, h1⟩ := trodAll_two hA
  obtain ⟨rfl, rfl⟩ := trodVars_none hV
  obtain ⟨A0, c0, l0, rfl, hc0, hl0⟩ := arg_slice Try.underlying33 opens_bytes (hval 0 33 v0 rfl rfl) h0
  obtain ⟨A1, c1, l1, rfl, hc1, hl1⟩ := arg_slice Try.underlying33 opens_bytes (hval 1 33 v1 rfl rfl) h1
  refine (lawLineLength A0 l0.length c0 l0 A1 l1.length c1 l1 W hc0 hl0 hc1 hl1).mono fun e W' ⟨he, hb⟩ => ?_
  subst he
  exact ⟨_, rfl, law_post hW' Try.laidOut hb (by intro t ht; rw [Try.params8] at ht; simp at ht; subst ht; exact ⟨by kernel_rfl, of_decide_eq_true (by kernel_rfl)⟩) (tb := 4) (by kernel_rfl) Try.underlying4 rfl rfl rfl rfl⟩

theorem fnLineLength_holds : Rows.FnLineLengthSaid :=
  OpenClaim.holds_of_wide 8 Try.f8 rfl rfl rfl rfl rfl rfl rfl ⟨rfl, rfl, rfl, rfl, rfl⟩ rfl rfl rfl rfl rfl (by kernel_rfl) Try.func8 (by kernel_rfl)
    (of_decide_eq_true (by kernel_rfl)) (by unfold Func.isWrapper; first | (rw [if_pos (by decide +kernel)]; kernel_rfl) | (rw [if_neg (by decide +kernel)]; exact ⟨rfl, rfl⟩))
    (fun os started H enc _ => fnLineLength_lifted os started H enc)
end Go.Proofs.Ytigemahbopligaa
