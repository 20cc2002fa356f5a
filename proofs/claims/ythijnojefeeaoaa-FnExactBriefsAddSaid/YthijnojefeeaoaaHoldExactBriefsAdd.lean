/- FnExactBriefsAdd returns true whatever its arguments, and its arguments read afterwards as before. Conditions: none beyond the row's own. -/
import Derived.Test.YthijnojefeeaoaaRows
import Derived.Test.YthijnojefeeaoaaSeat
import Derived.Test.YthijnojefeeaoaaLawExactBriefsAdd
namespace Go.Proofs.Ythijnojefeeaoaa
open Go.ChangeShapes Go.WideShapes Go.ChangeAt Go.RowKit

set_option maxRecDepth 100000 in
theorem fnExactBriefsAdd_lifted (os : Os) (started : os.Started) (H : Type) (enc : TypeId × Value → H) :
    ReturnsInHanded {} Try.checked os 6 .any (Rows.fnExactBriefsAddSpec.pre6 enc Try.prog Try.f6 Rows.fnExactBriefsAddRow.domain false) (Rows.fnExactBriefsAddSpec.post enc Try.prog Try.f6 false true false false) := by
  refine returnsInHanded_of_change (C := Try.checked) Try.own started (by kernel_rfl) Try.func6
    (ChangeSpec.witness6 (enc := enc) (C := Try.checked) false ⟨#[], #[.slice none 0 0, .agg #[.string ByteArray.empty, .slice none 0 0]], []⟩ 8 (by kernel_rfl) (by kernel_rfl) (by kernel_rfl) (by kernel_rfl)) ?_
  intro W base args ds gs before hval0 hW hcnd _
  have hval : ∀ (j : Nat) t v, Try.f6.params[j]? = some t → args[j]? = some v → Value.okWide Try.prog W .any base t v := hval0
  have hW' := hW
  obtain ⟨p, q, hA0, hV, rfl, hfz, hnd⟩ := hW
  have hA : DataW.TrodAll enc Try.prog W 0 (fun _ => true) true Try.f6.params.toList args.toList ds p := hA0
  rw [Try.params6] at hA hval
  obtain ⟨v0, v1, d0, d1, p0, p1, rfl, rfl, rfl, h0, h1⟩ := trodAll_two hA
  obtain ⟨rfl, rfl⟩ := trodVars_none hV
  obtain ⟨A0, c0, l0, rfl, _, hl0⟩ := arg_slice Try.underlying38 opens_briefs (hval 0 38 v0 rfl rfl) h0
  obtain ⟨s1, A1, c1, l1, rfl, hs1, hl1⟩ := arg_brief Try.underlying48 opens_brief (hval 1 48 v1 rfl rfl) h1
  refine (lawExactBriefsAdd A0 l0.length c0 l0 s1 A1 l1.length c1 l1 W hl0 hs1 hl1).mono fun e W' ⟨he, hb⟩ => ?_
  subst he
  exact ⟨_, rfl, law_post hW' Try.laidOut hb (by intro t ht; rw [Try.params6] at ht; simp at ht; rcases ht with rfl | rfl <;> exact ⟨by kernel_rfl, of_decide_eq_true (by kernel_rfl)⟩) (tb := 4) (by kernel_rfl) Try.underlying4 rfl rfl rfl rfl⟩

theorem fnExactBriefsAdd_holds : Rows.FnExactBriefsAddSaid :=
  OpenClaim.holds_of_wide 6 Try.f6 rfl rfl rfl rfl rfl rfl rfl ⟨rfl, rfl, rfl, rfl, rfl⟩ rfl rfl rfl rfl rfl (by kernel_rfl) Try.func6 (by kernel_rfl)
    (of_decide_eq_true (by kernel_rfl)) (by unfold Func.isWrapper; first | (rw [if_pos (by decide +kernel)]; kernel_rfl) | (rw [if_neg (by decide +kernel)]; exact ⟨rfl, rfl⟩))
    (fun os started H enc _ => fnExactBriefsAdd_lifted os started H enc)
end Go.Proofs.Ythijnojefeeaoaa
