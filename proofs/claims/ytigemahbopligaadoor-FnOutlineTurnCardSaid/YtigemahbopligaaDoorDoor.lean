/- The listed tables of steps: from what a row asks of them to their cells; and the closing step of a law over a row that lists variables. -/
import Derived.Test.YtigemahbopligaaDoorPoints
import Derived.Test.YtigemahbopligaaDoorOpen
import Derived.Test.YtigemahbopligaaDoorRows
import Derived.ProofKit
import Derived.LaidMore
import Derived.LaidHandle
import Derived.OpenShut
import Derived.OpenVars
import Derived.Stop.Joined
namespace Go.Proofs.YtigemahbopligaaDoor
open Go.ChangeShapes Go.WideShapes Go.ChangeAt Go.WideMaps Go.WideElems Go.RowKit
abbrev laid2 : List (String × DataW Unit) := [("loop.example/shorthand/impl.stepsAcross", Rows.laid_loop_example_shorthand_impl_stepsAcross), ("loop.example/shorthand/impl.stepsUp", Rows.laid_loop_example_shorthand_impl_stepsUp)]
theorem gAcross : Tryd.prog.globalNamed "loop.example/shorthand/impl.stepsAcross" = some 0 := by kernel_rfl
theorem gUp : Tryd.prog.globalNamed "loop.example/shorthand/impl.stepsUp" = some 1 := by kernel_rfl
theorem tAcross : (Tryd.prog.globals[0]?).map (·.type) = some 78 := by kernel_rfl
theorem tUp : (Tryd.prog.globals[1]?).map (·.type) = some 78 := by kernel_rfl
theorem door_met (os : Os) (args : Array Value) : laidMetH Tryd.prog laid2 ((World.doorLaid Tryd.prog 400 os).forCall (fun _ _ => 0) ⟨#[], args, []⟩).memory :=
  laidMetH_of_parts3 (fuel := 8) (laidMet_of_run' 8 (by kernel_rfl) (by kernel_rfl)) (by kernel_rfl) (by kernel_rfl)
/-- An array of ints that reads as l holds l. -/
theorem ints_of_array {H : Type} {enc : TypeId × Value → H} {P : Program} {W : World} {base : Nat} {spare : Nat → Bool} {held : Bool} {fuel n : Nat} {t e : TypeId} {cs : List Value} {p : List MemPlace} (ht : P.underlying t = some (.array n e)) (he : P.underlying e = some (.int .i64)) (hc : P.cellsOf e = 1) {l : List Int} (hl : l.length = n)
    (h : DataW.trod enc P W base spare held fuel t cs = some (.agg (l.map fun x => .lit (.int .i64 x)), p)) : ∀ i, i < n → cs[i]? = some (.int .i64 (gt l i)) := by
  obtain ⟨xs, m, rfl, hx, hlen, hn, hel⟩ := DataW.trod_array ht h
  intro i hi
  have h1 := hel i hi
  simp only [Prod.mk.injEq, DataW.agg.injEq] at hx
  rw [List.getElem?_eq_getElem (by omega)] at h1
  obtain ⟨k, e1, e2, _⟩ := DataW.trod_int he h1
  rw [hc, Nat.mul_one] at e1
  have h2 : (l.map fun x => (DataW.lit (.int .i64 x) : DataW H))[i]? = (xs.map (·.1))[i]? := by rw [hx.1]
  rw [List.getElem?_map, List.getElem?_map, List.getElem?_eq_getElem (by omega), List.getElem?_eq_getElem (by omega)] at h2
  simp only [Option.map_some, Option.some.injEq] at h2
  rw [e2] at h2
  have hk : l[i]'(by omega) = k := by injection h2 with h2; injection h2 with _ h2
  rw [gt_eq (by omega), hk]
  have := congrArg (fun r : List Value => r[0]?) e1
  simpa [List.getElem?_take, List.getElem?_drop] using this
theorem tabs_of_laid {W : World} (h : laidMetH Tryd.prog laid2 W) : Tabs W := by
  rw [MakeChecks.laidMetH_plain _ _ _ (by kernel_rfl)] at h
  obtain ⟨ps, ⟨g0, t0, cs0, f0, p0, q0, hg0, ht0, hv0, hd0, ⟨g1, t1, cs1, f1, p1, q1, hg1, ht1, hv1, hd1, _, _⟩, _⟩, _, _⟩ := h
  obtain rfl := Option.some.inj (gAcross.symm.trans hg0)
  obtain rfl := Option.some.inj (gUp.symm.trans hg1)
  obtain rfl := Option.some.inj (tAcross.symm.trans ht0)
  obtain rfl := Option.some.inj (tUp.symm.trans ht1)
  have c3 : Tryd.prog.cellsOf 3 = 1 := by kernel_rfl
  refine ⟨fun d hd => ?_, fun d hd => ?_⟩
  · have := ints_of_array Tryd.underlying78 Tryd.underlying3 c3 (l := dxs) rfl hd0 d hd
    rw [World.var?_cell hg0 hv0 d]
    simpa [stepX] using this
  · have := ints_of_array Tryd.underlying78 Tryd.underlying3 c3 (l := dys) rfl hd1 d hd
    rw [World.var?_cell hg1 hv1 d]
    simpa [stepY] using this
theorem trodVars_two {H : Type} {enc : TypeId × Value → H} {P : Program} {w : World} {spare : Nat → Bool} {n m : String} {gs : List (DataW H)} {ps : List MemPlace} (h : DataW.TrodVars enc P w spare [n, m] gs ps) : ∃ g1 g2, gs = [g1, g2] := by
  match gs, h with
  | [g1, g2], _ => exact ⟨g1, g2, rfl⟩
  | [_], ⟨_, _, _, _, _, _, _, _, _, _, h, _⟩ => exact h.elim
  | _ :: _ :: _ :: _, ⟨_, _, _, _, _, _, _, _, _, _, ⟨_, _, _, _, _, _, _, _, _, _, h, _⟩, _⟩ => exact h.elim
/-- A law's closing step over a row that lists variables. -/
theorem law_postV {H : Type} {enc : TypeId × Value → H} {P : Program} {W W' : World} {f : Func} {s : ChangeSpec} {apart fresh handsOn : Bool} {args : Array Value} {ds gs : List (DataW H)} {before : List MemPlace} {tb : TypeId}
    (hW : DataW.Whole enc P f.params.toList s.vars apart W args.toList ds gs before) (hl : laidOutB P = true) (hb : Below W.heap.size W W') (hr : ∀ t ∈ f.params.toList, P.readableRec t = true ∧ t < P.types.size) (hv : varsRowed P s.vars = true)
    (hres : f.resultTypes = #[tb]) (htb : P.underlying tb = some .bool) (h1 : (s.fn H (ds ++ gs)).results = [.lit (.bool true)]) (h2 : (s.fn H (ds ++ gs)).args = ds) (h3 : (s.fn H (ds ++ gs)).vars = gs) :
    s.post enc P f apart fresh handsOn false W args (.bool true) W' := by
  have hW' := hW
  obtain ⟨p, q, hA, hV, rfl, hfz, hnd⟩ := hW
  refine ⟨ds, gs, p ++ q, [], p, q, hW', ?_, ?_, ?_, hb.frame _, fun h => by cases h⟩
  · rw [h1, hres]
    exact trodAll_mk1 (shut_bool htb true)
  · rw [h2]
    exact trodAll_below hl hb _ _ _ _ hA hr fun x hx => hW'.lt x (by simp [hx])
  · rw [h3]
    exact Below.trodVars hl hb hv hV
end Go.Proofs.YtigemahbopligaaDoor
