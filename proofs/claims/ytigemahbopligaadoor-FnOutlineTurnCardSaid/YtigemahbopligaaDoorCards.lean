/-
  DERIVED. GIVEN WITH THE SEED: THE CARDS: each row of YtigemahbopligaaDoorRows.lean that lists a variable, with what it lists TIED to the program's text (the seventh form; the later family's looks); each row that meets fmt, with fmt's text TOLD by the authors' own Lean function (tested against real Go, not proved from fmt's source: count such statements apart). THE CARD IS WHAT COUNTS. Prove the row's statement (the work); the ties are given (YtigemahbopligaaDoorTie.lean); close each card by the builder's one call (the guide's Derived/Test/ToyasCard.lean, 'card_holds'). Laid BY PROGRAM, IN A SANDBOX (cutbox-door.mjs). By AI agents, Wed Nov 11 2026. No macro, syntax, notation, axiom, sorry.
-/
import Derived.Test.YtigemahbopligaaDoorRows
import GoSem.ClaimSeven
namespace Go.Proofs.YtigemahbopligaaDoor
namespace Rows

/-- THE TIED CARD OF 'laws.FnExactOutlineBox'. -/
def fnExactOutlineBoxCard : Claim7 := { stood := { row := fnExactOutlineBoxRow, standIns := [], harness := (true, "d47f98c0609dbcf8ec606f1484c9140c5f77a67d272fc037e4a08de275624bb9"), looks := false }, kinds := [], alts := [], laidByText := true, laidKinds := [.data, .data], laidTests := true, laidLooks := .later }
def FnExactOutlineBoxCardSaid : Prop := Claim7.holds Tryd.pinned (.plain (OpenSpec.ofChange fnExactOutlineBoxSpec)) fnExactOutlineBoxCard

/-- THE TIED CARD OF 'laws.FnExactOutlineTouches'. -/
def fnExactOutlineTouchesCard : Claim7 := { stood := { row := fnExactOutlineTouchesRow, standIns := [], harness := (true, "d47f98c0609dbcf8ec606f1484c9140c5f77a67d272fc037e4a08de275624bb9"), looks := false }, kinds := [], alts := [], laidByText := true, laidKinds := [.data, .data], laidTests := true, laidLooks := .later }
def FnExactOutlineTouchesCardSaid : Prop := Claim7.holds Tryd.pinned (.plain (OpenSpec.ofChange fnExactOutlineTouchesSpec)) fnExactOutlineTouchesCard

/-- THE TIED CARD OF 'laws.FnOutlineTouches'. -/
def fnOutlineTouchesCard : Claim7 := { stood := { row := fnOutlineTouchesRow, standIns := [], harness := (true, "d47f98c0609dbcf8ec606f1484c9140c5f77a67d272fc037e4a08de275624bb9"), looks := false }, kinds := [], alts := [], laidByText := true, laidKinds := [.data, .data], laidTests := true, laidLooks := .later }
def FnOutlineTouchesCardSaid : Prop := Claim7.holds Tryd.pinned (.plain (OpenSpec.ofChange fnOutlineTouchesSpec)) fnOutlineTouchesCard

/-- THE TIED CARD OF 'laws.FnOutlineTurn'. -/
def fnOutlineTurnCard : Claim7 := { stood := { row := fnOutlineTurnRow, standIns := [], harness := (true, "d47f98c0609dbcf8ec606f1484c9140c5f77a67d272fc037e4a08de275624bb9"), looks := false }, kinds := [], alts := [], laidByText := true, laidKinds := [.data, .data], laidTests := true, laidLooks := .later }
def FnOutlineTurnCardSaid : Prop := Claim7.holds Tryd.pinned (.plain (OpenSpec.ofChange fnOutlineTurnSpec)) fnOutlineTurnCard

/-- THE TIED CARD OF 'laws.FnOutlineEnd'. -/
def fnOutlineEndCard : Claim7 := { stood := { row := fnOutlineEndRow, standIns := [], harness := (true, "d47f98c0609dbcf8ec606f1484c9140c5f77a67d272fc037e4a08de275624bb9"), looks := false }, kinds := [], alts := [], laidByText := true, laidKinds := [.data, .data], laidTests := true, laidLooks := .later }
def FnOutlineEndCardSaid : Prop := Claim7.holds Tryd.pinned (.plain (OpenSpec.ofChange fnOutlineEndSpec)) fnOutlineEndCard

/-- THE TIED CARD OF 'laws.FnOutlineMirror'. -/
def fnOutlineMirrorCard : Claim7 := { stood := { row := fnOutlineMirrorRow, standIns := [], harness := (true, "d47f98c0609dbcf8ec606f1484c9140c5f77a67d272fc037e4a08de275624bb9"), looks := false }, kinds := [], alts := [], laidByText := true, laidKinds := [.data, .data], laidTests := true, laidLooks := .later }
def FnOutlineMirrorCardSaid : Prop := Claim7.holds Tryd.pinned (.plain (OpenSpec.ofChange fnOutlineMirrorSpec)) fnOutlineMirrorCard

/-- THE TIED CARD OF 'laws.FnOutlineBack'. -/
def fnOutlineBackCard : Claim7 := { stood := { row := fnOutlineBackRow, standIns := [], harness := (true, "d47f98c0609dbcf8ec606f1484c9140c5f77a67d272fc037e4a08de275624bb9"), looks := false }, kinds := [], alts := [], laidByText := true, laidKinds := [.data, .data], laidTests := true, laidLooks := .later }
def FnOutlineBackCardSaid : Prop := Claim7.holds Tryd.pinned (.plain (OpenSpec.ofChange fnOutlineBackSpec)) fnOutlineBackCard

/-- THE TIED CARD OF 'laws.FnOutlineBox'. -/
def fnOutlineBoxCard : Claim7 := { stood := { row := fnOutlineBoxRow, standIns := [], harness := (true, "d47f98c0609dbcf8ec606f1484c9140c5f77a67d272fc037e4a08de275624bb9"), looks := false }, kinds := [], alts := [], laidByText := true, laidKinds := [.data, .data], laidTests := true, laidLooks := .later }
def FnOutlineBoxCardSaid : Prop := Claim7.holds Tryd.pinned (.plain (OpenSpec.ofChange fnOutlineBoxSpec)) fnOutlineBoxCard

/-- THE SECOND FORM's CARD OF 'laws.FnExactOutlineBox'. -/
def fnExactOutlineBoxUptoCard : Claim7 := { stood := { row := fnExactOutlineBoxUptoRow, standIns := [], harness := (true, "d47f98c0609dbcf8ec606f1484c9140c5f77a67d272fc037e4a08de275624bb9"), looks := false }, kinds := [], alts := [], laidByText := true, laidKinds := [.data, .data], laidTests := true, laidLooks := .later }
def FnExactOutlineBoxUptoCardSaid : Prop := Claim7.holds Tryd.pinned (.plain (OpenSpec.upto fnExactOutlineBoxSpec)) fnExactOutlineBoxUptoCard

/-- THE SECOND FORM's CARD OF 'laws.FnExactOutlineTouches'. -/
def fnExactOutlineTouchesUptoCard : Claim7 := { stood := { row := fnExactOutlineTouchesUptoRow, standIns := [], harness := (true, "d47f98c0609dbcf8ec606f1484c9140c5f77a67d272fc037e4a08de275624bb9"), looks := false }, kinds := [], alts := [], laidByText := true, laidKinds := [.data, .data], laidTests := true, laidLooks := .later }
def FnExactOutlineTouchesUptoCardSaid : Prop := Claim7.holds Tryd.pinned (.plain (OpenSpec.upto fnExactOutlineTouchesSpec)) fnExactOutlineTouchesUptoCard

/-- THE SECOND FORM's CARD OF 'laws.FnOutlineTouches'. -/
def fnOutlineTouchesUptoCard : Claim7 := { stood := { row := fnOutlineTouchesUptoRow, standIns := [], harness := (true, "d47f98c0609dbcf8ec606f1484c9140c5f77a67d272fc037e4a08de275624bb9"), looks := false }, kinds := [], alts := [], laidByText := true, laidKinds := [.data, .data], laidTests := true, laidLooks := .later }
def FnOutlineTouchesUptoCardSaid : Prop := Claim7.holds Tryd.pinned (.plain (OpenSpec.upto fnOutlineTouchesSpec)) fnOutlineTouchesUptoCard

/-- THE SECOND FORM's CARD OF 'laws.FnOutlineTurn'. -/
def fnOutlineTurnUptoCard : Claim7 := { stood := { row := fnOutlineTurnUptoRow, standIns := [], harness := (true, "d47f98c0609dbcf8ec606f1484c9140c5f77a67d272fc037e4a08de275624bb9"), looks := false }, kinds := [], alts := [], laidByText := true, laidKinds := [.data, .data], laidTests := true, laidLooks := .later }
def FnOutlineTurnUptoCardSaid : Prop := Claim7.holds Tryd.pinned (.plain (OpenSpec.upto fnOutlineTurnSpec)) fnOutlineTurnUptoCard

/-- THE SECOND FORM's CARD OF 'laws.FnOutlineEnd'. -/
def fnOutlineEndUptoCard : Claim7 := { stood := { row := fnOutlineEndUptoRow, standIns := [], harness := (true, "d47f98c0609dbcf8ec606f1484c9140c5f77a67d272fc037e4a08de275624bb9"), looks := false }, kinds := [], alts := [], laidByText := true, laidKinds := [.data, .data], laidTests := true, laidLooks := .later }
def FnOutlineEndUptoCardSaid : Prop := Claim7.holds Tryd.pinned (.plain (OpenSpec.upto fnOutlineEndSpec)) fnOutlineEndUptoCard

/-- THE SECOND FORM's CARD OF 'laws.FnOutlineMirror'. -/
def fnOutlineMirrorUptoCard : Claim7 := { stood := { row := fnOutlineMirrorUptoRow, standIns := [], harness := (true, "d47f98c0609dbcf8ec606f1484c9140c5f77a67d272fc037e4a08de275624bb9"), looks := false }, kinds := [], alts := [], laidByText := true, laidKinds := [.data, .data], laidTests := true, laidLooks := .later }
def FnOutlineMirrorUptoCardSaid : Prop := Claim7.holds Tryd.pinned (.plain (OpenSpec.upto fnOutlineMirrorSpec)) fnOutlineMirrorUptoCard

/-- THE SECOND FORM's CARD OF 'laws.FnOutlineBack'. -/
def fnOutlineBackUptoCard : Claim7 := { stood := { row := fnOutlineBackUptoRow, standIns := [], harness := (true, "d47f98c0609dbcf8ec606f1484c9140c5f77a67d272fc037e4a08de275624bb9"), looks := false }, kinds := [], alts := [], laidByText := true, laidKinds := [.data, .data], laidTests := true, laidLooks := .later }
def FnOutlineBackUptoCardSaid : Prop := Claim7.holds Tryd.pinned (.plain (OpenSpec.upto fnOutlineBackSpec)) fnOutlineBackUptoCard

/-- THE SECOND FORM's CARD OF 'laws.FnOutlineBox'. -/
def fnOutlineBoxUptoCard : Claim7 := { stood := { row := fnOutlineBoxUptoRow, standIns := [], harness := (true, "d47f98c0609dbcf8ec606f1484c9140c5f77a67d272fc037e4a08de275624bb9"), looks := false }, kinds := [], alts := [], laidByText := true, laidKinds := [.data, .data], laidTests := true, laidLooks := .later }
def FnOutlineBoxUptoCardSaid : Prop := Claim7.holds Tryd.pinned (.plain (OpenSpec.upto fnOutlineBoxSpec)) fnOutlineBoxUptoCard
end Rows
end Go.Proofs.YtigemahbopligaaDoor
