/-
  DERIVED. GIVEN WITH THE SEED: THE CARDS: each row of YtldhnljlhbbobaaDoorRows.lean that lists a variable, with what it lists TIED to the program's text (the seventh form; the later family's looks); each row that meets fmt, with fmt's text TOLD by the authors' own Lean function (tested against real Go, not proved from fmt's source: count such statements apart). THE CARD IS WHAT COUNTS. Prove the row's statement (the work); the ties are given (YtldhnljlhbbobaaDoorTie.lean); close each card by the builder's one call (the guide's Derived/Test/ToyasCard.lean, 'card_holds'). Laid BY PROGRAM, IN A SANDBOX (cutbox-door.mjs). By AI agents, Wed Nov 11 2026. No macro, syntax, notation, axiom, sorry.
-/
import Derived.Test.YtldhnljlhbbobaaDoorRows
import GoSem.ClaimSeven
namespace Go.Proofs.YtldhnljlhbbobaaDoor
namespace Rows

/-- THE TIED CARD OF 'laws.FnExactOutlineEnd'. -/
def fnExactOutlineEndCard : Claim7 := { stood := { row := fnExactOutlineEndRow, standIns := [], harness := (true, "de4fdbcd8b807f48a407732a8737623736bb580378b72653008fa58ab85ec971"), looks := false }, kinds := [], alts := [], laidByText := true, laidKinds := [.data, .data], laidTests := true, laidLooks := .later }
def FnExactOutlineEndCardSaid : Prop := Claim7.holds Tryd.pinned (.plain (OpenSpec.ofChange fnExactOutlineEndSpec)) fnExactOutlineEndCard

/-- THE SECOND FORM's CARD OF 'laws.FnExactOutlineEnd'. -/
def fnExactOutlineEndUptoCard : Claim7 := { stood := { row := fnExactOutlineEndUptoRow, standIns := [], harness := (true, "de4fdbcd8b807f48a407732a8737623736bb580378b72653008fa58ab85ec971"), looks := false }, kinds := [], alts := [], laidByText := true, laidKinds := [.data, .data], laidTests := true, laidLooks := .later }
def FnExactOutlineEndUptoCardSaid : Prop := Claim7.holds Tryd.pinned (.plain (OpenSpec.upto fnExactOutlineEndSpec)) fnExactOutlineEndUptoCard
end Rows
end Go.Proofs.YtldhnljlhbbobaaDoor
