/-
  NARROWER THAN 'FOR EVERY INPUT', by the rows' own cells (each row's printed sentence says how): FnExactOutlineBox: laid · FnExactOutlineTouches: laid · FnOutlineTouches: laid · FnOutlineTurn: laid · FnOutlineEnd: laid · FnOutlineMirror: laid · FnOutlineBack: laid · FnOutlineBox: laid.
  DERIVED. THE GIVEN ROWS OF THIS SEAT. 8 by the template 'for every input the law returns true; each argument reads behind the call as it read before'; 0 by the template 'total and deterministic' (their statements: YtigemahbopligaaDoorTotals.lean).
  GIVEN WITH THE SEED: the statements are not yours to turn. If you find one false, say at which input.
  Laid BY PROGRAM, IN A SANDBOX (cutbox-rows.mjs): the forced cells as the released guide's own fill.sh prints them over the translation ec8629a8b5b18d16… (all of the seat's roots in one cut). By AI agents, Wed Nov 11 2026. No macro, syntax, notation, axiom, sorry.
-/
import Derived.Test.YtigemahbopligaaDoorChecked
import GoSem.Claim
import GoSem.ClaimJoined
import GoSem.ClaimMapViews
import Derived.JoinedTies
import Derived.KernelRfl
namespace Go.Proofs.YtigemahbopligaaDoor
/- THE CELL 'sum', in the pinned program and in every row, IS THE sha256 OF THE DUMP (.gsa) THAT YtigemahbopligaaDoorProg.lean LOADS. Nothing in Lean hashes anything: it is a label: what it is worth is what the hold of that sum in a sandbox is worth. -/
noncomputable def Tryd.pinned : Pinned := { name := "ytigemahbopligaadoor", sum := "ec8629a8b5b18d1656f84f25759e1500127ea053dd2a7ddf27652b6dd1aab0e4", checked := Tryd.checked }
namespace Rows
def none {H : Type} : Left H := { results := [], args := [] }

/- WHAT THE LISTED PACKAGE-LEVEL VARIABLES READ AS WHEN THE CALL BEGINS. Each datum BY PROGRAM (the guide's laid-datum.mjs) off the statement by which the dump's own 'gosem.cut.vars' lays the variable. In a bare row this is a premise. The card (YtigemahbopligaaDoorCards.lean) ties it to the program's text. -/
def laid_loop_example_shorthand_impl_stepsAcross {H : Type} : DataW H := .agg [.lit (.int .i64 1), .lit (.int .i64 1), .lit (.int .i64 0), .lit (.int .i64 (-1)), .lit (.int .i64 (-1)), .lit (.int .i64 (-1)), .lit (.int .i64 0), .lit (.int .i64 1)]
def laid_loop_example_shorthand_impl_stepsUp {H : Type} : DataW H := .agg [.lit (.int .i64 0), .lit (.int .i64 1), .lit (.int .i64 1), .lit (.int .i64 1), .lit (.int .i64 0), .lit (.int .i64 (-1)), .lit (.int .i64 (-1)), .lit (.int .i64 (-1))]

/-- 'laws.FnExactOutlineBox': WHATEVER THE INPUT: true; the input reads as it did. -/
def fnExactOutlineBoxSpec : ChangeSpec := { name := "fnExactOutlineBox", vars := ["loop.example/shorthand/impl.stepsAcross", "loop.example/shorthand/impl.stepsUp"], fn := fun _ => fun
  | [d, g1, g2] => { results := [.lit (.bool true)], args := [d], vars := [g1, g2] }
  | _ => none }
def fnExactOutlineBoxRow : OpenClaim := { program := "ytigemahbopligaadoor", sum := "ec8629a8b5b18d1656f84f25759e1500127ea053dd2a7ddf27652b6dd1aab0e4", func := "loop.example/shorthand/laws.FnExactOutlineBox", spec := "fnExactOutlineBox", named := ["loop.example/shorthand/impl.stepsAcross", "loop.example/shorthand/impl.stepsUp"], plainKeys := false, apart := false, laid := [("loop.example/shorthand/impl.stepsAcross", laid_loop_example_shorthand_impl_stepsAcross), ("loop.example/shorthand/impl.stepsUp", laid_loop_example_shorthand_impl_stepsUp)] }
def FnExactOutlineBoxSaid : Prop := fnExactOutlineBoxRow.holds Tryd.pinned (OpenSpec.ofChange fnExactOutlineBoxSpec)

/-- ITS FALSE NEIGHBOUR: 'it returns false'. Refute it at one input. -/
def fnExactOutlineBoxWrong : ChangeSpec := { name := "fnExactOutlineBox", vars := ["loop.example/shorthand/impl.stepsAcross", "loop.example/shorthand/impl.stepsUp"], fn := fun _ => fun
  | [d, g1, g2] => { results := [.lit (.bool false)], args := [d], vars := [g1, g2] }
  | _ => none }
def FnExactOutlineBoxWrongFalsely : Prop := fnExactOutlineBoxRow.holds Tryd.pinned (OpenSpec.ofChange fnExactOutlineBoxWrong)

/-- 'laws.FnExactOutlineTouches': WHATEVER THE INPUT: true; the input reads as it did. -/
def fnExactOutlineTouchesSpec : ChangeSpec := { name := "fnExactOutlineTouches", vars := ["loop.example/shorthand/impl.stepsAcross", "loop.example/shorthand/impl.stepsUp"], fn := fun _ => fun
  | [d, g1, g2] => { results := [.lit (.bool true)], args := [d], vars := [g1, g2] }
  | _ => none }
def fnExactOutlineTouchesRow : OpenClaim := { program := "ytigemahbopligaadoor", sum := "ec8629a8b5b18d1656f84f25759e1500127ea053dd2a7ddf27652b6dd1aab0e4", func := "loop.example/shorthand/laws.FnExactOutlineTouches", spec := "fnExactOutlineTouches", named := ["loop.example/shorthand/impl.stepsAcross", "loop.example/shorthand/impl.stepsUp"], plainKeys := false, apart := false, laid := [("loop.example/shorthand/impl.stepsAcross", laid_loop_example_shorthand_impl_stepsAcross), ("loop.example/shorthand/impl.stepsUp", laid_loop_example_shorthand_impl_stepsUp)] }
def FnExactOutlineTouchesSaid : Prop := fnExactOutlineTouchesRow.holds Tryd.pinned (OpenSpec.ofChange fnExactOutlineTouchesSpec)

/-- ITS FALSE NEIGHBOUR: 'it returns false'. Refute it at one input. -/
def fnExactOutlineTouchesWrong : ChangeSpec := { name := "fnExactOutlineTouches", vars := ["loop.example/shorthand/impl.stepsAcross", "loop.example/shorthand/impl.stepsUp"], fn := fun _ => fun
  | [d, g1, g2] => { results := [.lit (.bool false)], args := [d], vars := [g1, g2] }
  | _ => none }
def FnExactOutlineTouchesWrongFalsely : Prop := fnExactOutlineTouchesRow.holds Tryd.pinned (OpenSpec.ofChange fnExactOutlineTouchesWrong)

/-- 'laws.FnOutlineTouches': WHATEVER THE INPUT: true; the input reads as it did. -/
def fnOutlineTouchesSpec : ChangeSpec := { name := "fnOutlineTouches", vars := ["loop.example/shorthand/impl.stepsAcross", "loop.example/shorthand/impl.stepsUp"], fn := fun _ => fun
  | [d1, d2, g1, g2] => { results := [.lit (.bool true)], args := [d1, d2], vars := [g1, g2] }
  | _ => none }
def fnOutlineTouchesRow : OpenClaim := { program := "ytigemahbopligaadoor", sum := "ec8629a8b5b18d1656f84f25759e1500127ea053dd2a7ddf27652b6dd1aab0e4", func := "loop.example/shorthand/laws.FnOutlineTouches", spec := "fnOutlineTouches", named := ["loop.example/shorthand/impl.stepsAcross", "loop.example/shorthand/impl.stepsUp"], plainKeys := false, apart := false, laid := [("loop.example/shorthand/impl.stepsAcross", laid_loop_example_shorthand_impl_stepsAcross), ("loop.example/shorthand/impl.stepsUp", laid_loop_example_shorthand_impl_stepsUp)] }
def FnOutlineTouchesSaid : Prop := fnOutlineTouchesRow.holds Tryd.pinned (OpenSpec.ofChange fnOutlineTouchesSpec)

/-- ITS FALSE NEIGHBOUR: 'it returns false'. Refute it at one input. -/
def fnOutlineTouchesWrong : ChangeSpec := { name := "fnOutlineTouches", vars := ["loop.example/shorthand/impl.stepsAcross", "loop.example/shorthand/impl.stepsUp"], fn := fun _ => fun
  | [d1, d2, g1, g2] => { results := [.lit (.bool false)], args := [d1, d2], vars := [g1, g2] }
  | _ => none }
def FnOutlineTouchesWrongFalsely : Prop := fnOutlineTouchesRow.holds Tryd.pinned (OpenSpec.ofChange fnOutlineTouchesWrong)

/-- 'laws.FnOutlineTurn': WHATEVER THE INPUT: true; the input reads as it did. -/
def fnOutlineTurnSpec : ChangeSpec := { name := "fnOutlineTurn", vars := ["loop.example/shorthand/impl.stepsAcross", "loop.example/shorthand/impl.stepsUp"], fn := fun _ => fun
  | [d, g1, g2] => { results := [.lit (.bool true)], args := [d], vars := [g1, g2] }
  | _ => none }
def fnOutlineTurnRow : OpenClaim := { program := "ytigemahbopligaadoor", sum := "ec8629a8b5b18d1656f84f25759e1500127ea053dd2a7ddf27652b6dd1aab0e4", func := "loop.example/shorthand/laws.FnOutlineTurn", spec := "fnOutlineTurn", unfollowed := true, recurses := true, named := ["loop.example/shorthand/impl.stepsAcross", "loop.example/shorthand/impl.stepsUp"], plainKeys := false, apart := false, laid := [("loop.example/shorthand/impl.stepsAcross", laid_loop_example_shorthand_impl_stepsAcross), ("loop.example/shorthand/impl.stepsUp", laid_loop_example_shorthand_impl_stepsUp)] }
def FnOutlineTurnSaid : Prop := fnOutlineTurnRow.holds Tryd.pinned (OpenSpec.ofChange fnOutlineTurnSpec)

/-- ITS FALSE NEIGHBOUR: 'it returns false'. Refute it at one input. -/
def fnOutlineTurnWrong : ChangeSpec := { name := "fnOutlineTurn", vars := ["loop.example/shorthand/impl.stepsAcross", "loop.example/shorthand/impl.stepsUp"], fn := fun _ => fun
  | [d, g1, g2] => { results := [.lit (.bool false)], args := [d], vars := [g1, g2] }
  | _ => none }
def FnOutlineTurnWrongFalsely : Prop := fnOutlineTurnRow.holds Tryd.pinned (OpenSpec.ofChange fnOutlineTurnWrong)

/-- 'laws.FnOutlineEnd': WHATEVER THE INPUT: true; the input reads as it did. -/
def fnOutlineEndSpec : ChangeSpec := { name := "fnOutlineEnd", vars := ["loop.example/shorthand/impl.stepsAcross", "loop.example/shorthand/impl.stepsUp"], fn := fun _ => fun
  | [d, g1, g2] => { results := [.lit (.bool true)], args := [d], vars := [g1, g2] }
  | _ => none }
def fnOutlineEndRow : OpenClaim := { program := "ytigemahbopligaadoor", sum := "ec8629a8b5b18d1656f84f25759e1500127ea053dd2a7ddf27652b6dd1aab0e4", func := "loop.example/shorthand/laws.FnOutlineEnd", spec := "fnOutlineEnd", unfollowed := true, recurses := true, named := ["loop.example/shorthand/impl.stepsAcross", "loop.example/shorthand/impl.stepsUp"], plainKeys := false, apart := false, laid := [("loop.example/shorthand/impl.stepsAcross", laid_loop_example_shorthand_impl_stepsAcross), ("loop.example/shorthand/impl.stepsUp", laid_loop_example_shorthand_impl_stepsUp)] }
def FnOutlineEndSaid : Prop := fnOutlineEndRow.holds Tryd.pinned (OpenSpec.ofChange fnOutlineEndSpec)

/-- ITS FALSE NEIGHBOUR: 'it returns false'. Refute it at one input. -/
def fnOutlineEndWrong : ChangeSpec := { name := "fnOutlineEnd", vars := ["loop.example/shorthand/impl.stepsAcross", "loop.example/shorthand/impl.stepsUp"], fn := fun _ => fun
  | [d, g1, g2] => { results := [.lit (.bool false)], args := [d], vars := [g1, g2] }
  | _ => none }
def FnOutlineEndWrongFalsely : Prop := fnOutlineEndRow.holds Tryd.pinned (OpenSpec.ofChange fnOutlineEndWrong)

/-- 'laws.FnOutlineMirror': WHATEVER THE INPUT: true; the input reads as it did. -/
def fnOutlineMirrorSpec : ChangeSpec := { name := "fnOutlineMirror", vars := ["loop.example/shorthand/impl.stepsAcross", "loop.example/shorthand/impl.stepsUp"], fn := fun _ => fun
  | [d1, d2, g1, g2] => { results := [.lit (.bool true)], args := [d1, d2], vars := [g1, g2] }
  | _ => none }
def fnOutlineMirrorRow : OpenClaim := { program := "ytigemahbopligaadoor", sum := "ec8629a8b5b18d1656f84f25759e1500127ea053dd2a7ddf27652b6dd1aab0e4", func := "loop.example/shorthand/laws.FnOutlineMirror", spec := "fnOutlineMirror", unfollowed := true, recurses := true, named := ["loop.example/shorthand/impl.stepsAcross", "loop.example/shorthand/impl.stepsUp"], plainKeys := false, apart := false, laid := [("loop.example/shorthand/impl.stepsAcross", laid_loop_example_shorthand_impl_stepsAcross), ("loop.example/shorthand/impl.stepsUp", laid_loop_example_shorthand_impl_stepsUp)] }
def FnOutlineMirrorSaid : Prop := fnOutlineMirrorRow.holds Tryd.pinned (OpenSpec.ofChange fnOutlineMirrorSpec)

/-- ITS FALSE NEIGHBOUR: 'it returns false'. Refute it at one input. -/
def fnOutlineMirrorWrong : ChangeSpec := { name := "fnOutlineMirror", vars := ["loop.example/shorthand/impl.stepsAcross", "loop.example/shorthand/impl.stepsUp"], fn := fun _ => fun
  | [d1, d2, g1, g2] => { results := [.lit (.bool false)], args := [d1, d2], vars := [g1, g2] }
  | _ => none }
def FnOutlineMirrorWrongFalsely : Prop := fnOutlineMirrorRow.holds Tryd.pinned (OpenSpec.ofChange fnOutlineMirrorWrong)

/-- 'laws.FnOutlineBack': WHATEVER THE INPUT: true; the input reads as it did. -/
def fnOutlineBackSpec : ChangeSpec := { name := "fnOutlineBack", vars := ["loop.example/shorthand/impl.stepsAcross", "loop.example/shorthand/impl.stepsUp"], fn := fun _ => fun
  | [d, g1, g2] => { results := [.lit (.bool true)], args := [d], vars := [g1, g2] }
  | _ => none }
def fnOutlineBackRow : OpenClaim := { program := "ytigemahbopligaadoor", sum := "ec8629a8b5b18d1656f84f25759e1500127ea053dd2a7ddf27652b6dd1aab0e4", func := "loop.example/shorthand/laws.FnOutlineBack", spec := "fnOutlineBack", unfollowed := true, recurses := true, named := ["loop.example/shorthand/impl.stepsAcross", "loop.example/shorthand/impl.stepsUp"], plainKeys := false, apart := false, laid := [("loop.example/shorthand/impl.stepsAcross", laid_loop_example_shorthand_impl_stepsAcross), ("loop.example/shorthand/impl.stepsUp", laid_loop_example_shorthand_impl_stepsUp)] }
def FnOutlineBackSaid : Prop := fnOutlineBackRow.holds Tryd.pinned (OpenSpec.ofChange fnOutlineBackSpec)

/-- ITS FALSE NEIGHBOUR: 'it returns false'. Refute it at one input. -/
def fnOutlineBackWrong : ChangeSpec := { name := "fnOutlineBack", vars := ["loop.example/shorthand/impl.stepsAcross", "loop.example/shorthand/impl.stepsUp"], fn := fun _ => fun
  | [d, g1, g2] => { results := [.lit (.bool false)], args := [d], vars := [g1, g2] }
  | _ => none }
def FnOutlineBackWrongFalsely : Prop := fnOutlineBackRow.holds Tryd.pinned (OpenSpec.ofChange fnOutlineBackWrong)

/-- 'laws.FnOutlineBox': WHATEVER THE INPUT: true; the input reads as it did. -/
def fnOutlineBoxSpec : ChangeSpec := { name := "fnOutlineBox", vars := ["loop.example/shorthand/impl.stepsAcross", "loop.example/shorthand/impl.stepsUp"], fn := fun _ => fun
  | [d, g1, g2] => { results := [.lit (.bool true)], args := [d], vars := [g1, g2] }
  | _ => none }
def fnOutlineBoxRow : OpenClaim := { program := "ytigemahbopligaadoor", sum := "ec8629a8b5b18d1656f84f25759e1500127ea053dd2a7ddf27652b6dd1aab0e4", func := "loop.example/shorthand/laws.FnOutlineBox", spec := "fnOutlineBox", unfollowed := true, recurses := true, named := ["loop.example/shorthand/impl.stepsAcross", "loop.example/shorthand/impl.stepsUp"], plainKeys := false, apart := false, laid := [("loop.example/shorthand/impl.stepsAcross", laid_loop_example_shorthand_impl_stepsAcross), ("loop.example/shorthand/impl.stepsUp", laid_loop_example_shorthand_impl_stepsUp)] }
def FnOutlineBoxSaid : Prop := fnOutlineBoxRow.holds Tryd.pinned (OpenSpec.ofChange fnOutlineBoxSpec)

/-- ITS FALSE NEIGHBOUR: 'it returns false'. Refute it at one input. -/
def fnOutlineBoxWrong : ChangeSpec := { name := "fnOutlineBox", vars := ["loop.example/shorthand/impl.stepsAcross", "loop.example/shorthand/impl.stepsUp"], fn := fun _ => fun
  | [d, g1, g2] => { results := [.lit (.bool false)], args := [d], vars := [g1, g2] }
  | _ => none }
def FnOutlineBoxWrongFalsely : Prop := fnOutlineBoxRow.holds Tryd.pinned (OpenSpec.ofChange fnOutlineBoxWrong)

/- THE SECOND FORM. 'bulk': how many values and letters a reading holds, each counted each time it is reached (what is shared counts as often as it is met; a slice's spare places count too). A statement '..UptoSaid' is the law's where the arguments, and the package variables that the reading takes, are together of bulk at most 1048576: NARROWER than '..Said'. Prove '..Said' where nothing that the law and all that it calls make is longer than what came in: it says more and counts as full. Else prove '..UptoSaid'. A law counts once. -/
mutual
def uptoBulk {H : Type} : DataW H → Nat
  | .lit (.string bytes) => bytes.length + 1
  | .lit _ => 1
  | .nil => 1
  | .ptr d => uptoBulk d + 1
  | .slice elems spare => uptoBulkAll elems + uptoBulkAll spare + 1
  | .agg parts => uptoBulkAll parts + 1
  | .iface _ d => uptoBulk d + 1
  | .map entries => uptoBulkEntries entries + 1
  | .held _ => 1
def uptoBulkAll {H : Type} : List (DataW H) → Nat
  | [] => 0
  | d :: r => uptoBulk d + uptoBulkAll r
def uptoBulkEntries {H : Type} : List (Lit × DataW H) → Nat
  | [] => 0
  | x :: r => uptoBulkEntry x + uptoBulkEntries r
def uptoBulkEntry {H : Type} : Lit × DataW H → Nat
  | (.string bytes, d) => bytes.length + uptoBulk d + 1
  | (_, d) => uptoBulk d + 1
 end
def uptoSmall : (H : Type) → List (DataW H) → Bool := fun _ ds => decide (uptoBulkAll ds ≤ 1048576)
def OpenSpec.upto (s : _root_.Go.ChangeSpec) : _root_.Go.OpenSpec := { _root_.Go.OpenSpec.ofChange s with cond := some uptoSmall }

/-- 'laws.FnExactOutlineBox', WHERE WHAT IT READS IS OF BULK AT MOST 1048576: true; the input reads as it did. -/
def fnExactOutlineBoxUptoRow : OpenClaim := { program := "ytigemahbopligaadoor", sum := "ec8629a8b5b18d1656f84f25759e1500127ea053dd2a7ddf27652b6dd1aab0e4", func := "loop.example/shorthand/laws.FnExactOutlineBox", spec := "fnExactOutlineBox", named := ["loop.example/shorthand/impl.stepsAcross", "loop.example/shorthand/impl.stepsUp"], plainKeys := false, apart := false, laid := [("loop.example/shorthand/impl.stepsAcross", laid_loop_example_shorthand_impl_stepsAcross), ("loop.example/shorthand/impl.stepsUp", laid_loop_example_shorthand_impl_stepsUp)], narrowed := true }
def FnExactOutlineBoxUptoSaid : Prop := fnExactOutlineBoxUptoRow.holds Tryd.pinned (OpenSpec.upto fnExactOutlineBoxSpec)

/-- 'laws.FnExactOutlineTouches', WHERE WHAT IT READS IS OF BULK AT MOST 1048576: true; the input reads as it did. -/
def fnExactOutlineTouchesUptoRow : OpenClaim := { program := "ytigemahbopligaadoor", sum := "ec8629a8b5b18d1656f84f25759e1500127ea053dd2a7ddf27652b6dd1aab0e4", func := "loop.example/shorthand/laws.FnExactOutlineTouches", spec := "fnExactOutlineTouches", named := ["loop.example/shorthand/impl.stepsAcross", "loop.example/shorthand/impl.stepsUp"], plainKeys := false, apart := false, laid := [("loop.example/shorthand/impl.stepsAcross", laid_loop_example_shorthand_impl_stepsAcross), ("loop.example/shorthand/impl.stepsUp", laid_loop_example_shorthand_impl_stepsUp)], narrowed := true }
def FnExactOutlineTouchesUptoSaid : Prop := fnExactOutlineTouchesUptoRow.holds Tryd.pinned (OpenSpec.upto fnExactOutlineTouchesSpec)

/-- 'laws.FnOutlineTouches', WHERE WHAT IT READS IS OF BULK AT MOST 1048576: true; the input reads as it did. -/
def fnOutlineTouchesUptoRow : OpenClaim := { program := "ytigemahbopligaadoor", sum := "ec8629a8b5b18d1656f84f25759e1500127ea053dd2a7ddf27652b6dd1aab0e4", func := "loop.example/shorthand/laws.FnOutlineTouches", spec := "fnOutlineTouches", named := ["loop.example/shorthand/impl.stepsAcross", "loop.example/shorthand/impl.stepsUp"], plainKeys := false, apart := false, laid := [("loop.example/shorthand/impl.stepsAcross", laid_loop_example_shorthand_impl_stepsAcross), ("loop.example/shorthand/impl.stepsUp", laid_loop_example_shorthand_impl_stepsUp)], narrowed := true }
def FnOutlineTouchesUptoSaid : Prop := fnOutlineTouchesUptoRow.holds Tryd.pinned (OpenSpec.upto fnOutlineTouchesSpec)

/-- 'laws.FnOutlineTurn', WHERE WHAT IT READS IS OF BULK AT MOST 1048576: true; the input reads as it did. -/
def fnOutlineTurnUptoRow : OpenClaim := { program := "ytigemahbopligaadoor", sum := "ec8629a8b5b18d1656f84f25759e1500127ea053dd2a7ddf27652b6dd1aab0e4", func := "loop.example/shorthand/laws.FnOutlineTurn", spec := "fnOutlineTurn", unfollowed := true, recurses := true, named := ["loop.example/shorthand/impl.stepsAcross", "loop.example/shorthand/impl.stepsUp"], plainKeys := false, apart := false, laid := [("loop.example/shorthand/impl.stepsAcross", laid_loop_example_shorthand_impl_stepsAcross), ("loop.example/shorthand/impl.stepsUp", laid_loop_example_shorthand_impl_stepsUp)], narrowed := true }
def FnOutlineTurnUptoSaid : Prop := fnOutlineTurnUptoRow.holds Tryd.pinned (OpenSpec.upto fnOutlineTurnSpec)

/-- 'laws.FnOutlineEnd', WHERE WHAT IT READS IS OF BULK AT MOST 1048576: true; the input reads as it did. -/
def fnOutlineEndUptoRow : OpenClaim := { program := "ytigemahbopligaadoor", sum := "ec8629a8b5b18d1656f84f25759e1500127ea053dd2a7ddf27652b6dd1aab0e4", func := "loop.example/shorthand/laws.FnOutlineEnd", spec := "fnOutlineEnd", unfollowed := true, recurses := true, named := ["loop.example/shorthand/impl.stepsAcross", "loop.example/shorthand/impl.stepsUp"], plainKeys := false, apart := false, laid := [("loop.example/shorthand/impl.stepsAcross", laid_loop_example_shorthand_impl_stepsAcross), ("loop.example/shorthand/impl.stepsUp", laid_loop_example_shorthand_impl_stepsUp)], narrowed := true }
def FnOutlineEndUptoSaid : Prop := fnOutlineEndUptoRow.holds Tryd.pinned (OpenSpec.upto fnOutlineEndSpec)

/-- 'laws.FnOutlineMirror', WHERE WHAT IT READS IS OF BULK AT MOST 1048576: true; the input reads as it did. -/
def fnOutlineMirrorUptoRow : OpenClaim := { program := "ytigemahbopligaadoor", sum := "ec8629a8b5b18d1656f84f25759e1500127ea053dd2a7ddf27652b6dd1aab0e4", func := "loop.example/shorthand/laws.FnOutlineMirror", spec := "fnOutlineMirror", unfollowed := true, recurses := true, named := ["loop.example/shorthand/impl.stepsAcross", "loop.example/shorthand/impl.stepsUp"], plainKeys := false, apart := false, laid := [("loop.example/shorthand/impl.stepsAcross", laid_loop_example_shorthand_impl_stepsAcross), ("loop.example/shorthand/impl.stepsUp", laid_loop_example_shorthand_impl_stepsUp)], narrowed := true }
def FnOutlineMirrorUptoSaid : Prop := fnOutlineMirrorUptoRow.holds Tryd.pinned (OpenSpec.upto fnOutlineMirrorSpec)

/-- 'laws.FnOutlineBack', WHERE WHAT IT READS IS OF BULK AT MOST 1048576: true; the input reads as it did. -/
def fnOutlineBackUptoRow : OpenClaim := { program := "ytigemahbopligaadoor", sum := "ec8629a8b5b18d1656f84f25759e1500127ea053dd2a7ddf27652b6dd1aab0e4", func := "loop.example/shorthand/laws.FnOutlineBack", spec := "fnOutlineBack", unfollowed := true, recurses := true, named := ["loop.example/shorthand/impl.stepsAcross", "loop.example/shorthand/impl.stepsUp"], plainKeys := false, apart := false, laid := [("loop.example/shorthand/impl.stepsAcross", laid_loop_example_shorthand_impl_stepsAcross), ("loop.example/shorthand/impl.stepsUp", laid_loop_example_shorthand_impl_stepsUp)], narrowed := true }
def FnOutlineBackUptoSaid : Prop := fnOutlineBackUptoRow.holds Tryd.pinned (OpenSpec.upto fnOutlineBackSpec)

/-- 'laws.FnOutlineBox', WHERE WHAT IT READS IS OF BULK AT MOST 1048576: true; the input reads as it did. -/
def fnOutlineBoxUptoRow : OpenClaim := { program := "ytigemahbopligaadoor", sum := "ec8629a8b5b18d1656f84f25759e1500127ea053dd2a7ddf27652b6dd1aab0e4", func := "loop.example/shorthand/laws.FnOutlineBox", spec := "fnOutlineBox", unfollowed := true, recurses := true, named := ["loop.example/shorthand/impl.stepsAcross", "loop.example/shorthand/impl.stepsUp"], plainKeys := false, apart := false, laid := [("loop.example/shorthand/impl.stepsAcross", laid_loop_example_shorthand_impl_stepsAcross), ("loop.example/shorthand/impl.stepsUp", laid_loop_example_shorthand_impl_stepsUp)], narrowed := true }
def FnOutlineBoxUptoSaid : Prop := fnOutlineBoxUptoRow.holds Tryd.pinned (OpenSpec.upto fnOutlineBoxSpec)

end Rows
end Go.Proofs.YtigemahbopligaaDoor
