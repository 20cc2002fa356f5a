/-
  No cell of these rows narrows 'for every input' (looked for: loops, veiled, ifaces, maps, wideKeys, modest, calm, conditions, laid).
  DERIVED. THE GIVEN ROWS OF THIS SEAT. 5 by the template 'for every input the law returns true; each argument reads behind the call as it read before'; 0 by the template 'total and deterministic' (their statements: YteccacnojmilcaaTotals.lean).
  GIVEN WITH THE SEED: the statements are not yours to turn. If you find one false, say at which input.
  Laid BY PROGRAM, IN A SANDBOX (cutbox-rows.mjs): the forced cells as the released guide's own fill.sh prints them over the translation a170425b07b0321b… (all of the seat's roots in one cut). By AI agents, Wed Nov 11 2026. No macro, syntax, notation, axiom, sorry.
-/
import Derived.Test.YteccacnojmilcaaChecked
import GoSem.Claim
import GoSem.ClaimJoined
import GoSem.ClaimMapViews
import Derived.JoinedTies
import Derived.KernelRfl
namespace Go.Proofs.Yteccacnojmilcaa
/- THE CELL 'sum', in the pinned program and in every row, IS THE sha256 OF THE DUMP (.gsa) THAT YteccacnojmilcaaProg.lean LOADS. Nothing in Lean hashes anything: it is a label: what it is worth is what the hold of that sum in a sandbox is worth. -/
noncomputable def Try.pinned : Pinned := { name := "yteccacnojmilcaa", sum := "a170425b07b0321be1b2fdd8415ab723345343439669e8da1df718d9f0478352", checked := Try.checked }
namespace Rows
def none {H : Type} : Left H := { results := [], args := [] }

/-- 'laws.FnExactPageJoin': WHATEVER THE INPUT: true; the input reads as it did. -/
def fnExactPageJoinSpec : ChangeSpec := { name := "fnExactPageJoin", fn := fun _ => fun
  | [d1, d2, d3] => { results := [.lit (.bool true)], args := [d1, d2, d3] }
  | _ => none }
def fnExactPageJoinRow : OpenClaim := { program := "yteccacnojmilcaa", sum := "a170425b07b0321be1b2fdd8415ab723345343439669e8da1df718d9f0478352", func := "loop.example/shorthand/laws.FnExactPageJoin", spec := "fnExactPageJoin", apart := false }
def FnExactPageJoinSaid : Prop := fnExactPageJoinRow.holds Try.pinned (OpenSpec.ofChange fnExactPageJoinSpec)

/-- ITS FALSE NEIGHBOUR: 'it returns false'. Refute it at one input. -/
def fnExactPageJoinWrong : ChangeSpec := { name := "fnExactPageJoin", fn := fun _ => fun
  | [d1, d2, d3] => { results := [.lit (.bool false)], args := [d1, d2, d3] }
  | _ => none }
def FnExactPageJoinWrongFalsely : Prop := fnExactPageJoinRow.holds Try.pinned (OpenSpec.ofChange fnExactPageJoinWrong)

/-- 'laws.FnPageForce': WHATEVER THE INPUT: true; the input reads as it did. -/
def fnPageForceSpec : ChangeSpec := { name := "fnPageForce", fn := fun _ => fun
  | [d] => { results := [.lit (.bool true)], args := [d] }
  | _ => none }
def fnPageForceRow : OpenClaim := { program := "yteccacnojmilcaa", sum := "a170425b07b0321be1b2fdd8415ab723345343439669e8da1df718d9f0478352", func := "loop.example/shorthand/laws.FnPageForce", spec := "fnPageForce", apart := false }
def FnPageForceSaid : Prop := fnPageForceRow.holds Try.pinned (OpenSpec.ofChange fnPageForceSpec)

/-- ITS FALSE NEIGHBOUR: 'it returns false'. Refute it at one input. -/
def fnPageForceWrong : ChangeSpec := { name := "fnPageForce", fn := fun _ => fun
  | [d] => { results := [.lit (.bool false)], args := [d] }
  | _ => none }
def FnPageForceWrongFalsely : Prop := fnPageForceRow.holds Try.pinned (OpenSpec.ofChange fnPageForceWrong)

/-- 'laws.FnExactPageForce': WHATEVER THE INPUT: true; the input reads as it did. -/
def fnExactPageForceSpec : ChangeSpec := { name := "fnExactPageForce", fn := fun _ => fun
  | [d1, d2, d3, d4] => { results := [.lit (.bool true)], args := [d1, d2, d3, d4] }
  | _ => none }
def fnExactPageForceRow : OpenClaim := { program := "yteccacnojmilcaa", sum := "a170425b07b0321be1b2fdd8415ab723345343439669e8da1df718d9f0478352", func := "loop.example/shorthand/laws.FnExactPageForce", spec := "fnExactPageForce", apart := false }
def FnExactPageForceSaid : Prop := fnExactPageForceRow.holds Try.pinned (OpenSpec.ofChange fnExactPageForceSpec)

/-- ITS FALSE NEIGHBOUR: 'it returns false'. Refute it at one input. -/
def fnExactPageForceWrong : ChangeSpec := { name := "fnExactPageForce", fn := fun _ => fun
  | [d1, d2, d3, d4] => { results := [.lit (.bool false)], args := [d1, d2, d3, d4] }
  | _ => none }
def FnExactPageForceWrongFalsely : Prop := fnExactPageForceRow.holds Try.pinned (OpenSpec.ofChange fnExactPageForceWrong)

/-- 'laws.FnExactModelTurn': WHATEVER THE INPUT: true; the input reads as it did. -/
def fnExactModelTurnSpec : ChangeSpec := { name := "fnExactModelTurn", fn := fun _ => fun
  | [d1, d2, d3] => { results := [.lit (.bool true)], args := [d1, d2, d3] }
  | _ => none }
def fnExactModelTurnRow : OpenClaim := { program := "yteccacnojmilcaa", sum := "a170425b07b0321be1b2fdd8415ab723345343439669e8da1df718d9f0478352", func := "loop.example/shorthand/laws.FnExactModelTurn", spec := "fnExactModelTurn", unfollowed := true, recurses := true, apart := false }
def FnExactModelTurnSaid : Prop := fnExactModelTurnRow.holds Try.pinned (OpenSpec.ofChange fnExactModelTurnSpec)

/-- ITS FALSE NEIGHBOUR: 'it returns false'. Refute it at one input. -/
def fnExactModelTurnWrong : ChangeSpec := { name := "fnExactModelTurn", fn := fun _ => fun
  | [d1, d2, d3] => { results := [.lit (.bool false)], args := [d1, d2, d3] }
  | _ => none }
def FnExactModelTurnWrongFalsely : Prop := fnExactModelTurnRow.holds Try.pinned (OpenSpec.ofChange fnExactModelTurnWrong)

/-- 'laws.FnExactReadingWeight': WHATEVER THE INPUT: true; the input reads as it did. -/
def fnExactReadingWeightSpec : ChangeSpec := { name := "fnExactReadingWeight", fn := fun _ => fun
  | [d1, d2, d3] => { results := [.lit (.bool true)], args := [d1, d2, d3] }
  | _ => none }
def fnExactReadingWeightRow : OpenClaim := { program := "yteccacnojmilcaa", sum := "a170425b07b0321be1b2fdd8415ab723345343439669e8da1df718d9f0478352", func := "loop.example/shorthand/laws.FnExactReadingWeight", spec := "fnExactReadingWeight", unfollowed := true, recurses := true, apart := false }
def FnExactReadingWeightSaid : Prop := fnExactReadingWeightRow.holds Try.pinned (OpenSpec.ofChange fnExactReadingWeightSpec)

/-- ITS FALSE NEIGHBOUR: 'it returns false'. Refute it at one input. -/
def fnExactReadingWeightWrong : ChangeSpec := { name := "fnExactReadingWeight", fn := fun _ => fun
  | [d1, d2, d3] => { results := [.lit (.bool false)], args := [d1, d2, d3] }
  | _ => none }
def FnExactReadingWeightWrongFalsely : Prop := fnExactReadingWeightRow.holds Try.pinned (OpenSpec.ofChange fnExactReadingWeightWrong)

/- THE SECOND FORM. 'bulk': how many values and letters a reading holds, each counted each time it is reached (what is shared counts as often as it is met; a slice's spare places count too). A statement '..UptoSaid' is the law's where the arguments, and the package variables that the reading takes, are together of bulk at most 1048576: NARROWER than '..Said'. Prove '..Said' where nothing that the law and all that it calls make is longer than what came in: it says more and counts as full. Else prove '..UptoSaid'. A law counts once. -/
mutual
def uptoBulk {H : Type} : DataW H → Nat
  | .lit (.string bytes) => bytes.length + 1
  | .lit _ => 1
  | .nil => 1
  | .ptr d => uptoBulk d + 1
  | .slice elems spare => uptoBulkAll elems + uptoBulkAll spare + 1
  | .agg parts => uptoBulkAll parts + 1
  | .iface _ d => uptoBulk d + 1
  | .map entries => uptoBulkEntries entries + 1
  | .held _ => 1
def uptoBulkAll {H : Type} : List (DataW H) → Nat
  | [] => 0
  | d :: r => uptoBulk d + uptoBulkAll r
def uptoBulkEntries {H : Type} : List (Lit × DataW H) → Nat
  | [] => 0
  | x :: r => uptoBulkEntry x + uptoBulkEntries r
def uptoBulkEntry {H : Type} : Lit × DataW H → Nat
  | (.string bytes, d) => bytes.length + uptoBulk d + 1
  | (_, d) => uptoBulk d + 1
 end
def uptoSmall : (H : Type) → List (DataW H) → Bool := fun _ ds => decide (uptoBulkAll ds ≤ 1048576)
def OpenSpec.upto (s : _root_.Go.ChangeSpec) : _root_.Go.OpenSpec := { _root_.Go.OpenSpec.ofChange s with cond := some uptoSmall }

/-- 'laws.FnExactPageJoin', WHERE WHAT IT READS IS OF BULK AT MOST 1048576: true; the input reads as it did. -/
def fnExactPageJoinUptoRow : OpenClaim := { program := "yteccacnojmilcaa", sum := "a170425b07b0321be1b2fdd8415ab723345343439669e8da1df718d9f0478352", func := "loop.example/shorthand/laws.FnExactPageJoin", spec := "fnExactPageJoin", apart := false, narrowed := true }
def FnExactPageJoinUptoSaid : Prop := fnExactPageJoinUptoRow.holds Try.pinned (OpenSpec.upto fnExactPageJoinSpec)

/-- 'laws.FnPageForce', WHERE WHAT IT READS IS OF BULK AT MOST 1048576: true; the input reads as it did. -/
def fnPageForceUptoRow : OpenClaim := { program := "yteccacnojmilcaa", sum := "a170425b07b0321be1b2fdd8415ab723345343439669e8da1df718d9f0478352", func := "loop.example/shorthand/laws.FnPageForce", spec := "fnPageForce", apart := false, narrowed := true }
def FnPageForceUptoSaid : Prop := fnPageForceUptoRow.holds Try.pinned (OpenSpec.upto fnPageForceSpec)

/-- 'laws.FnExactPageForce', WHERE WHAT IT READS IS OF BULK AT MOST 1048576: true; the input reads as it did. -/
def fnExactPageForceUptoRow : OpenClaim := { program := "yteccacnojmilcaa", sum := "a170425b07b0321be1b2fdd8415ab723345343439669e8da1df718d9f0478352", func := "loop.example/shorthand/laws.FnExactPageForce", spec := "fnExactPageForce", apart := false, narrowed := true }
def FnExactPageForceUptoSaid : Prop := fnExactPageForceUptoRow.holds Try.pinned (OpenSpec.upto fnExactPageForceSpec)

/-- 'laws.FnExactModelTurn', WHERE WHAT IT READS IS OF BULK AT MOST 1048576: true; the input reads as it did. -/
def fnExactModelTurnUptoRow : OpenClaim := { program := "yteccacnojmilcaa", sum := "a170425b07b0321be1b2fdd8415ab723345343439669e8da1df718d9f0478352", func := "loop.example/shorthand/laws.FnExactModelTurn", spec := "fnExactModelTurn", unfollowed := true, recurses := true, apart := false, narrowed := true }
def FnExactModelTurnUptoSaid : Prop := fnExactModelTurnUptoRow.holds Try.pinned (OpenSpec.upto fnExactModelTurnSpec)

/-- 'laws.FnExactReadingWeight', WHERE WHAT IT READS IS OF BULK AT MOST 1048576: true; the input reads as it did. -/
def fnExactReadingWeightUptoRow : OpenClaim := { program := "yteccacnojmilcaa", sum := "a170425b07b0321be1b2fdd8415ab723345343439669e8da1df718d9f0478352", func := "loop.example/shorthand/laws.FnExactReadingWeight", spec := "fnExactReadingWeight", unfollowed := true, recurses := true, apart := false, narrowed := true }
def FnExactReadingWeightUptoSaid : Prop := fnExactReadingWeightUptoRow.holds Try.pinned (OpenSpec.upto fnExactReadingWeightSpec)

end Rows
end Go.Proofs.Yteccacnojmilcaa
