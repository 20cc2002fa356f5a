/-
  No cell of these rows narrows 'for every input' (looked for: loops, veiled, ifaces, maps, wideKeys, modest, calm, conditions, laid).
  DERIVED. THE GIVEN ROWS OF THIS SEAT. 10 by the template 'for every input the law returns true; each argument reads behind the call as it read before'; 0 by the template 'total and deterministic' (their statements: YtfjoininagdlcaaTotals.lean).
  GIVEN WITH THE SEED: the statements are not yours to turn. If you find one false, say at which input.
  Laid BY PROGRAM, IN A SANDBOX (cutbox-rows.mjs): the forced cells as the released guide's own fill.sh prints them over the translation c1f5577dcbbeef90… (all of the seat's roots in one cut). By AI agents, Wed Nov 11 2026. No macro, syntax, notation, axiom, sorry.
-/
import Derived.Test.YtfjoininagdlcaaChecked
import GoSem.Claim
import GoSem.ClaimJoined
import GoSem.ClaimMapViews
import Derived.JoinedTies
import Derived.KernelRfl
namespace Go.Proofs.Ytfjoininagdlcaa
/- THE CELL 'sum', in the pinned program and in every row, IS THE sha256 OF THE DUMP (.gsa) THAT YtfjoininagdlcaaProg.lean LOADS. Nothing in Lean hashes anything: it is a label: what it is worth is what the hold of that sum in a sandbox is worth. -/
noncomputable def Try.pinned : Pinned := { name := "ytfjoininagdlcaa", sum := "c1f5577dcbbeef90aaa805aaeb7c9ef478326807704aeb17a5657b5d590c51cb", checked := Try.checked }
namespace Rows
def none {H : Type} : Left H := { results := [], args := [] }

/-- 'laws.FnReadingsMany': WHATEVER THE INPUT: true; the input reads as it did. -/
def fnReadingsManySpec : ChangeSpec := { name := "fnReadingsMany", fn := fun _ => fun
  | [d1, d2] => { results := [.lit (.bool true)], args := [d1, d2] }
  | _ => none }
def fnReadingsManyRow : OpenClaim := { program := "ytfjoininagdlcaa", sum := "c1f5577dcbbeef90aaa805aaeb7c9ef478326807704aeb17a5657b5d590c51cb", func := "loop.example/shorthand/laws.FnReadingsMany", spec := "fnReadingsMany", unfollowed := true, recurses := true, apart := false }
def FnReadingsManySaid : Prop := fnReadingsManyRow.holds Try.pinned (OpenSpec.ofChange fnReadingsManySpec)

/-- ITS FALSE NEIGHBOUR: 'it returns false'. Refute it at one input. -/
def fnReadingsManyWrong : ChangeSpec := { name := "fnReadingsMany", fn := fun _ => fun
  | [d1, d2] => { results := [.lit (.bool false)], args := [d1, d2] }
  | _ => none }
def FnReadingsManyWrongFalsely : Prop := fnReadingsManyRow.holds Try.pinned (OpenSpec.ofChange fnReadingsManyWrong)

/-- 'laws.FnReadingWeight': WHATEVER THE INPUT: true; the input reads as it did. -/
def fnReadingWeightSpec : ChangeSpec := { name := "fnReadingWeight", fn := fun _ => fun
  | [d] => { results := [.lit (.bool true)], args := [d] }
  | _ => none }
def fnReadingWeightRow : OpenClaim := { program := "ytfjoininagdlcaa", sum := "c1f5577dcbbeef90aaa805aaeb7c9ef478326807704aeb17a5657b5d590c51cb", func := "loop.example/shorthand/laws.FnReadingWeight", spec := "fnReadingWeight", unfollowed := true, recurses := true, apart := false }
def FnReadingWeightSaid : Prop := fnReadingWeightRow.holds Try.pinned (OpenSpec.ofChange fnReadingWeightSpec)

/-- ITS FALSE NEIGHBOUR: 'it returns false'. Refute it at one input. -/
def fnReadingWeightWrong : ChangeSpec := { name := "fnReadingWeight", fn := fun _ => fun
  | [d] => { results := [.lit (.bool false)], args := [d] }
  | _ => none }
def FnReadingWeightWrongFalsely : Prop := fnReadingWeightRow.holds Try.pinned (OpenSpec.ofChange fnReadingWeightWrong)

/-- 'laws.FnReadingFirst': WHATEVER THE INPUT: true; the input reads as it did. -/
def fnReadingFirstSpec : ChangeSpec := { name := "fnReadingFirst", fn := fun _ => fun
  | [d] => { results := [.lit (.bool true)], args := [d] }
  | _ => none }
def fnReadingFirstRow : OpenClaim := { program := "ytfjoininagdlcaa", sum := "c1f5577dcbbeef90aaa805aaeb7c9ef478326807704aeb17a5657b5d590c51cb", func := "loop.example/shorthand/laws.FnReadingFirst", spec := "fnReadingFirst", unfollowed := true, recurses := true, apart := false }
def FnReadingFirstSaid : Prop := fnReadingFirstRow.holds Try.pinned (OpenSpec.ofChange fnReadingFirstSpec)

/-- ITS FALSE NEIGHBOUR: 'it returns false'. Refute it at one input. -/
def fnReadingFirstWrong : ChangeSpec := { name := "fnReadingFirst", fn := fun _ => fun
  | [d] => { results := [.lit (.bool false)], args := [d] }
  | _ => none }
def FnReadingFirstWrongFalsely : Prop := fnReadingFirstRow.holds Try.pinned (OpenSpec.ofChange fnReadingFirstWrong)

/-- 'laws.FnReadingBest': WHATEVER THE INPUT: true; the input reads as it did. -/
def fnReadingBestSpec : ChangeSpec := { name := "fnReadingBest", fn := fun _ => fun
  | [d1, d2] => { results := [.lit (.bool true)], args := [d1, d2] }
  | _ => none }
def fnReadingBestRow : OpenClaim := { program := "ytfjoininagdlcaa", sum := "c1f5577dcbbeef90aaa805aaeb7c9ef478326807704aeb17a5657b5d590c51cb", func := "loop.example/shorthand/laws.FnReadingBest", spec := "fnReadingBest", unfollowed := true, recurses := true, apart := false }
def FnReadingBestSaid : Prop := fnReadingBestRow.holds Try.pinned (OpenSpec.ofChange fnReadingBestSpec)

/-- ITS FALSE NEIGHBOUR: 'it returns false'. Refute it at one input. -/
def fnReadingBestWrong : ChangeSpec := { name := "fnReadingBest", fn := fun _ => fun
  | [d1, d2] => { results := [.lit (.bool false)], args := [d1, d2] }
  | _ => none }
def FnReadingBestWrongFalsely : Prop := fnReadingBestRow.holds Try.pinned (OpenSpec.ofChange fnReadingBestWrong)

/-- 'laws.FnReadingsRank': WHATEVER THE INPUT: true; the input reads as it did. -/
def fnReadingsRankSpec : ChangeSpec := { name := "fnReadingsRank", fn := fun _ => fun
  | [d] => { results := [.lit (.bool true)], args := [d] }
  | _ => none }
def fnReadingsRankRow : OpenClaim := { program := "ytfjoininagdlcaa", sum := "c1f5577dcbbeef90aaa805aaeb7c9ef478326807704aeb17a5657b5d590c51cb", func := "loop.example/shorthand/laws.FnReadingsRank", spec := "fnReadingsRank", unfollowed := true, recurses := true, apart := false }
def FnReadingsRankSaid : Prop := fnReadingsRankRow.holds Try.pinned (OpenSpec.ofChange fnReadingsRankSpec)

/-- ITS FALSE NEIGHBOUR: 'it returns false'. Refute it at one input. -/
def fnReadingsRankWrong : ChangeSpec := { name := "fnReadingsRank", fn := fun _ => fun
  | [d] => { results := [.lit (.bool false)], args := [d] }
  | _ => none }
def FnReadingsRankWrongFalsely : Prop := fnReadingsRankRow.holds Try.pinned (OpenSpec.ofChange fnReadingsRankWrong)

/-- 'laws.FnPageSeen': WHATEVER THE INPUT: true; the input reads as it did. -/
def fnPageSeenSpec : ChangeSpec := { name := "fnPageSeen", fn := fun _ => fun
  | [d] => { results := [.lit (.bool true)], args := [d] }
  | _ => none }
def fnPageSeenRow : OpenClaim := { program := "ytfjoininagdlcaa", sum := "c1f5577dcbbeef90aaa805aaeb7c9ef478326807704aeb17a5657b5d590c51cb", func := "loop.example/shorthand/laws.FnPageSeen", spec := "fnPageSeen", unfollowed := true, recurses := true, apart := false }
def FnPageSeenSaid : Prop := fnPageSeenRow.holds Try.pinned (OpenSpec.ofChange fnPageSeenSpec)

/-- ITS FALSE NEIGHBOUR: 'it returns false'. Refute it at one input. -/
def fnPageSeenWrong : ChangeSpec := { name := "fnPageSeen", fn := fun _ => fun
  | [d] => { results := [.lit (.bool false)], args := [d] }
  | _ => none }
def FnPageSeenWrongFalsely : Prop := fnPageSeenRow.holds Try.pinned (OpenSpec.ofChange fnPageSeenWrong)

/-- 'laws.FnPageSure': WHATEVER THE INPUT: true; the input reads as it did. -/
def fnPageSureSpec : ChangeSpec := { name := "fnPageSure", fn := fun _ => fun
  | [d] => { results := [.lit (.bool true)], args := [d] }
  | _ => none }
def fnPageSureRow : OpenClaim := { program := "ytfjoininagdlcaa", sum := "c1f5577dcbbeef90aaa805aaeb7c9ef478326807704aeb17a5657b5d590c51cb", func := "loop.example/shorthand/laws.FnPageSure", spec := "fnPageSure", unfollowed := true, recurses := true, apart := false }
def FnPageSureSaid : Prop := fnPageSureRow.holds Try.pinned (OpenSpec.ofChange fnPageSureSpec)

/-- ITS FALSE NEIGHBOUR: 'it returns false'. Refute it at one input. -/
def fnPageSureWrong : ChangeSpec := { name := "fnPageSure", fn := fun _ => fun
  | [d] => { results := [.lit (.bool false)], args := [d] }
  | _ => none }
def FnPageSureWrongFalsely : Prop := fnPageSureRow.holds Try.pinned (OpenSpec.ofChange fnPageSureWrong)

/-- 'laws.FnModelStates': WHATEVER THE INPUT: true; the input reads as it did. -/
def fnModelStatesSpec : ChangeSpec := { name := "fnModelStates", fn := fun _ => fun
  | [d] => { results := [.lit (.bool true)], args := [d] }
  | _ => none }
def fnModelStatesRow : OpenClaim := { program := "ytfjoininagdlcaa", sum := "c1f5577dcbbeef90aaa805aaeb7c9ef478326807704aeb17a5657b5d590c51cb", func := "loop.example/shorthand/laws.FnModelStates", spec := "fnModelStates", unfollowed := true, recurses := true, apart := false }
def FnModelStatesSaid : Prop := fnModelStatesRow.holds Try.pinned (OpenSpec.ofChange fnModelStatesSpec)

/-- ITS FALSE NEIGHBOUR: 'it returns false'. Refute it at one input. -/
def fnModelStatesWrong : ChangeSpec := { name := "fnModelStates", fn := fun _ => fun
  | [d] => { results := [.lit (.bool false)], args := [d] }
  | _ => none }
def FnModelStatesWrongFalsely : Prop := fnModelStatesRow.holds Try.pinned (OpenSpec.ofChange fnModelStatesWrong)

/-- 'laws.FnPageJoin': WHATEVER THE INPUT: true; the input reads as it did. -/
def fnPageJoinSpec : ChangeSpec := { name := "fnPageJoin", fn := fun _ => fun
  | [d] => { results := [.lit (.bool true)], args := [d] }
  | _ => none }
def fnPageJoinRow : OpenClaim := { program := "ytfjoininagdlcaa", sum := "c1f5577dcbbeef90aaa805aaeb7c9ef478326807704aeb17a5657b5d590c51cb", func := "loop.example/shorthand/laws.FnPageJoin", spec := "fnPageJoin", unfollowed := true, recurses := true, apart := false }
def FnPageJoinSaid : Prop := fnPageJoinRow.holds Try.pinned (OpenSpec.ofChange fnPageJoinSpec)

/-- ITS FALSE NEIGHBOUR: 'it returns false'. Refute it at one input. -/
def fnPageJoinWrong : ChangeSpec := { name := "fnPageJoin", fn := fun _ => fun
  | [d] => { results := [.lit (.bool false)], args := [d] }
  | _ => none }
def FnPageJoinWrongFalsely : Prop := fnPageJoinRow.holds Try.pinned (OpenSpec.ofChange fnPageJoinWrong)

/-- 'laws.FnModelTurn': WHATEVER THE INPUT: true; the input reads as it did. -/
def fnModelTurnSpec : ChangeSpec := { name := "fnModelTurn", fn := fun _ => fun
  | [d1, d2] => { results := [.lit (.bool true)], args := [d1, d2] }
  | _ => none }
def fnModelTurnRow : OpenClaim := { program := "ytfjoininagdlcaa", sum := "c1f5577dcbbeef90aaa805aaeb7c9ef478326807704aeb17a5657b5d590c51cb", func := "loop.example/shorthand/laws.FnModelTurn", spec := "fnModelTurn", unfollowed := true, recurses := true, apart := false }
def FnModelTurnSaid : Prop := fnModelTurnRow.holds Try.pinned (OpenSpec.ofChange fnModelTurnSpec)

/-- ITS FALSE NEIGHBOUR: 'it returns false'. Refute it at one input. -/
def fnModelTurnWrong : ChangeSpec := { name := "fnModelTurn", fn := fun _ => fun
  | [d1, d2] => { results := [.lit (.bool false)], args := [d1, d2] }
  | _ => none }
def FnModelTurnWrongFalsely : Prop := fnModelTurnRow.holds Try.pinned (OpenSpec.ofChange fnModelTurnWrong)

/- THE SECOND FORM. 'bulk': how many values and letters a reading holds, each counted each time it is reached (what is shared counts as often as it is met; a slice's spare places count too). A statement '..UptoSaid' is the law's where the arguments, and the package variables that the reading takes, are together of bulk at most 1048576: NARROWER than '..Said'. Prove '..Said' where nothing that the law and all that it calls make is longer than what came in: it says more and counts as full. Else prove '..UptoSaid'. A law counts once. -/
mutual
def uptoBulk {H : Type} : DataW H → Nat
  | .lit (.string bytes) => bytes.length + 1
  | .lit _ => 1
  | .nil => 1
  | .ptr d => uptoBulk d + 1
  | .slice elems spare => uptoBulkAll elems + uptoBulkAll spare + 1
  | .agg parts => uptoBulkAll parts + 1
  | .iface _ d => uptoBulk d + 1
  | .map entries => uptoBulkEntries entries + 1
  | .held _ => 1
def uptoBulkAll {H : Type} : List (DataW H) → Nat
  | [] => 0
  | d :: r => uptoBulk d + uptoBulkAll r
def uptoBulkEntries {H : Type} : List (Lit × DataW H) → Nat
  | [] => 0
  | x :: r => uptoBulkEntry x + uptoBulkEntries r
def uptoBulkEntry {H : Type} : Lit × DataW H → Nat
  | (.string bytes, d) => bytes.length + uptoBulk d + 1
  | (_, d) => uptoBulk d + 1
 end
def uptoSmall : (H : Type) → List (DataW H) → Bool := fun _ ds => decide (uptoBulkAll ds ≤ 1048576)
def OpenSpec.upto (s : _root_.Go.ChangeSpec) : _root_.Go.OpenSpec := { _root_.Go.OpenSpec.ofChange s with cond := some uptoSmall }

/-- 'laws.FnReadingsMany', WHERE WHAT IT READS IS OF BULK AT MOST 1048576: true; the input reads as it did. -/
def fnReadingsManyUptoRow : OpenClaim := { program := "ytfjoininagdlcaa", sum := "c1f5577dcbbeef90aaa805aaeb7c9ef478326807704aeb17a5657b5d590c51cb", func := "loop.example/shorthand/laws.FnReadingsMany", spec := "fnReadingsMany", unfollowed := true, recurses := true, apart := false, narrowed := true }
def FnReadingsManyUptoSaid : Prop := fnReadingsManyUptoRow.holds Try.pinned (OpenSpec.upto fnReadingsManySpec)

/-- 'laws.FnReadingWeight', WHERE WHAT IT READS IS OF BULK AT MOST 1048576: true; the input reads as it did. -/
def fnReadingWeightUptoRow : OpenClaim := { program := "ytfjoininagdlcaa", sum := "c1f5577dcbbeef90aaa805aaeb7c9ef478326807704aeb17a5657b5d590c51cb", func := "loop.example/shorthand/laws.FnReadingWeight", spec := "fnReadingWeight", unfollowed := true, recurses := true, apart := false, narrowed := true }
def FnReadingWeightUptoSaid : Prop := fnReadingWeightUptoRow.holds Try.pinned (OpenSpec.upto fnReadingWeightSpec)

/-- 'laws.FnReadingFirst', WHERE WHAT IT READS IS OF BULK AT MOST 1048576: true; the input reads as it did. -/
def fnReadingFirstUptoRow : OpenClaim := { program := "ytfjoininagdlcaa", sum := "c1f5577dcbbeef90aaa805aaeb7c9ef478326807704aeb17a5657b5d590c51cb", func := "loop.example/shorthand/laws.FnReadingFirst", spec := "fnReadingFirst", unfollowed := true, recurses := true, apart := false, narrowed := true }
def FnReadingFirstUptoSaid : Prop := fnReadingFirstUptoRow.holds Try.pinned (OpenSpec.upto fnReadingFirstSpec)

/-- 'laws.FnReadingBest', WHERE WHAT IT READS IS OF BULK AT MOST 1048576: true; the input reads as it did. -/
def fnReadingBestUptoRow : OpenClaim := { program := "ytfjoininagdlcaa", sum := "c1f5577dcbbeef90aaa805aaeb7c9ef478326807704aeb17a5657b5d590c51cb", func := "loop.example/shorthand/laws.FnReadingBest", spec := "fnReadingBest", unfollowed := true, recurses := true, apart := false, narrowed := true }
def FnReadingBestUptoSaid : Prop := fnReadingBestUptoRow.holds Try.pinned (OpenSpec.upto fnReadingBestSpec)

/-- 'laws.FnReadingsRank', WHERE WHAT IT READS IS OF BULK AT MOST 1048576: true; the input reads as it did. -/
def fnReadingsRankUptoRow : OpenClaim := { program := "ytfjoininagdlcaa", sum := "c1f5577dcbbeef90aaa805aaeb7c9ef478326807704aeb17a5657b5d590c51cb", func := "loop.example/shorthand/laws.FnReadingsRank", spec := "fnReadingsRank", unfollowed := true, recurses := true, apart := false, narrowed := true }
def FnReadingsRankUptoSaid : Prop := fnReadingsRankUptoRow.holds Try.pinned (OpenSpec.upto fnReadingsRankSpec)

/-- 'laws.FnPageSeen', WHERE WHAT IT READS IS OF BULK AT MOST 1048576: true; the input reads as it did. -/
def fnPageSeenUptoRow : OpenClaim := { program := "ytfjoininagdlcaa", sum := "c1f5577dcbbeef90aaa805aaeb7c9ef478326807704aeb17a5657b5d590c51cb", func := "loop.example/shorthand/laws.FnPageSeen", spec := "fnPageSeen", unfollowed := true, recurses := true, apart := false, narrowed := true }
def FnPageSeenUptoSaid : Prop := fnPageSeenUptoRow.holds Try.pinned (OpenSpec.upto fnPageSeenSpec)

/-- 'laws.FnPageSure', WHERE WHAT IT READS IS OF BULK AT MOST 1048576: true; the input reads as it did. -/
def fnPageSureUptoRow : OpenClaim := { program := "ytfjoininagdlcaa", sum := "c1f5577dcbbeef90aaa805aaeb7c9ef478326807704aeb17a5657b5d590c51cb", func := "loop.example/shorthand/laws.FnPageSure", spec := "fnPageSure", unfollowed := true, recurses := true, apart := false, narrowed := true }
def FnPageSureUptoSaid : Prop := fnPageSureUptoRow.holds Try.pinned (OpenSpec.upto fnPageSureSpec)

/-- 'laws.FnModelStates', WHERE WHAT IT READS IS OF BULK AT MOST 1048576: true; the input reads as it did. -/
def fnModelStatesUptoRow : OpenClaim := { program := "ytfjoininagdlcaa", sum := "c1f5577dcbbeef90aaa805aaeb7c9ef478326807704aeb17a5657b5d590c51cb", func := "loop.example/shorthand/laws.FnModelStates", spec := "fnModelStates", unfollowed := true, recurses := true, apart := false, narrowed := true }
def FnModelStatesUptoSaid : Prop := fnModelStatesUptoRow.holds Try.pinned (OpenSpec.upto fnModelStatesSpec)

/-- 'laws.FnPageJoin', WHERE WHAT IT READS IS OF BULK AT MOST 1048576: true; the input reads as it did. -/
def fnPageJoinUptoRow : OpenClaim := { program := "ytfjoininagdlcaa", sum := "c1f5577dcbbeef90aaa805aaeb7c9ef478326807704aeb17a5657b5d590c51cb", func := "loop.example/shorthand/laws.FnPageJoin", spec := "fnPageJoin", unfollowed := true, recurses := true, apart := false, narrowed := true }
def FnPageJoinUptoSaid : Prop := fnPageJoinUptoRow.holds Try.pinned (OpenSpec.upto fnPageJoinSpec)

/-- 'laws.FnModelTurn', WHERE WHAT IT READS IS OF BULK AT MOST 1048576: true; the input reads as it did. -/
def fnModelTurnUptoRow : OpenClaim := { program := "ytfjoininagdlcaa", sum := "c1f5577dcbbeef90aaa805aaeb7c9ef478326807704aeb17a5657b5d590c51cb", func := "loop.example/shorthand/laws.FnModelTurn", spec := "fnModelTurn", unfollowed := true, recurses := true, apart := false, narrowed := true }
def FnModelTurnUptoSaid : Prop := fnModelTurnUptoRow.holds Try.pinned (OpenSpec.upto fnModelTurnSpec)

end Rows
end Go.Proofs.Ytfjoininagdlcaa
