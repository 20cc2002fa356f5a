/-
  No cell of these rows narrows 'for every input' (looked for: loops, veiled, ifaces, maps, wideKeys, modest, calm, conditions, laid).
  DERIVED. THE GIVEN ROWS OF THIS SEAT. 7 by the template 'for every input the law returns true; each argument reads behind the call as it read before'; 0 by the template 'total and deterministic' (their statements: YtoincfpffioioaaTotals.lean).
  GIVEN WITH THE SEED: the statements are not yours to turn. If you find one false, say at which input.
  Laid BY PROGRAM, IN A SANDBOX (cutbox-rows.mjs): the forced cells as the released guide's own fill.sh prints them over the translation 4aab9739507d255b… (all of the seat's roots in one cut). By AI agents, Wed Nov 11 2026. No macro, syntax, notation, axiom, sorry.
-/
import Derived.Test.YtoincfpffioioaaChecked
import GoSem.Claim
import GoSem.ClaimJoined
import GoSem.ClaimMapViews
import Derived.JoinedTies
import Derived.KernelRfl
namespace Go.Proofs.Ytoincfpffioioaa
/- THE CELL 'sum', in the pinned program and in every row, IS THE sha256 OF THE DUMP (.gsa) THAT YtoincfpffioioaaProg.lean LOADS. Nothing in Lean hashes anything: it is a label: what it is worth is what the hold of that sum in a sandbox is worth. -/
noncomputable def Try.pinned : Pinned := { name := "ytoincfpffioioaa", sum := "4aab9739507d255b5d3188c1e164b76624a42947835efc2f8f17cef1149a6a28", checked := Try.checked }
namespace Rows
def none {H : Type} : Left H := { results := [], args := [] }

/-- 'laws.FnExactReadingsMany': WHATEVER THE INPUT: true; the input reads as it did. -/
def fnExactReadingsManySpec : ChangeSpec := { name := "fnExactReadingsMany", fn := fun _ => fun
  | [d1, d2] => { results := [.lit (.bool true)], args := [d1, d2] }
  | _ => none }
def fnExactReadingsManyRow : OpenClaim := { program := "ytoincfpffioioaa", sum := "4aab9739507d255b5d3188c1e164b76624a42947835efc2f8f17cef1149a6a28", func := "loop.example/shorthand/laws.FnExactReadingsMany", spec := "fnExactReadingsMany", unfollowed := true, recurses := true, apart := false }
def FnExactReadingsManySaid : Prop := fnExactReadingsManyRow.holds Try.pinned (OpenSpec.ofChange fnExactReadingsManySpec)

/-- ITS FALSE NEIGHBOUR: 'it returns false'. Refute it at one input. -/
def fnExactReadingsManyWrong : ChangeSpec := { name := "fnExactReadingsMany", fn := fun _ => fun
  | [d1, d2] => { results := [.lit (.bool false)], args := [d1, d2] }
  | _ => none }
def FnExactReadingsManyWrongFalsely : Prop := fnExactReadingsManyRow.holds Try.pinned (OpenSpec.ofChange fnExactReadingsManyWrong)

/-- 'laws.FnExactReadingFirst': WHATEVER THE INPUT: true; the input reads as it did. -/
def fnExactReadingFirstSpec : ChangeSpec := { name := "fnExactReadingFirst", fn := fun _ => fun
  | [d1, d2] => { results := [.lit (.bool true)], args := [d1, d2] }
  | _ => none }
def fnExactReadingFirstRow : OpenClaim := { program := "ytoincfpffioioaa", sum := "4aab9739507d255b5d3188c1e164b76624a42947835efc2f8f17cef1149a6a28", func := "loop.example/shorthand/laws.FnExactReadingFirst", spec := "fnExactReadingFirst", unfollowed := true, recurses := true, apart := false }
def FnExactReadingFirstSaid : Prop := fnExactReadingFirstRow.holds Try.pinned (OpenSpec.ofChange fnExactReadingFirstSpec)

/-- ITS FALSE NEIGHBOUR: 'it returns false'. Refute it at one input. -/
def fnExactReadingFirstWrong : ChangeSpec := { name := "fnExactReadingFirst", fn := fun _ => fun
  | [d1, d2] => { results := [.lit (.bool false)], args := [d1, d2] }
  | _ => none }
def FnExactReadingFirstWrongFalsely : Prop := fnExactReadingFirstRow.holds Try.pinned (OpenSpec.ofChange fnExactReadingFirstWrong)

/-- 'laws.FnExactReadingsRank': WHATEVER THE INPUT: true; the input reads as it did. -/
def fnExactReadingsRankSpec : ChangeSpec := { name := "fnExactReadingsRank", fn := fun _ => fun
  | [d1, d2, d3] => { results := [.lit (.bool true)], args := [d1, d2, d3] }
  | _ => none }
def fnExactReadingsRankRow : OpenClaim := { program := "ytoincfpffioioaa", sum := "4aab9739507d255b5d3188c1e164b76624a42947835efc2f8f17cef1149a6a28", func := "loop.example/shorthand/laws.FnExactReadingsRank", spec := "fnExactReadingsRank", unfollowed := true, recurses := true, apart := false }
def FnExactReadingsRankSaid : Prop := fnExactReadingsRankRow.holds Try.pinned (OpenSpec.ofChange fnExactReadingsRankSpec)

/-- ITS FALSE NEIGHBOUR: 'it returns false'. Refute it at one input. -/
def fnExactReadingsRankWrong : ChangeSpec := { name := "fnExactReadingsRank", fn := fun _ => fun
  | [d1, d2, d3] => { results := [.lit (.bool false)], args := [d1, d2, d3] }
  | _ => none }
def FnExactReadingsRankWrongFalsely : Prop := fnExactReadingsRankRow.holds Try.pinned (OpenSpec.ofChange fnExactReadingsRankWrong)

/-- 'laws.FnExactReadingBest': WHATEVER THE INPUT: true; the input reads as it did. -/
def fnExactReadingBestSpec : ChangeSpec := { name := "fnExactReadingBest", fn := fun _ => fun
  | [d1, d2] => { results := [.lit (.bool true)], args := [d1, d2] }
  | _ => none }
def fnExactReadingBestRow : OpenClaim := { program := "ytoincfpffioioaa", sum := "4aab9739507d255b5d3188c1e164b76624a42947835efc2f8f17cef1149a6a28", func := "loop.example/shorthand/laws.FnExactReadingBest", spec := "fnExactReadingBest", unfollowed := true, recurses := true, apart := false }
def FnExactReadingBestSaid : Prop := fnExactReadingBestRow.holds Try.pinned (OpenSpec.ofChange fnExactReadingBestSpec)

/-- ITS FALSE NEIGHBOUR: 'it returns false'. Refute it at one input. -/
def fnExactReadingBestWrong : ChangeSpec := { name := "fnExactReadingBest", fn := fun _ => fun
  | [d1, d2] => { results := [.lit (.bool false)], args := [d1, d2] }
  | _ => none }
def FnExactReadingBestWrongFalsely : Prop := fnExactReadingBestRow.holds Try.pinned (OpenSpec.ofChange fnExactReadingBestWrong)

/-- 'laws.FnExactPageSeen': WHATEVER THE INPUT: true; the input reads as it did. -/
def fnExactPageSeenSpec : ChangeSpec := { name := "fnExactPageSeen", fn := fun _ => fun
  | [d1, d2] => { results := [.lit (.bool true)], args := [d1, d2] }
  | _ => none }
def fnExactPageSeenRow : OpenClaim := { program := "ytoincfpffioioaa", sum := "4aab9739507d255b5d3188c1e164b76624a42947835efc2f8f17cef1149a6a28", func := "loop.example/shorthand/laws.FnExactPageSeen", spec := "fnExactPageSeen", unfollowed := true, recurses := true, apart := false }
def FnExactPageSeenSaid : Prop := fnExactPageSeenRow.holds Try.pinned (OpenSpec.ofChange fnExactPageSeenSpec)

/-- ITS FALSE NEIGHBOUR: 'it returns false'. Refute it at one input. -/
def fnExactPageSeenWrong : ChangeSpec := { name := "fnExactPageSeen", fn := fun _ => fun
  | [d1, d2] => { results := [.lit (.bool false)], args := [d1, d2] }
  | _ => none }
def FnExactPageSeenWrongFalsely : Prop := fnExactPageSeenRow.holds Try.pinned (OpenSpec.ofChange fnExactPageSeenWrong)

/-- 'laws.FnExactPageSure': WHATEVER THE INPUT: true; the input reads as it did. -/
def fnExactPageSureSpec : ChangeSpec := { name := "fnExactPageSure", fn := fun _ => fun
  | [d1, d2] => { results := [.lit (.bool true)], args := [d1, d2] }
  | _ => none }
def fnExactPageSureRow : OpenClaim := { program := "ytoincfpffioioaa", sum := "4aab9739507d255b5d3188c1e164b76624a42947835efc2f8f17cef1149a6a28", func := "loop.example/shorthand/laws.FnExactPageSure", spec := "fnExactPageSure", unfollowed := true, recurses := true, apart := false }
def FnExactPageSureSaid : Prop := fnExactPageSureRow.holds Try.pinned (OpenSpec.ofChange fnExactPageSureSpec)

/-- ITS FALSE NEIGHBOUR: 'it returns false'. Refute it at one input. -/
def fnExactPageSureWrong : ChangeSpec := { name := "fnExactPageSure", fn := fun _ => fun
  | [d1, d2] => { results := [.lit (.bool false)], args := [d1, d2] }
  | _ => none }
def FnExactPageSureWrongFalsely : Prop := fnExactPageSureRow.holds Try.pinned (OpenSpec.ofChange fnExactPageSureWrong)

/-- 'laws.FnExactModelStates': WHATEVER THE INPUT: true; the input reads as it did. -/
def fnExactModelStatesSpec : ChangeSpec := { name := "fnExactModelStates", fn := fun _ => fun
  | [d1, d2] => { results := [.lit (.bool true)], args := [d1, d2] }
  | _ => none }
def fnExactModelStatesRow : OpenClaim := { program := "ytoincfpffioioaa", sum := "4aab9739507d255b5d3188c1e164b76624a42947835efc2f8f17cef1149a6a28", func := "loop.example/shorthand/laws.FnExactModelStates", spec := "fnExactModelStates", unfollowed := true, recurses := true, apart := false }
def FnExactModelStatesSaid : Prop := fnExactModelStatesRow.holds Try.pinned (OpenSpec.ofChange fnExactModelStatesSpec)

/-- ITS FALSE NEIGHBOUR: 'it returns false'. Refute it at one input. -/
def fnExactModelStatesWrong : ChangeSpec := { name := "fnExactModelStates", fn := fun _ => fun
  | [d1, d2] => { results := [.lit (.bool false)], args := [d1, d2] }
  | _ => none }
def FnExactModelStatesWrongFalsely : Prop := fnExactModelStatesRow.holds Try.pinned (OpenSpec.ofChange fnExactModelStatesWrong)

/- THE SECOND FORM. 'bulk': how many values and letters a reading holds, each counted each time it is reached (what is shared counts as often as it is met; a slice's spare places count too). A statement '..UptoSaid' is the law's where the arguments, and the package variables that the reading takes, are together of bulk at most 1048576: NARROWER than '..Said'. Prove '..Said' where nothing that the law and all that it calls make is longer than what came in: it says more and counts as full. Else prove '..UptoSaid'. A law counts once. -/
mutual
def uptoBulk {H : Type} : DataW H → Nat
  | .lit (.string bytes) => bytes.length + 1
  | .lit _ => 1
  | .nil => 1
  | .ptr d => uptoBulk d + 1
  | .slice elems spare => uptoBulkAll elems + uptoBulkAll spare + 1
  | .agg parts => uptoBulkAll parts + 1
  | .iface _ d => uptoBulk d + 1
  | .map entries => uptoBulkEntries entries + 1
  | .held _ => 1
def uptoBulkAll {H : Type} : List (DataW H) → Nat
  | [] => 0
  | d :: r => uptoBulk d + uptoBulkAll r
def uptoBulkEntries {H : Type} : List (Lit × DataW H) → Nat
  | [] => 0
  | x :: r => uptoBulkEntry x + uptoBulkEntries r
def uptoBulkEntry {H : Type} : Lit × DataW H → Nat
  | (.string bytes, d) => bytes.length + uptoBulk d + 1
  | (_, d) => uptoBulk d + 1
 end
def uptoSmall : (H : Type) → List (DataW H) → Bool := fun _ ds => decide (uptoBulkAll ds ≤ 1048576)
def OpenSpec.upto (s : _root_.Go.ChangeSpec) : _root_.Go.OpenSpec := { _root_.Go.OpenSpec.ofChange s with cond := some uptoSmall }

/-- 'laws.FnExactReadingsMany', WHERE WHAT IT READS IS OF BULK AT MOST 1048576: true; the input reads as it did. -/
def fnExactReadingsManyUptoRow : OpenClaim := { program := "ytoincfpffioioaa", sum := "4aab9739507d255b5d3188c1e164b76624a42947835efc2f8f17cef1149a6a28", func := "loop.example/shorthand/laws.FnExactReadingsMany", spec := "fnExactReadingsMany", unfollowed := true, recurses := true, apart := false, narrowed := true }
def FnExactReadingsManyUptoSaid : Prop := fnExactReadingsManyUptoRow.holds Try.pinned (OpenSpec.upto fnExactReadingsManySpec)

/-- 'laws.FnExactReadingFirst', WHERE WHAT IT READS IS OF BULK AT MOST 1048576: true; the input reads as it did. -/
def fnExactReadingFirstUptoRow : OpenClaim := { program := "ytoincfpffioioaa", sum := "4aab9739507d255b5d3188c1e164b76624a42947835efc2f8f17cef1149a6a28", func := "loop.example/shorthand/laws.FnExactReadingFirst", spec := "fnExactReadingFirst", unfollowed := true, recurses := true, apart := false, narrowed := true }
def FnExactReadingFirstUptoSaid : Prop := fnExactReadingFirstUptoRow.holds Try.pinned (OpenSpec.upto fnExactReadingFirstSpec)

/-- 'laws.FnExactReadingsRank', WHERE WHAT IT READS IS OF BULK AT MOST 1048576: true; the input reads as it did. -/
def fnExactReadingsRankUptoRow : OpenClaim := { program := "ytoincfpffioioaa", sum := "4aab9739507d255b5d3188c1e164b76624a42947835efc2f8f17cef1149a6a28", func := "loop.example/shorthand/laws.FnExactReadingsRank", spec := "fnExactReadingsRank", unfollowed := true, recurses := true, apart := false, narrowed := true }
def FnExactReadingsRankUptoSaid : Prop := fnExactReadingsRankUptoRow.holds Try.pinned (OpenSpec.upto fnExactReadingsRankSpec)

/-- 'laws.FnExactReadingBest', WHERE WHAT IT READS IS OF BULK AT MOST 1048576: true; the input reads as it did. -/
def fnExactReadingBestUptoRow : OpenClaim := { program := "ytoincfpffioioaa", sum := "4aab9739507d255b5d3188c1e164b76624a42947835efc2f8f17cef1149a6a28", func := "loop.example/shorthand/laws.FnExactReadingBest", spec := "fnExactReadingBest", unfollowed := true, recurses := true, apart := false, narrowed := true }
def FnExactReadingBestUptoSaid : Prop := fnExactReadingBestUptoRow.holds Try.pinned (OpenSpec.upto fnExactReadingBestSpec)

/-- 'laws.FnExactPageSeen', WHERE WHAT IT READS IS OF BULK AT MOST 1048576: true; the input reads as it did. -/
def fnExactPageSeenUptoRow : OpenClaim := { program := "ytoincfpffioioaa", sum := "4aab9739507d255b5d3188c1e164b76624a42947835efc2f8f17cef1149a6a28", func := "loop.example/shorthand/laws.FnExactPageSeen", spec := "fnExactPageSeen", unfollowed := true, recurses := true, apart := false, narrowed := true }
def FnExactPageSeenUptoSaid : Prop := fnExactPageSeenUptoRow.holds Try.pinned (OpenSpec.upto fnExactPageSeenSpec)

/-- 'laws.FnExactPageSure', WHERE WHAT IT READS IS OF BULK AT MOST 1048576: true; the input reads as it did. -/
def fnExactPageSureUptoRow : OpenClaim := { program := "ytoincfpffioioaa", sum := "4aab9739507d255b5d3188c1e164b76624a42947835efc2f8f17cef1149a6a28", func := "loop.example/shorthand/laws.FnExactPageSure", spec := "fnExactPageSure", unfollowed := true, recurses := true, apart := false, narrowed := true }
def FnExactPageSureUptoSaid : Prop := fnExactPageSureUptoRow.holds Try.pinned (OpenSpec.upto fnExactPageSureSpec)

/-- 'laws.FnExactModelStates', WHERE WHAT IT READS IS OF BULK AT MOST 1048576: true; the input reads as it did. -/
def fnExactModelStatesUptoRow : OpenClaim := { program := "ytoincfpffioioaa", sum := "4aab9739507d255b5d3188c1e164b76624a42947835efc2f8f17cef1149a6a28", func := "loop.example/shorthand/laws.FnExactModelStates", spec := "fnExactModelStates", unfollowed := true, recurses := true, apart := false, narrowed := true }
def FnExactModelStatesUptoSaid : Prop := fnExactModelStatesUptoRow.holds Try.pinned (OpenSpec.upto fnExactModelStatesSpec)

end Rows
end Go.Proofs.Ytoincfpffioioaa
