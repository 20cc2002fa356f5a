/-
  No cell of these rows narrows 'for every input' (looked for: loops, veiled, ifaces, maps, wideKeys, modest, calm, conditions, laid).
  DERIVED. THE GIVEN ROWS OF THIS SEAT. 7 by the template 'for every input the law returns true; each argument reads behind the call as it read before'; 0 by the template 'total and deterministic' (their statements: YtigemahbopligaaTotals.lean).
  GIVEN WITH THE SEED: the statements are not yours to turn. If you find one false, say at which input.
  Laid BY PROGRAM, IN A SANDBOX (cutbox-rows.mjs): the forced cells as the released guide's own fill.sh prints them over the translation 48a9b2ea76e8670e… (all of the seat's roots in one cut). By AI agents, Wed Nov 11 2026. No macro, syntax, notation, axiom, sorry.
-/
import Derived.Test.YtigemahbopligaaChecked
import GoSem.Claim
import GoSem.ClaimJoined
import GoSem.ClaimMapViews
import Derived.JoinedTies
import Derived.KernelRfl
namespace Go.Proofs.Ytigemahbopligaa
/- THE CELL 'sum', in the pinned program and in every row, IS THE sha256 OF THE DUMP (.gsa) THAT YtigemahbopligaaProg.lean LOADS. Nothing in Lean hashes anything: it is a label: what it is worth is what the hold of that sum in a sandbox is worth. -/
noncomputable def Try.pinned : Pinned := { name := "ytigemahbopligaa", sum := "48a9b2ea76e8670e5bd53a5679031f0205ede1d6443e96ebe27e07913a974a2a", checked := Try.checked }
namespace Rows
def none {H : Type} : Left H := { results := [], args := [] }

/-- 'laws.FnExactOutlineTurn': WHATEVER THE INPUT: true; the input reads as it did. -/
def fnExactOutlineTurnSpec : ChangeSpec := { name := "fnExactOutlineTurn", fn := fun _ => fun
  | [d1, d2] => { results := [.lit (.bool true)], args := [d1, d2] }
  | _ => none }
def fnExactOutlineTurnRow : OpenClaim := { program := "ytigemahbopligaa", sum := "48a9b2ea76e8670e5bd53a5679031f0205ede1d6443e96ebe27e07913a974a2a", func := "loop.example/shorthand/laws.FnExactOutlineTurn", spec := "fnExactOutlineTurn", unfollowed := true, recurses := true, plainKeys := false, apart := false }
def FnExactOutlineTurnSaid : Prop := fnExactOutlineTurnRow.holds Try.pinned (OpenSpec.ofChange fnExactOutlineTurnSpec)

/-- ITS FALSE NEIGHBOUR: 'it returns false'. Refute it at one input. -/
def fnExactOutlineTurnWrong : ChangeSpec := { name := "fnExactOutlineTurn", fn := fun _ => fun
  | [d1, d2] => { results := [.lit (.bool false)], args := [d1, d2] }
  | _ => none }
def FnExactOutlineTurnWrongFalsely : Prop := fnExactOutlineTurnRow.holds Try.pinned (OpenSpec.ofChange fnExactOutlineTurnWrong)

/-- 'laws.FnExactOutlineBack': WHATEVER THE INPUT: true; the input reads as it did. -/
def fnExactOutlineBackSpec : ChangeSpec := { name := "fnExactOutlineBack", fn := fun _ => fun
  | [d] => { results := [.lit (.bool true)], args := [d] }
  | _ => none }
def fnExactOutlineBackRow : OpenClaim := { program := "ytigemahbopligaa", sum := "48a9b2ea76e8670e5bd53a5679031f0205ede1d6443e96ebe27e07913a974a2a", func := "loop.example/shorthand/laws.FnExactOutlineBack", spec := "fnExactOutlineBack", unfollowed := true, recurses := true, plainKeys := false, apart := false }
def FnExactOutlineBackSaid : Prop := fnExactOutlineBackRow.holds Try.pinned (OpenSpec.ofChange fnExactOutlineBackSpec)

/-- ITS FALSE NEIGHBOUR: 'it returns false'. Refute it at one input. -/
def fnExactOutlineBackWrong : ChangeSpec := { name := "fnExactOutlineBack", fn := fun _ => fun
  | [d] => { results := [.lit (.bool false)], args := [d] }
  | _ => none }
def FnExactOutlineBackWrongFalsely : Prop := fnExactOutlineBackRow.holds Try.pinned (OpenSpec.ofChange fnExactOutlineBackWrong)

/-- 'laws.FnOutlineLength': WHATEVER THE INPUT: true; the input reads as it did. -/
def fnOutlineLengthSpec : ChangeSpec := { name := "fnOutlineLength", fn := fun _ => fun
  | [d1, d2] => { results := [.lit (.bool true)], args := [d1, d2] }
  | _ => none }
def fnOutlineLengthRow : OpenClaim := { program := "ytigemahbopligaa", sum := "48a9b2ea76e8670e5bd53a5679031f0205ede1d6443e96ebe27e07913a974a2a", func := "loop.example/shorthand/laws.FnOutlineLength", spec := "fnOutlineLength", unfollowed := true, recurses := true, plainKeys := false, apart := false }
def FnOutlineLengthSaid : Prop := fnOutlineLengthRow.holds Try.pinned (OpenSpec.ofChange fnOutlineLengthSpec)

/-- ITS FALSE NEIGHBOUR: 'it returns false'. Refute it at one input. -/
def fnOutlineLengthWrong : ChangeSpec := { name := "fnOutlineLength", fn := fun _ => fun
  | [d1, d2] => { results := [.lit (.bool false)], args := [d1, d2] }
  | _ => none }
def FnOutlineLengthWrongFalsely : Prop := fnOutlineLengthRow.holds Try.pinned (OpenSpec.ofChange fnOutlineLengthWrong)

/-- 'laws.FnExactLineLength': WHATEVER THE INPUT: true; the input reads as it did. -/
def fnExactLineLengthSpec : ChangeSpec := { name := "fnExactLineLength", fn := fun _ => fun
  | [d] => { results := [.lit (.bool true)], args := [d] }
  | _ => none }
def fnExactLineLengthRow : OpenClaim := { program := "ytigemahbopligaa", sum := "48a9b2ea76e8670e5bd53a5679031f0205ede1d6443e96ebe27e07913a974a2a", func := "loop.example/shorthand/laws.FnExactLineLength", spec := "fnExactLineLength", plainKeys := false, apart := false }
def FnExactLineLengthSaid : Prop := fnExactLineLengthRow.holds Try.pinned (OpenSpec.ofChange fnExactLineLengthSpec)

/-- ITS FALSE NEIGHBOUR: 'it returns false'. Refute it at one input. -/
def fnExactLineLengthWrong : ChangeSpec := { name := "fnExactLineLength", fn := fun _ => fun
  | [d] => { results := [.lit (.bool false)], args := [d] }
  | _ => none }
def FnExactLineLengthWrongFalsely : Prop := fnExactLineLengthRow.holds Try.pinned (OpenSpec.ofChange fnExactLineLengthWrong)

/-- 'laws.FnDictionaryLength': WHATEVER THE INPUT: true; the input reads as it did. -/
def fnDictionaryLengthSpec : ChangeSpec := { name := "fnDictionaryLength", fn := fun _ => fun
  | [d1, d2] => { results := [.lit (.bool true)], args := [d1, d2] }
  | _ => none }
def fnDictionaryLengthRow : OpenClaim := { program := "ytigemahbopligaa", sum := "48a9b2ea76e8670e5bd53a5679031f0205ede1d6443e96ebe27e07913a974a2a", func := "loop.example/shorthand/laws.FnDictionaryLength", spec := "fnDictionaryLength", inPlace := ["internal/bytealg.IndexByteString"], plainKeys := false, apart := false }
def FnDictionaryLengthSaid : Prop := fnDictionaryLengthRow.holds Try.pinned (OpenSpec.ofChange fnDictionaryLengthSpec)

/-- ITS FALSE NEIGHBOUR: 'it returns false'. Refute it at one input. -/
def fnDictionaryLengthWrong : ChangeSpec := { name := "fnDictionaryLength", fn := fun _ => fun
  | [d1, d2] => { results := [.lit (.bool false)], args := [d1, d2] }
  | _ => none }
def FnDictionaryLengthWrongFalsely : Prop := fnDictionaryLengthRow.holds Try.pinned (OpenSpec.ofChange fnDictionaryLengthWrong)

/-- 'laws.FnLineLength': WHATEVER THE INPUT: true; the input reads as it did. -/
def fnLineLengthSpec : ChangeSpec := { name := "fnLineLength", fn := fun _ => fun
  | [d1, d2] => { results := [.lit (.bool true)], args := [d1, d2] }
  | _ => none }
def fnLineLengthRow : OpenClaim := { program := "ytigemahbopligaa", sum := "48a9b2ea76e8670e5bd53a5679031f0205ede1d6443e96ebe27e07913a974a2a", func := "loop.example/shorthand/laws.FnLineLength", spec := "fnLineLength", plainKeys := false, apart := false }
def FnLineLengthSaid : Prop := fnLineLengthRow.holds Try.pinned (OpenSpec.ofChange fnLineLengthSpec)

/-- ITS FALSE NEIGHBOUR: 'it returns false'. Refute it at one input. -/
def fnLineLengthWrong : ChangeSpec := { name := "fnLineLength", fn := fun _ => fun
  | [d1, d2] => { results := [.lit (.bool false)], args := [d1, d2] }
  | _ => none }
def FnLineLengthWrongFalsely : Prop := fnLineLengthRow.holds Try.pinned (OpenSpec.ofChange fnLineLengthWrong)

/-- 'laws.FnExactDictionaryLength': WHATEVER THE INPUT: true; the input reads as it did. -/
def fnExactDictionaryLengthSpec : ChangeSpec := { name := "fnExactDictionaryLength", fn := fun _ => fun
  | [d1, d2] => { results := [.lit (.bool true)], args := [d1, d2] }
  | _ => none }
def fnExactDictionaryLengthRow : OpenClaim := { program := "ytigemahbopligaa", sum := "48a9b2ea76e8670e5bd53a5679031f0205ede1d6443e96ebe27e07913a974a2a", func := "loop.example/shorthand/laws.FnExactDictionaryLength", spec := "fnExactDictionaryLength", inPlace := ["internal/bytealg.IndexByteString"], plainKeys := false, apart := false }
def FnExactDictionaryLengthSaid : Prop := fnExactDictionaryLengthRow.holds Try.pinned (OpenSpec.ofChange fnExactDictionaryLengthSpec)

/-- ITS FALSE NEIGHBOUR: 'it returns false'. Refute it at one input. -/
def fnExactDictionaryLengthWrong : ChangeSpec := { name := "fnExactDictionaryLength", fn := fun _ => fun
  | [d1, d2] => { results := [.lit (.bool false)], args := [d1, d2] }
  | _ => none }
def FnExactDictionaryLengthWrongFalsely : Prop := fnExactDictionaryLengthRow.holds Try.pinned (OpenSpec.ofChange fnExactDictionaryLengthWrong)

/- THE SECOND FORM. 'bulk': how many values and letters a reading holds, each counted each time it is reached (what is shared counts as often as it is met; a slice's spare places count too). A statement '..UptoSaid' is the law's where the arguments, and the package variables that the reading takes, are together of bulk at most 1048576: NARROWER than '..Said'. Prove '..Said' where nothing that the law and all that it calls make is longer than what came in: it says more and counts as full. Else prove '..UptoSaid'. A law counts once. -/
mutual
def uptoBulk {H : Type} : DataW H → Nat
  | .lit (.string bytes) => bytes.length + 1
  | .lit _ => 1
  | .nil => 1
  | .ptr d => uptoBulk d + 1
  | .slice elems spare => uptoBulkAll elems + uptoBulkAll spare + 1
  | .agg parts => uptoBulkAll parts + 1
  | .iface _ d => uptoBulk d + 1
  | .map entries => uptoBulkEntries entries + 1
  | .held _ => 1
def uptoBulkAll {H : Type} : List (DataW H) → Nat
  | [] => 0
  | d :: r => uptoBulk d + uptoBulkAll r
def uptoBulkEntries {H : Type} : List (Lit × DataW H) → Nat
  | [] => 0
  | x :: r => uptoBulkEntry x + uptoBulkEntries r
def uptoBulkEntry {H : Type} : Lit × DataW H → Nat
  | (.string bytes, d) => bytes.length + uptoBulk d + 1
  | (_, d) => uptoBulk d + 1
 end
def uptoSmall : (H : Type) → List (DataW H) → Bool := fun _ ds => decide (uptoBulkAll ds ≤ 1048576)
def OpenSpec.upto (s : _root_.Go.ChangeSpec) : _root_.Go.OpenSpec := { _root_.Go.OpenSpec.ofChange s with cond := some uptoSmall }

/-- 'laws.FnExactOutlineTurn', WHERE WHAT IT READS IS OF BULK AT MOST 1048576: true; the input reads as it did. -/
def fnExactOutlineTurnUptoRow : OpenClaim := { program := "ytigemahbopligaa", sum := "48a9b2ea76e8670e5bd53a5679031f0205ede1d6443e96ebe27e07913a974a2a", func := "loop.example/shorthand/laws.FnExactOutlineTurn", spec := "fnExactOutlineTurn", unfollowed := true, recurses := true, plainKeys := false, apart := false, narrowed := true }
def FnExactOutlineTurnUptoSaid : Prop := fnExactOutlineTurnUptoRow.holds Try.pinned (OpenSpec.upto fnExactOutlineTurnSpec)

/-- 'laws.FnExactOutlineBack', WHERE WHAT IT READS IS OF BULK AT MOST 1048576: true; the input reads as it did. -/
def fnExactOutlineBackUptoRow : OpenClaim := { program := "ytigemahbopligaa", sum := "48a9b2ea76e8670e5bd53a5679031f0205ede1d6443e96ebe27e07913a974a2a", func := "loop.example/shorthand/laws.FnExactOutlineBack", spec := "fnExactOutlineBack", unfollowed := true, recurses := true, plainKeys := false, apart := false, narrowed := true }
def FnExactOutlineBackUptoSaid : Prop := fnExactOutlineBackUptoRow.holds Try.pinned (OpenSpec.upto fnExactOutlineBackSpec)

/-- 'laws.FnOutlineLength', WHERE WHAT IT READS IS OF BULK AT MOST 1048576: true; the input reads as it did. -/
def fnOutlineLengthUptoRow : OpenClaim := { program := "ytigemahbopligaa", sum := "48a9b2ea76e8670e5bd53a5679031f0205ede1d6443e96ebe27e07913a974a2a", func := "loop.example/shorthand/laws.FnOutlineLength", spec := "fnOutlineLength", unfollowed := true, recurses := true, plainKeys := false, apart := false, narrowed := true }
def FnOutlineLengthUptoSaid : Prop := fnOutlineLengthUptoRow.holds Try.pinned (OpenSpec.upto fnOutlineLengthSpec)

/-- 'laws.FnExactLineLength', WHERE WHAT IT READS IS OF BULK AT MOST 1048576: true; the input reads as it did. -/
def fnExactLineLengthUptoRow : OpenClaim := { program := "ytigemahbopligaa", sum := "48a9b2ea76e8670e5bd53a5679031f0205ede1d6443e96ebe27e07913a974a2a", func := "loop.example/shorthand/laws.FnExactLineLength", spec := "fnExactLineLength", plainKeys := false, apart := false, narrowed := true }
def FnExactLineLengthUptoSaid : Prop := fnExactLineLengthUptoRow.holds Try.pinned (OpenSpec.upto fnExactLineLengthSpec)

/-- 'laws.FnDictionaryLength', WHERE WHAT IT READS IS OF BULK AT MOST 1048576: true; the input reads as it did. -/
def fnDictionaryLengthUptoRow : OpenClaim := { program := "ytigemahbopligaa", sum := "48a9b2ea76e8670e5bd53a5679031f0205ede1d6443e96ebe27e07913a974a2a", func := "loop.example/shorthand/laws.FnDictionaryLength", spec := "fnDictionaryLength", inPlace := ["internal/bytealg.IndexByteString"], plainKeys := false, apart := false, narrowed := true }
def FnDictionaryLengthUptoSaid : Prop := fnDictionaryLengthUptoRow.holds Try.pinned (OpenSpec.upto fnDictionaryLengthSpec)

/-- 'laws.FnLineLength', WHERE WHAT IT READS IS OF BULK AT MOST 1048576: true; the input reads as it did. -/
def fnLineLengthUptoRow : OpenClaim := { program := "ytigemahbopligaa", sum := "48a9b2ea76e8670e5bd53a5679031f0205ede1d6443e96ebe27e07913a974a2a", func := "loop.example/shorthand/laws.FnLineLength", spec := "fnLineLength", plainKeys := false, apart := false, narrowed := true }
def FnLineLengthUptoSaid : Prop := fnLineLengthUptoRow.holds Try.pinned (OpenSpec.upto fnLineLengthSpec)

/-- 'laws.FnExactDictionaryLength', WHERE WHAT IT READS IS OF BULK AT MOST 1048576: true; the input reads as it did. -/
def fnExactDictionaryLengthUptoRow : OpenClaim := { program := "ytigemahbopligaa", sum := "48a9b2ea76e8670e5bd53a5679031f0205ede1d6443e96ebe27e07913a974a2a", func := "loop.example/shorthand/laws.FnExactDictionaryLength", spec := "fnExactDictionaryLength", inPlace := ["internal/bytealg.IndexByteString"], plainKeys := false, apart := false, narrowed := true }
def FnExactDictionaryLengthUptoSaid : Prop := fnExactDictionaryLengthUptoRow.holds Try.pinned (OpenSpec.upto fnExactDictionaryLengthSpec)

end Rows
end Go.Proofs.Ytigemahbopligaa
