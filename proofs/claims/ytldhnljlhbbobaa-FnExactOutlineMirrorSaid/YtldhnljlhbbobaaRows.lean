/-
  No cell of these rows narrows 'for every input' (looked for: loops, veiled, ifaces, maps, wideKeys, modest, calm, conditions, laid).
  DERIVED. THE GIVEN ROWS OF THIS SEAT. 5 by the template 'for every input the law returns true; each argument reads behind the call as it read before'; 0 by the template 'total and deterministic' (their statements: YtldhnljlhbbobaaTotals.lean).
  GIVEN WITH THE SEED: the statements are not yours to turn. If you find one false, say at which input.
  Laid BY PROGRAM, IN A SANDBOX (cutbox-rows.mjs): the forced cells as the released guide's own fill.sh prints them over the translation 66f0890526d14056… (all of the seat's roots in one cut). By AI agents, Wed Nov 11 2026. No macro, syntax, notation, axiom, sorry.
-/
import Derived.Test.YtldhnljlhbbobaaChecked
import GoSem.Claim
import GoSem.ClaimJoined
import GoSem.ClaimMapViews
import Derived.JoinedTies
import Derived.KernelRfl
namespace Go.Proofs.Ytldhnljlhbbobaa
/- THE CELL 'sum', in the pinned program and in every row, IS THE sha256 OF THE DUMP (.gsa) THAT YtldhnljlhbbobaaProg.lean LOADS. Nothing in Lean hashes anything: it is a label: what it is worth is what the hold of that sum in a sandbox is worth. -/
noncomputable def Try.pinned : Pinned := { name := "ytldhnljlhbbobaa", sum := "66f0890526d14056da6982275a978d780aa6dc1e3fe3ef37021ad298a3e472ae", checked := Try.checked }
namespace Rows
def none {H : Type} : Left H := { results := [], args := [] }

/-- 'laws.FnExactTalkValid': WHATEVER THE INPUT: true; the input reads as it did. -/
def fnExactTalkValidSpec : ChangeSpec := { name := "fnExactTalkValid", fn := fun _ => fun
  | [d] => { results := [.lit (.bool true)], args := [d] }
  | _ => none }
def fnExactTalkValidRow : OpenClaim := { program := "ytldhnljlhbbobaa", sum := "66f0890526d14056da6982275a978d780aa6dc1e3fe3ef37021ad298a3e472ae", func := "loop.example/shorthand/laws.FnExactTalkValid", spec := "fnExactTalkValid", unfollowed := true, recurses := true, apart := false }
def FnExactTalkValidSaid : Prop := fnExactTalkValidRow.holds Try.pinned (OpenSpec.ofChange fnExactTalkValidSpec)

/-- ITS FALSE NEIGHBOUR: 'it returns false'. Refute it at one input. -/
def fnExactTalkValidWrong : ChangeSpec := { name := "fnExactTalkValid", fn := fun _ => fun
  | [d] => { results := [.lit (.bool false)], args := [d] }
  | _ => none }
def FnExactTalkValidWrongFalsely : Prop := fnExactTalkValidRow.holds Try.pinned (OpenSpec.ofChange fnExactTalkValidWrong)

/-- 'laws.FnExactPageValid': WHATEVER THE INPUT: true; the input reads as it did. -/
def fnExactPageValidSpec : ChangeSpec := { name := "fnExactPageValid", fn := fun _ => fun
  | [d1, d2] => { results := [.lit (.bool true)], args := [d1, d2] }
  | _ => none }
def fnExactPageValidRow : OpenClaim := { program := "ytldhnljlhbbobaa", sum := "66f0890526d14056da6982275a978d780aa6dc1e3fe3ef37021ad298a3e472ae", func := "loop.example/shorthand/laws.FnExactPageValid", spec := "fnExactPageValid", apart := false }
def FnExactPageValidSaid : Prop := fnExactPageValidRow.holds Try.pinned (OpenSpec.ofChange fnExactPageValidSpec)

/-- ITS FALSE NEIGHBOUR: 'it returns false'. Refute it at one input. -/
def fnExactPageValidWrong : ChangeSpec := { name := "fnExactPageValid", fn := fun _ => fun
  | [d1, d2] => { results := [.lit (.bool false)], args := [d1, d2] }
  | _ => none }
def FnExactPageValidWrongFalsely : Prop := fnExactPageValidRow.holds Try.pinned (OpenSpec.ofChange fnExactPageValidWrong)

/-- 'laws.FnExactOutlineLength': WHATEVER THE INPUT: true; the input reads as it did. -/
def fnExactOutlineLengthSpec : ChangeSpec := { name := "fnExactOutlineLength", fn := fun _ => fun
  | [d] => { results := [.lit (.bool true)], args := [d] }
  | _ => none }
def fnExactOutlineLengthRow : OpenClaim := { program := "ytldhnljlhbbobaa", sum := "66f0890526d14056da6982275a978d780aa6dc1e3fe3ef37021ad298a3e472ae", func := "loop.example/shorthand/laws.FnExactOutlineLength", spec := "fnExactOutlineLength", apart := false }
def FnExactOutlineLengthSaid : Prop := fnExactOutlineLengthRow.holds Try.pinned (OpenSpec.ofChange fnExactOutlineLengthSpec)

/-- ITS FALSE NEIGHBOUR: 'it returns false'. Refute it at one input. -/
def fnExactOutlineLengthWrong : ChangeSpec := { name := "fnExactOutlineLength", fn := fun _ => fun
  | [d] => { results := [.lit (.bool false)], args := [d] }
  | _ => none }
def FnExactOutlineLengthWrongFalsely : Prop := fnExactOutlineLengthRow.holds Try.pinned (OpenSpec.ofChange fnExactOutlineLengthWrong)

/-- 'laws.FnExactModelValid': WHATEVER THE INPUT: true; the input reads as it did. -/
def fnExactModelValidSpec : ChangeSpec := { name := "fnExactModelValid", fn := fun _ => fun
  | [d] => { results := [.lit (.bool true)], args := [d] }
  | _ => none }
def fnExactModelValidRow : OpenClaim := { program := "ytldhnljlhbbobaa", sum := "66f0890526d14056da6982275a978d780aa6dc1e3fe3ef37021ad298a3e472ae", func := "loop.example/shorthand/laws.FnExactModelValid", spec := "fnExactModelValid", unfollowed := true, recurses := true, apart := false }
def FnExactModelValidSaid : Prop := fnExactModelValidRow.holds Try.pinned (OpenSpec.ofChange fnExactModelValidSpec)

/-- ITS FALSE NEIGHBOUR: 'it returns false'. Refute it at one input. -/
def fnExactModelValidWrong : ChangeSpec := { name := "fnExactModelValid", fn := fun _ => fun
  | [d] => { results := [.lit (.bool false)], args := [d] }
  | _ => none }
def FnExactModelValidWrongFalsely : Prop := fnExactModelValidRow.holds Try.pinned (OpenSpec.ofChange fnExactModelValidWrong)

/-- 'laws.FnExactOutlineMirror': WHATEVER THE INPUT: true; the input reads as it did. -/
def fnExactOutlineMirrorSpec : ChangeSpec := { name := "fnExactOutlineMirror", fn := fun _ => fun
  | [d] => { results := [.lit (.bool true)], args := [d] }
  | _ => none }
def fnExactOutlineMirrorRow : OpenClaim := { program := "ytldhnljlhbbobaa", sum := "66f0890526d14056da6982275a978d780aa6dc1e3fe3ef37021ad298a3e472ae", func := "loop.example/shorthand/laws.FnExactOutlineMirror", spec := "fnExactOutlineMirror", unfollowed := true, recurses := true, apart := false }
def FnExactOutlineMirrorSaid : Prop := fnExactOutlineMirrorRow.holds Try.pinned (OpenSpec.ofChange fnExactOutlineMirrorSpec)

/-- ITS FALSE NEIGHBOUR: 'it returns false'. Refute it at one input. -/
def fnExactOutlineMirrorWrong : ChangeSpec := { name := "fnExactOutlineMirror", fn := fun _ => fun
  | [d] => { results := [.lit (.bool false)], args := [d] }
  | _ => none }
def FnExactOutlineMirrorWrongFalsely : Prop := fnExactOutlineMirrorRow.holds Try.pinned (OpenSpec.ofChange fnExactOutlineMirrorWrong)

/- THE SECOND FORM. 'bulk': how many values and letters a reading holds, each counted each time it is reached (what is shared counts as often as it is met; a slice's spare places count too). A statement '..UptoSaid' is the law's where the arguments, and the package variables that the reading takes, are together of bulk at most 1048576: NARROWER than '..Said'. Prove '..Said' where nothing that the law and all that it calls make is longer than what came in: it says more and counts as full. Else prove '..UptoSaid'. A law counts once. -/
mutual
def uptoBulk {H : Type} : DataW H → Nat
  | .lit (.string bytes) => bytes.length + 1
  | .lit _ => 1
  | .nil => 1
  | .ptr d => uptoBulk d + 1
  | .slice elems spare => uptoBulkAll elems + uptoBulkAll spare + 1
  | .agg parts => uptoBulkAll parts + 1
  | .iface _ d => uptoBulk d + 1
  | .map entries => uptoBulkEntries entries + 1
  | .held _ => 1
def uptoBulkAll {H : Type} : List (DataW H) → Nat
  | [] => 0
  | d :: r => uptoBulk d + uptoBulkAll r
def uptoBulkEntries {H : Type} : List (Lit × DataW H) → Nat
  | [] => 0
  | x :: r => uptoBulkEntry x + uptoBulkEntries r
def uptoBulkEntry {H : Type} : Lit × DataW H → Nat
  | (.string bytes, d) => bytes.length + uptoBulk d + 1
  | (_, d) => uptoBulk d + 1
 end
def uptoSmall : (H : Type) → List (DataW H) → Bool := fun _ ds => decide (uptoBulkAll ds ≤ 1048576)
def OpenSpec.upto (s : _root_.Go.ChangeSpec) : _root_.Go.OpenSpec := { _root_.Go.OpenSpec.ofChange s with cond := some uptoSmall }

/-- 'laws.FnExactTalkValid', WHERE WHAT IT READS IS OF BULK AT MOST 1048576: true; the input reads as it did. -/
def fnExactTalkValidUptoRow : OpenClaim := { program := "ytldhnljlhbbobaa", sum := "66f0890526d14056da6982275a978d780aa6dc1e3fe3ef37021ad298a3e472ae", func := "loop.example/shorthand/laws.FnExactTalkValid", spec := "fnExactTalkValid", unfollowed := true, recurses := true, apart := false, narrowed := true }
def FnExactTalkValidUptoSaid : Prop := fnExactTalkValidUptoRow.holds Try.pinned (OpenSpec.upto fnExactTalkValidSpec)

/-- 'laws.FnExactPageValid', WHERE WHAT IT READS IS OF BULK AT MOST 1048576: true; the input reads as it did. -/
def fnExactPageValidUptoRow : OpenClaim := { program := "ytldhnljlhbbobaa", sum := "66f0890526d14056da6982275a978d780aa6dc1e3fe3ef37021ad298a3e472ae", func := "loop.example/shorthand/laws.FnExactPageValid", spec := "fnExactPageValid", apart := false, narrowed := true }
def FnExactPageValidUptoSaid : Prop := fnExactPageValidUptoRow.holds Try.pinned (OpenSpec.upto fnExactPageValidSpec)

/-- 'laws.FnExactOutlineLength', WHERE WHAT IT READS IS OF BULK AT MOST 1048576: true; the input reads as it did. -/
def fnExactOutlineLengthUptoRow : OpenClaim := { program := "ytldhnljlhbbobaa", sum := "66f0890526d14056da6982275a978d780aa6dc1e3fe3ef37021ad298a3e472ae", func := "loop.example/shorthand/laws.FnExactOutlineLength", spec := "fnExactOutlineLength", apart := false, narrowed := true }
def FnExactOutlineLengthUptoSaid : Prop := fnExactOutlineLengthUptoRow.holds Try.pinned (OpenSpec.upto fnExactOutlineLengthSpec)

/-- 'laws.FnExactModelValid', WHERE WHAT IT READS IS OF BULK AT MOST 1048576: true; the input reads as it did. -/
def fnExactModelValidUptoRow : OpenClaim := { program := "ytldhnljlhbbobaa", sum := "66f0890526d14056da6982275a978d780aa6dc1e3fe3ef37021ad298a3e472ae", func := "loop.example/shorthand/laws.FnExactModelValid", spec := "fnExactModelValid", unfollowed := true, recurses := true, apart := false, narrowed := true }
def FnExactModelValidUptoSaid : Prop := fnExactModelValidUptoRow.holds Try.pinned (OpenSpec.upto fnExactModelValidSpec)

/-- 'laws.FnExactOutlineMirror', WHERE WHAT IT READS IS OF BULK AT MOST 1048576: true; the input reads as it did. -/
def fnExactOutlineMirrorUptoRow : OpenClaim := { program := "ytldhnljlhbbobaa", sum := "66f0890526d14056da6982275a978d780aa6dc1e3fe3ef37021ad298a3e472ae", func := "loop.example/shorthand/laws.FnExactOutlineMirror", spec := "fnExactOutlineMirror", unfollowed := true, recurses := true, apart := false, narrowed := true }
def FnExactOutlineMirrorUptoSaid : Prop := fnExactOutlineMirrorUptoRow.holds Try.pinned (OpenSpec.upto fnExactOutlineMirrorSpec)

end Rows
end Go.Proofs.Ytldhnljlhbbobaa
