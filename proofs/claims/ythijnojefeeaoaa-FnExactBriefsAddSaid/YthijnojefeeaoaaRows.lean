/-
  No cell of these rows narrows 'for every input' (looked for: loops, veiled, ifaces, maps, wideKeys, modest, calm, conditions, laid).
  DERIVED. THE GIVEN ROWS OF THIS SEAT. 10 by the template 'for every input the law returns true; each argument reads behind the call as it read before'; 0 by the template 'total and deterministic' (their statements: YthijnojefeeaoaaTotals.lean).
  GIVEN WITH THE SEED: the statements are not yours to turn. If you find one false, say at which input.
  Laid BY PROGRAM, IN A SANDBOX (cutbox-rows.mjs): the forced cells as the released guide's own fill.sh prints them over the translation 06cc665aa19cd31a… (all of the seat's roots in one cut). By AI agents, Wed Nov 11 2026. No macro, syntax, notation, axiom, sorry.
-/
import Derived.Test.YthijnojefeeaoaaChecked
import GoSem.Claim
import GoSem.ClaimJoined
import GoSem.ClaimMapViews
import Derived.JoinedTies
import Derived.KernelRfl
namespace Go.Proofs.Ythijnojefeeaoaa
/- THE CELL 'sum', in the pinned program and in every row, IS THE sha256 OF THE DUMP (.gsa) THAT YthijnojefeeaoaaProg.lean LOADS. Nothing in Lean hashes anything: it is a label: what it is worth is what the hold of that sum in a sandbox is worth. -/
noncomputable def Try.pinned : Pinned := { name := "ythijnojefeeaoaa", sum := "06cc665aa19cd31a9c0fe16aa3bdd8667b47211238b460fe352a94d0e3260971", checked := Try.checked }
namespace Rows
def none {H : Type} : Left H := { results := [], args := [] }

/-- 'laws.FnCopySaves': WHATEVER THE INPUT: true; the input reads as it did. -/
def fnCopySavesSpec : ChangeSpec := { name := "fnCopySaves", fn := fun _ => fun
  | [d] => { results := [.lit (.bool true)], args := [d] }
  | _ => none }
def fnCopySavesRow : OpenClaim := { program := "ythijnojefeeaoaa", sum := "06cc665aa19cd31a9c0fe16aa3bdd8667b47211238b460fe352a94d0e3260971", func := "loop.example/shorthand/laws.FnCopySaves", spec := "fnCopySaves", unfollowed := true, recurses := true, apart := false }
def FnCopySavesSaid : Prop := fnCopySavesRow.holds Try.pinned (OpenSpec.ofChange fnCopySavesSpec)

/-- ITS FALSE NEIGHBOUR: 'it returns false'. Refute it at one input. -/
def fnCopySavesWrong : ChangeSpec := { name := "fnCopySaves", fn := fun _ => fun
  | [d] => { results := [.lit (.bool false)], args := [d] }
  | _ => none }
def FnCopySavesWrongFalsely : Prop := fnCopySavesRow.holds Try.pinned (OpenSpec.ofChange fnCopySavesWrong)

/-- 'laws.FnBriefsUsed': WHATEVER THE INPUT: true; the input reads as it did. -/
def fnBriefsUsedSpec : ChangeSpec := { name := "fnBriefsUsed", fn := fun _ => fun
  | [d1, d2] => { results := [.lit (.bool true)], args := [d1, d2] }
  | _ => none }
def fnBriefsUsedRow : OpenClaim := { program := "ythijnojefeeaoaa", sum := "06cc665aa19cd31a9c0fe16aa3bdd8667b47211238b460fe352a94d0e3260971", func := "loop.example/shorthand/laws.FnBriefsUsed", spec := "fnBriefsUsed", unfollowed := true, recurses := true, apart := false }
def FnBriefsUsedSaid : Prop := fnBriefsUsedRow.holds Try.pinned (OpenSpec.ofChange fnBriefsUsedSpec)

/-- ITS FALSE NEIGHBOUR: 'it returns false'. Refute it at one input. -/
def fnBriefsUsedWrong : ChangeSpec := { name := "fnBriefsUsed", fn := fun _ => fun
  | [d1, d2] => { results := [.lit (.bool false)], args := [d1, d2] }
  | _ => none }
def FnBriefsUsedWrongFalsely : Prop := fnBriefsUsedRow.holds Try.pinned (OpenSpec.ofChange fnBriefsUsedWrong)

/-- 'laws.FnExactBriefsUsed': WHATEVER THE INPUT: true; the input reads as it did. -/
def fnExactBriefsUsedSpec : ChangeSpec := { name := "fnExactBriefsUsed", fn := fun _ => fun
  | [d1, d2] => { results := [.lit (.bool true)], args := [d1, d2] }
  | _ => none }
def fnExactBriefsUsedRow : OpenClaim := { program := "ythijnojefeeaoaa", sum := "06cc665aa19cd31a9c0fe16aa3bdd8667b47211238b460fe352a94d0e3260971", func := "loop.example/shorthand/laws.FnExactBriefsUsed", spec := "fnExactBriefsUsed", unfollowed := true, recurses := true, apart := false }
def FnExactBriefsUsedSaid : Prop := fnExactBriefsUsedRow.holds Try.pinned (OpenSpec.ofChange fnExactBriefsUsedSpec)

/-- ITS FALSE NEIGHBOUR: 'it returns false'. Refute it at one input. -/
def fnExactBriefsUsedWrong : ChangeSpec := { name := "fnExactBriefsUsed", fn := fun _ => fun
  | [d1, d2] => { results := [.lit (.bool false)], args := [d1, d2] }
  | _ => none }
def FnExactBriefsUsedWrongFalsely : Prop := fnExactBriefsUsedRow.holds Try.pinned (OpenSpec.ofChange fnExactBriefsUsedWrong)

/-- 'laws.FnExactBriefsAdd': WHATEVER THE INPUT: true; the input reads as it did. -/
def fnExactBriefsAddSpec : ChangeSpec := { name := "fnExactBriefsAdd", fn := fun _ => fun
  | [d1, d2] => { results := [.lit (.bool true)], args := [d1, d2] }
  | _ => none }
def fnExactBriefsAddRow : OpenClaim := { program := "ythijnojefeeaoaa", sum := "06cc665aa19cd31a9c0fe16aa3bdd8667b47211238b460fe352a94d0e3260971", func := "loop.example/shorthand/laws.FnExactBriefsAdd", spec := "fnExactBriefsAdd", unfollowed := true, recurses := true, apart := false }
def FnExactBriefsAddSaid : Prop := fnExactBriefsAddRow.holds Try.pinned (OpenSpec.ofChange fnExactBriefsAddSpec)

/-- ITS FALSE NEIGHBOUR: 'it returns false'. Refute it at one input. -/
def fnExactBriefsAddWrong : ChangeSpec := { name := "fnExactBriefsAdd", fn := fun _ => fun
  | [d1, d2] => { results := [.lit (.bool false)], args := [d1, d2] }
  | _ => none }
def FnExactBriefsAddWrongFalsely : Prop := fnExactBriefsAddRow.holds Try.pinned (OpenSpec.ofChange fnExactBriefsAddWrong)

/-- 'laws.FnCopyShort': WHATEVER THE INPUT: true; the input reads as it did. -/
def fnCopyShortSpec : ChangeSpec := { name := "fnCopyShort", fn := fun _ => fun
  | [d] => { results := [.lit (.bool true)], args := [d] }
  | _ => none }
def fnCopyShortRow : OpenClaim := { program := "ythijnojefeeaoaa", sum := "06cc665aa19cd31a9c0fe16aa3bdd8667b47211238b460fe352a94d0e3260971", func := "loop.example/shorthand/laws.FnCopyShort", spec := "fnCopyShort", unfollowed := true, recurses := true, apart := false }
def FnCopyShortSaid : Prop := fnCopyShortRow.holds Try.pinned (OpenSpec.ofChange fnCopyShortSpec)

/-- ITS FALSE NEIGHBOUR: 'it returns false'. Refute it at one input. -/
def fnCopyShortWrong : ChangeSpec := { name := "fnCopyShort", fn := fun _ => fun
  | [d] => { results := [.lit (.bool false)], args := [d] }
  | _ => none }
def FnCopyShortWrongFalsely : Prop := fnCopyShortRow.holds Try.pinned (OpenSpec.ofChange fnCopyShortWrong)

/-- 'laws.FnExactCopySaves': WHATEVER THE INPUT: true; the input reads as it did. -/
def fnExactCopySavesSpec : ChangeSpec := { name := "fnExactCopySaves", fn := fun _ => fun
  | [d1, d2] => { results := [.lit (.bool true)], args := [d1, d2] }
  | _ => none }
def fnExactCopySavesRow : OpenClaim := { program := "ythijnojefeeaoaa", sum := "06cc665aa19cd31a9c0fe16aa3bdd8667b47211238b460fe352a94d0e3260971", func := "loop.example/shorthand/laws.FnExactCopySaves", spec := "fnExactCopySaves", unfollowed := true, recurses := true, apart := false }
def FnExactCopySavesSaid : Prop := fnExactCopySavesRow.holds Try.pinned (OpenSpec.ofChange fnExactCopySavesSpec)

/-- ITS FALSE NEIGHBOUR: 'it returns false'. Refute it at one input. -/
def fnExactCopySavesWrong : ChangeSpec := { name := "fnExactCopySaves", fn := fun _ => fun
  | [d1, d2] => { results := [.lit (.bool false)], args := [d1, d2] }
  | _ => none }
def FnExactCopySavesWrongFalsely : Prop := fnExactCopySavesRow.holds Try.pinned (OpenSpec.ofChange fnExactCopySavesWrong)

/-- 'laws.FnCopyMarks': WHATEVER THE INPUT: true; the input reads as it did. -/
def fnCopyMarksSpec : ChangeSpec := { name := "fnCopyMarks", fn := fun _ => fun
  | [d] => { results := [.lit (.bool true)], args := [d] }
  | _ => none }
def fnCopyMarksRow : OpenClaim := { program := "ythijnojefeeaoaa", sum := "06cc665aa19cd31a9c0fe16aa3bdd8667b47211238b460fe352a94d0e3260971", func := "loop.example/shorthand/laws.FnCopyMarks", spec := "fnCopyMarks", unfollowed := true, recurses := true, apart := false }
def FnCopyMarksSaid : Prop := fnCopyMarksRow.holds Try.pinned (OpenSpec.ofChange fnCopyMarksSpec)

/-- ITS FALSE NEIGHBOUR: 'it returns false'. Refute it at one input. -/
def fnCopyMarksWrong : ChangeSpec := { name := "fnCopyMarks", fn := fun _ => fun
  | [d] => { results := [.lit (.bool false)], args := [d] }
  | _ => none }
def FnCopyMarksWrongFalsely : Prop := fnCopyMarksRow.holds Try.pinned (OpenSpec.ofChange fnCopyMarksWrong)

/-- 'laws.FnCopyRead': WHATEVER THE INPUT: true; the input reads as it did. -/
def fnCopyReadSpec : ChangeSpec := { name := "fnCopyRead", fn := fun _ => fun
  | [d1, d2] => { results := [.lit (.bool true)], args := [d1, d2] }
  | _ => none }
def fnCopyReadRow : OpenClaim := { program := "ythijnojefeeaoaa", sum := "06cc665aa19cd31a9c0fe16aa3bdd8667b47211238b460fe352a94d0e3260971", func := "loop.example/shorthand/laws.FnCopyRead", spec := "fnCopyRead", unfollowed := true, recurses := true, apart := false }
def FnCopyReadSaid : Prop := fnCopyReadRow.holds Try.pinned (OpenSpec.ofChange fnCopyReadSpec)

/-- ITS FALSE NEIGHBOUR: 'it returns false'. Refute it at one input. -/
def fnCopyReadWrong : ChangeSpec := { name := "fnCopyRead", fn := fun _ => fun
  | [d1, d2] => { results := [.lit (.bool false)], args := [d1, d2] }
  | _ => none }
def FnCopyReadWrongFalsely : Prop := fnCopyReadRow.holds Try.pinned (OpenSpec.ofChange fnCopyReadWrong)

/-- 'laws.FnCopyBest': WHATEVER THE INPUT: true; the input reads as it did. -/
def fnCopyBestSpec : ChangeSpec := { name := "fnCopyBest", fn := fun _ => fun
  | [d] => { results := [.lit (.bool true)], args := [d] }
  | _ => none }
def fnCopyBestRow : OpenClaim := { program := "ythijnojefeeaoaa", sum := "06cc665aa19cd31a9c0fe16aa3bdd8667b47211238b460fe352a94d0e3260971", func := "loop.example/shorthand/laws.FnCopyBest", spec := "fnCopyBest", unfollowed := true, recurses := true, apart := false }
def FnCopyBestSaid : Prop := fnCopyBestRow.holds Try.pinned (OpenSpec.ofChange fnCopyBestSpec)

/-- ITS FALSE NEIGHBOUR: 'it returns false'. Refute it at one input. -/
def fnCopyBestWrong : ChangeSpec := { name := "fnCopyBest", fn := fun _ => fun
  | [d] => { results := [.lit (.bool false)], args := [d] }
  | _ => none }
def FnCopyBestWrongFalsely : Prop := fnCopyBestRow.holds Try.pinned (OpenSpec.ofChange fnCopyBestWrong)

/-- 'laws.FnExactCopyBest': WHATEVER THE INPUT: true; the input reads as it did. -/
def fnExactCopyBestSpec : ChangeSpec := { name := "fnExactCopyBest", fn := fun _ => fun
  | [d1, d2] => { results := [.lit (.bool true)], args := [d1, d2] }
  | _ => none }
def fnExactCopyBestRow : OpenClaim := { program := "ythijnojefeeaoaa", sum := "06cc665aa19cd31a9c0fe16aa3bdd8667b47211238b460fe352a94d0e3260971", func := "loop.example/shorthand/laws.FnExactCopyBest", spec := "fnExactCopyBest", unfollowed := true, recurses := true, apart := false }
def FnExactCopyBestSaid : Prop := fnExactCopyBestRow.holds Try.pinned (OpenSpec.ofChange fnExactCopyBestSpec)

/-- ITS FALSE NEIGHBOUR: 'it returns false'. Refute it at one input. -/
def fnExactCopyBestWrong : ChangeSpec := { name := "fnExactCopyBest", fn := fun _ => fun
  | [d1, d2] => { results := [.lit (.bool false)], args := [d1, d2] }
  | _ => none }
def FnExactCopyBestWrongFalsely : Prop := fnExactCopyBestRow.holds Try.pinned (OpenSpec.ofChange fnExactCopyBestWrong)

/- THE SECOND FORM. 'bulk': how many values and letters a reading holds, each counted each time it is reached (what is shared counts as often as it is met; a slice's spare places count too). A statement '..UptoSaid' is the law's where the arguments, and the package variables that the reading takes, are together of bulk at most 1048576: NARROWER than '..Said'. Prove '..Said' where nothing that the law and all that it calls make is longer than what came in: it says more and counts as full. Else prove '..UptoSaid'. A law counts once. -/
mutual
def uptoBulk {H : Type} : DataW H → Nat
  | .lit (.string bytes) => bytes.length + 1
  | .lit _ => 1
  | .nil => 1
  | .ptr d => uptoBulk d + 1
  | .slice elems spare => uptoBulkAll elems + uptoBulkAll spare + 1
  | .agg parts => uptoBulkAll parts + 1
  | .iface _ d => uptoBulk d + 1
  | .map entries => uptoBulkEntries entries + 1
  | .held _ => 1
def uptoBulkAll {H : Type} : List (DataW H) → Nat
  | [] => 0
  | d :: r => uptoBulk d + uptoBulkAll r
def uptoBulkEntries {H : Type} : List (Lit × DataW H) → Nat
  | [] => 0
  | x :: r => uptoBulkEntry x + uptoBulkEntries r
def uptoBulkEntry {H : Type} : Lit × DataW H → Nat
  | (.string bytes, d) => bytes.length + uptoBulk d + 1
  | (_, d) => uptoBulk d + 1
 end
def uptoSmall : (H : Type) → List (DataW H) → Bool := fun _ ds => decide (uptoBulkAll ds ≤ 1048576)
def OpenSpec.upto (s : _root_.Go.ChangeSpec) : _root_.Go.OpenSpec := { _root_.Go.OpenSpec.ofChange s with cond := some uptoSmall }

/-- 'laws.FnCopySaves', WHERE WHAT IT READS IS OF BULK AT MOST 1048576: true; the input reads as it did. -/
def fnCopySavesUptoRow : OpenClaim := { program := "ythijnojefeeaoaa", sum := "06cc665aa19cd31a9c0fe16aa3bdd8667b47211238b460fe352a94d0e3260971", func := "loop.example/shorthand/laws.FnCopySaves", spec := "fnCopySaves", unfollowed := true, recurses := true, apart := false, narrowed := true }
def FnCopySavesUptoSaid : Prop := fnCopySavesUptoRow.holds Try.pinned (OpenSpec.upto fnCopySavesSpec)

/-- 'laws.FnBriefsUsed', WHERE WHAT IT READS IS OF BULK AT MOST 1048576: true; the input reads as it did. -/
def fnBriefsUsedUptoRow : OpenClaim := { program := "ythijnojefeeaoaa", sum := "06cc665aa19cd31a9c0fe16aa3bdd8667b47211238b460fe352a94d0e3260971", func := "loop.example/shorthand/laws.FnBriefsUsed", spec := "fnBriefsUsed", unfollowed := true, recurses := true, apart := false, narrowed := true }
def FnBriefsUsedUptoSaid : Prop := fnBriefsUsedUptoRow.holds Try.pinned (OpenSpec.upto fnBriefsUsedSpec)

/-- 'laws.FnExactBriefsUsed', WHERE WHAT IT READS IS OF BULK AT MOST 1048576: true; the input reads as it did. -/
def fnExactBriefsUsedUptoRow : OpenClaim := { program := "ythijnojefeeaoaa", sum := "06cc665aa19cd31a9c0fe16aa3bdd8667b47211238b460fe352a94d0e3260971", func := "loop.example/shorthand/laws.FnExactBriefsUsed", spec := "fnExactBriefsUsed", unfollowed := true, recurses := true, apart := false, narrowed := true }
def FnExactBriefsUsedUptoSaid : Prop := fnExactBriefsUsedUptoRow.holds Try.pinned (OpenSpec.upto fnExactBriefsUsedSpec)

/-- 'laws.FnExactBriefsAdd', WHERE WHAT IT READS IS OF BULK AT MOST 1048576: true; the input reads as it did. -/
def fnExactBriefsAddUptoRow : OpenClaim := { program := "ythijnojefeeaoaa", sum := "06cc665aa19cd31a9c0fe16aa3bdd8667b47211238b460fe352a94d0e3260971", func := "loop.example/shorthand/laws.FnExactBriefsAdd", spec := "fnExactBriefsAdd", unfollowed := true, recurses := true, apart := false, narrowed := true }
def FnExactBriefsAddUptoSaid : Prop := fnExactBriefsAddUptoRow.holds Try.pinned (OpenSpec.upto fnExactBriefsAddSpec)

/-- 'laws.FnCopyShort', WHERE WHAT IT READS IS OF BULK AT MOST 1048576: true; the input reads as it did. -/
def fnCopyShortUptoRow : OpenClaim := { program := "ythijnojefeeaoaa", sum := "06cc665aa19cd31a9c0fe16aa3bdd8667b47211238b460fe352a94d0e3260971", func := "loop.example/shorthand/laws.FnCopyShort", spec := "fnCopyShort", unfollowed := true, recurses := true, apart := false, narrowed := true }
def FnCopyShortUptoSaid : Prop := fnCopyShortUptoRow.holds Try.pinned (OpenSpec.upto fnCopyShortSpec)

/-- 'laws.FnExactCopySaves', WHERE WHAT IT READS IS OF BULK AT MOST 1048576: true; the input reads as it did. -/
def fnExactCopySavesUptoRow : OpenClaim := { program := "ythijnojefeeaoaa", sum := "06cc665aa19cd31a9c0fe16aa3bdd8667b47211238b460fe352a94d0e3260971", func := "loop.example/shorthand/laws.FnExactCopySaves", spec := "fnExactCopySaves", unfollowed := true, recurses := true, apart := false, narrowed := true }
def FnExactCopySavesUptoSaid : Prop := fnExactCopySavesUptoRow.holds Try.pinned (OpenSpec.upto fnExactCopySavesSpec)

/-- 'laws.FnCopyMarks', WHERE WHAT IT READS IS OF BULK AT MOST 1048576: true; the input reads as it did. -/
def fnCopyMarksUptoRow : OpenClaim := { program := "ythijnojefeeaoaa", sum := "06cc665aa19cd31a9c0fe16aa3bdd8667b47211238b460fe352a94d0e3260971", func := "loop.example/shorthand/laws.FnCopyMarks", spec := "fnCopyMarks", unfollowed := true, recurses := true, apart := false, narrowed := true }
def FnCopyMarksUptoSaid : Prop := fnCopyMarksUptoRow.holds Try.pinned (OpenSpec.upto fnCopyMarksSpec)

/-- 'laws.FnCopyRead', WHERE WHAT IT READS IS OF BULK AT MOST 1048576: true; the input reads as it did. -/
def fnCopyReadUptoRow : OpenClaim := { program := "ythijnojefeeaoaa", sum := "06cc665aa19cd31a9c0fe16aa3bdd8667b47211238b460fe352a94d0e3260971", func := "loop.example/shorthand/laws.FnCopyRead", spec := "fnCopyRead", unfollowed := true, recurses := true, apart := false, narrowed := true }
def FnCopyReadUptoSaid : Prop := fnCopyReadUptoRow.holds Try.pinned (OpenSpec.upto fnCopyReadSpec)

/-- 'laws.FnCopyBest', WHERE WHAT IT READS IS OF BULK AT MOST 1048576: true; the input reads as it did. -/
def fnCopyBestUptoRow : OpenClaim := { program := "ythijnojefeeaoaa", sum := "06cc665aa19cd31a9c0fe16aa3bdd8667b47211238b460fe352a94d0e3260971", func := "loop.example/shorthand/laws.FnCopyBest", spec := "fnCopyBest", unfollowed := true, recurses := true, apart := false, narrowed := true }
def FnCopyBestUptoSaid : Prop := fnCopyBestUptoRow.holds Try.pinned (OpenSpec.upto fnCopyBestSpec)

/-- 'laws.FnExactCopyBest', WHERE WHAT IT READS IS OF BULK AT MOST 1048576: true; the input reads as it did. -/
def fnExactCopyBestUptoRow : OpenClaim := { program := "ythijnojefeeaoaa", sum := "06cc665aa19cd31a9c0fe16aa3bdd8667b47211238b460fe352a94d0e3260971", func := "loop.example/shorthand/laws.FnExactCopyBest", spec := "fnExactCopyBest", unfollowed := true, recurses := true, apart := false, narrowed := true }
def FnExactCopyBestUptoSaid : Prop := fnExactCopyBestUptoRow.holds Try.pinned (OpenSpec.upto fnExactCopyBestSpec)

end Rows
end Go.Proofs.Ythijnojefeeaoaa
