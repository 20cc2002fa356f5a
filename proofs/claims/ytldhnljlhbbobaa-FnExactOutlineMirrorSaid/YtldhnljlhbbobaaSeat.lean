/- What of the seat's types reads as what. -/
import Derived.Test.YtldhnljlhbbobaaOpen
import Derived.Test.YtldhnljlhbbobaaProg
import Derived.Test.YtldhnljlhbbobaaChecked
namespace Go.Proofs.Ytldhnljlhbbobaa
open Go.RowKit
theorem Try.own : ownKnob Try.prog.godebug = none := by kernel_rfl
theorem Try.laidOut : laidOutB Try.prog = true := by kernel_rfl
theorem opens_int : Opens Try.prog 3 intS := Opens.int Try.underlying3 (by kernel_rfl)
theorem opens_ints : Opens Try.prog 22 (sliceS intS) := Opens.slice Try.underlying22 (by kernel_rfl) opens_int
theorem opens_rows : Opens Try.prog 26 (sliceS (sliceS intS)) := Opens.slice Try.underlying26 (by kernel_rfl) opens_ints
theorem opens_stroke : Opens Try.prog 57 strokeS := Opens.pair Try.underlying57 (by kernel_rfl) opens_int opens_int rfl rfl
theorem opens_strokes : Opens Try.prog 31 (sliceS strokeS) := Opens.slice Try.underlying31 (by kernel_rfl) opens_stroke
theorem opens_model : Opens Try.prog 39 (pairS (sliceS intS) (sliceS (sliceS intS))) := Opens.pair Try.underlying39 (by kernel_rfl) opens_ints opens_rows rfl rfl
end Go.Proofs.Ytldhnljlhbbobaa
