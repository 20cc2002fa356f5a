/- What of the seat's types reads as what. -/
import Derived.Test.YtoincfpffioioaaOpen
import Derived.Test.YtoincfpffioioaaProg
import Derived.Test.YtoincfpffioioaaChecked
namespace Go.Proofs.Ytoincfpffioioaa
open Go.RowKit
theorem Try.own : ownKnob Try.prog.godebug = none := by kernel_rfl
theorem Try.laidOut : laidOutB Try.prog = true := by kernel_rfl
theorem opens_int : Opens Try.prog 3 intS := Opens.int Try.underlying3 (by kernel_rfl)
theorem opens_ints : Opens Try.prog 22 (sliceS intS) := Opens.slice Try.underlying22 (by kernel_rfl) opens_int
theorem opens_rows : Opens Try.prog 23 (sliceS (sliceS intS)) := Opens.slice Try.underlying23 (by kernel_rfl) opens_ints
theorem opens_model : Opens Try.prog 25 (pairS (sliceS intS) (sliceS (sliceS intS))) := Opens.pair Try.underlying25 (by kernel_rfl) opens_ints opens_rows rfl rfl
end Go.Proofs.Ytoincfpffioioaa
