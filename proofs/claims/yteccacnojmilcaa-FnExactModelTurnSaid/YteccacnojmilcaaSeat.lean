/- What of the seat's types reads as what. -/
import Derived.Test.YteccacnojmilcaaOpen
import Derived.Test.YteccacnojmilcaaProg
import Derived.Test.YteccacnojmilcaaChecked
namespace Go.Proofs.Yteccacnojmilcaa
open Go.RowKit
theorem Try.own : ownKnob Try.prog.godebug = none := by kernel_rfl
theorem Try.laidOut : laidOutB Try.prog = true := by kernel_rfl
theorem opens_int : Opens Try.prog 3 intS := Opens.int Try.underlying3 (by kernel_rfl)
theorem opens_ints : Opens Try.prog 34 (sliceS intS) := Opens.slice Try.underlying34 (by kernel_rfl) opens_int
theorem opens_rows : Opens Try.prog 22 (sliceS (sliceS intS)) := Opens.slice Try.underlying22 (by kernel_rfl) opens_ints
theorem opens_model : Opens Try.prog 39 (pairS (sliceS intS) (sliceS (sliceS intS))) := Opens.pair Try.underlying39 (by kernel_rfl) opens_ints opens_rows rfl rfl
theorem opens_byte : Opens Try.prog 5 byteS := Opens.byte Try.underlying5 (by kernel_rfl)
theorem opens_bytes : Opens Try.prog 29 (sliceS byteS) := Opens.slice Try.underlying29 (by kernel_rfl) opens_byte
end Go.Proofs.Yteccacnojmilcaa
