/- What of the seat's types reads as what. -/
import Derived.Test.YtfjoininagdlcaaOpen
import Derived.Test.YtfjoininagdlcaaProg
import Derived.Test.YtfjoininagdlcaaChecked
namespace Go.Proofs.Ytfjoininagdlcaa
open Go.RowKit
theorem Try.own : ownKnob Try.prog.godebug = none := by kernel_rfl
theorem Try.laidOut : laidOutB Try.prog = true := by kernel_rfl
theorem opens_int : Opens Try.prog 3 intS := Opens.int Try.underlying3 (by kernel_rfl)
theorem opens_ints : Opens Try.prog 23 (sliceS intS) := Opens.slice Try.underlying23 (by kernel_rfl) opens_int
theorem opens_rows : Opens Try.prog 24 (sliceS (sliceS intS)) := Opens.slice Try.underlying24 (by kernel_rfl) opens_ints
theorem opens_byte : Opens Try.prog 5 byteS := Opens.byte Try.underlying5 (by kernel_rfl)
theorem opens_bytes : Opens Try.prog 22 (sliceS byteS) := Opens.slice Try.underlying22 (by kernel_rfl) opens_byte
end Go.Proofs.Ytfjoininagdlcaa
