/- What of the seat's types reads as what. -/
import Derived.Test.YtigemahbopligaaOpen
import Derived.Test.YtigemahbopligaaProg
import Derived.Test.YtigemahbopligaaChecked
namespace Go.Proofs.Ytigemahbopligaa
open Go.RowKit
theorem Try.own : ownKnob Try.prog.godebug = none := by kernel_rfl
theorem Try.laidOut : laidOutB Try.prog = true := by kernel_rfl
theorem opens_int : Opens Try.prog 3 intS := Opens.int Try.underlying3 (by kernel_rfl)
theorem opens_ints : Opens Try.prog 108 (sliceS intS) := Opens.slice Try.underlying108 (by kernel_rfl) opens_int
theorem opens_stroke : Opens Try.prog 66 strokeS := Opens.pair Try.underlying66 (by kernel_rfl) opens_int opens_int rfl rfl
theorem opens_strokes : Opens Try.prog 22 (sliceS strokeS) := Opens.slice Try.underlying22 (by kernel_rfl) opens_stroke
theorem opens_byte : Opens Try.prog 5 byteS := Opens.byte Try.underlying5 (by kernel_rfl)
theorem opens_bytes : Opens Try.prog 33 (sliceS byteS) := Opens.slice Try.underlying33 (by kernel_rfl) opens_byte
theorem opens_string : Opens Try.prog 9 strS := Opens.str Try.underlying9 (by kernel_rfl)
theorem opens_strings : Opens Try.prog 45 (sliceS strS) := Opens.slice Try.underlying45 (by kernel_rfl) opens_string
theorem opens_sign : Opens Try.prog 98 signS := Opens.pair Try.underlying98 (by kernel_rfl) opens_string opens_stroke rfl rfl
theorem opens_signs : Opens Try.prog 52 (sliceS signS) := Opens.slice Try.underlying52 (by kernel_rfl) opens_sign
theorem opens_written : Opens Try.prog 84 writtenS := Opens.pair Try.underlying84 (by kernel_rfl) opens_strokes opens_int rfl rfl
theorem opens_writtens : Opens Try.prog 37 (sliceS writtenS) := Opens.slice Try.underlying37 (by kernel_rfl) opens_written
end Go.Proofs.Ytigemahbopligaa
