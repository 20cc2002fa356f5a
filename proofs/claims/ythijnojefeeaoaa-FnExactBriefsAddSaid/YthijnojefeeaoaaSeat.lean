/- What of the seat's types reads as what. -/
import Derived.Test.YthijnojefeeaoaaOpen
import Derived.Test.YthijnojefeeaoaaProg
import Derived.Test.YthijnojefeeaoaaChecked
namespace Go.Proofs.Ythijnojefeeaoaa
open Go.RowKit
theorem Try.own : ownKnob Try.prog.godebug = none := by kernel_rfl
theorem Try.laidOut : laidOutB Try.prog = true := by kernel_rfl
theorem opens_int : Opens Try.prog 3 intS := Opens.int Try.underlying3 (by kernel_rfl)
theorem opens_ints : Opens Try.prog 28 (sliceS intS) := Opens.slice Try.underlying28 (by kernel_rfl) opens_int
theorem opens_byte : Opens Try.prog 5 byteS := Opens.byte Try.underlying5 (by kernel_rfl)
theorem opens_bytes : Opens Try.prog 22 (sliceS byteS) := Opens.slice Try.underlying22 (by kernel_rfl) opens_byte
theorem opens_string : Opens Try.prog 9 strS := Opens.str Try.underlying9 (by kernel_rfl)
theorem opens_strings : Opens Try.prog 24 (sliceS strS) := Opens.slice Try.underlying24 (by kernel_rfl) opens_string
theorem opens_brief : Opens Try.prog 48 briefS := Opens.pair Try.underlying48 (by kernel_rfl) opens_string opens_strings rfl rfl
theorem opens_briefs : Opens Try.prog 38 (sliceS briefS) := Opens.slice Try.underlying38 (by kernel_rfl) opens_brief
end Go.Proofs.Ythijnojefeeaoaa
