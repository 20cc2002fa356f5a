/- What of the seat's types reads as what. -/
import Derived.Test.YtigemahbopligaaDoorOpen
import Derived.Test.YtigemahbopligaaDoorProg
import Derived.Test.YtigemahbopligaaDoorChecked
namespace Go.Proofs.YtigemahbopligaaDoor
open Go.RowKit
theorem Tryd.own : ownKnob Tryd.prog.godebug = none := by kernel_rfl
theorem Tryd.laidOut : laidOutB Tryd.prog = true := by kernel_rfl
theorem opens_int : Opens Tryd.prog 3 intS := Opens.int Tryd.underlying3 (by kernel_rfl)
theorem opens_ints : Opens Tryd.prog 41 (sliceS intS) := Opens.slice Tryd.underlying41 (by kernel_rfl) opens_int
theorem opens_stroke : Opens Tryd.prog 48 strokeS := Opens.pair Tryd.underlying48 (by kernel_rfl) opens_int opens_int rfl rfl
theorem opens_strokes : Opens Tryd.prog 22 (sliceS strokeS) := Opens.slice Tryd.underlying22 (by kernel_rfl) opens_stroke
theorem opens_byte : Opens Tryd.prog 5 byteS := Opens.byte Tryd.underlying5 (by kernel_rfl)
theorem opens_bytes : Opens Tryd.prog 31 (sliceS byteS) := Opens.slice Tryd.underlying31 (by kernel_rfl) opens_byte
end Go.Proofs.YtigemahbopligaaDoor
