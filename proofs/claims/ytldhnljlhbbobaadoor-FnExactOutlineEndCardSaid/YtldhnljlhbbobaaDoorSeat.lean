/- What of the seat's types reads as what. -/
import Derived.Test.YtldhnljlhbbobaaDoorOpen
import Derived.Test.YtldhnljlhbbobaaDoorProg
import Derived.Test.YtldhnljlhbbobaaDoorChecked
namespace Go.Proofs.YtldhnljlhbbobaaDoor
open Go.RowKit
theorem Tryd.own : ownKnob Tryd.prog.godebug = none := by kernel_rfl
theorem Tryd.laidOut : laidOutB Tryd.prog = true := by kernel_rfl
theorem opens_int : Opens Tryd.prog 3 intS := Opens.int Tryd.underlying3 (by kernel_rfl)
theorem opens_ints : Opens Tryd.prog 31 (sliceS intS) := Opens.slice Tryd.underlying31 (by kernel_rfl) opens_int
theorem opens_stroke : Opens Tryd.prog 37 strokeS := Opens.pair Tryd.underlying37 (by kernel_rfl) opens_int opens_int rfl rfl
theorem opens_strokes : Opens Tryd.prog 22 (sliceS strokeS) := Opens.slice Tryd.underlying22 (by kernel_rfl) opens_stroke
end Go.Proofs.YtldhnljlhbbobaaDoor
