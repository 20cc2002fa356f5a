/- Valid pages: what the program's and the reference's PageValid return. -/
import Derived.Test.YtigemahbopligaaDoorInts
import Derived.Test.YtigemahbopligaaDoorOutPure
namespace Go.Proofs.YtigemahbopligaaDoor
open Go.RowKit

def placeFrom (n : Int) : Int → List Int → Bool
  | _, [] => true
  | last, x :: r => inB x (last + 1) (n - 1) && placeFrom n x r
def placeOk (n : Int) (p : List Int) : Bool := placeFrom n (-1) p && !p.isEmpty
def pageOk (n : Int) (page : List (List Int)) : Bool := inB n 1 6 && (decide (page.length ≤ 8) && page.all (placeOk n))

set_option maxHeartbeats 400000 in
theorem l6In_any (n lo hi : Int) (w : World) :
    Calls Tryd.prog 49 #[.int .i64 n, .int .i64 lo, .int .i64 hi] w fun e w' => e = .returned (.bool (inB n lo hi)) ∧ w = w' := by
  by_cases h : lo ≤ n
  · go_enter Tryd.func49, Tryd.ntmps49
    go_wp2
    go_ret
    exact ⟨ret_bool (by simp [inB, h]), rfl⟩
  · go_enter Tryd.func49, Tryd.ntmps49
    go_wp2
    go_ret
    exact ⟨ret_bool (by simp [inB]; omega), rfl⟩
end Go.Proofs.YtigemahbopligaaDoor
