/- Valid pages: what the program's and the reference's PageValid return. -/
import Derived.Test.YtigemahbopligaaInts
import Derived.Test.YtigemahbopligaaOutPure
namespace Go.Proofs.Ytigemahbopligaa
open Go.RowKit

def placeFrom (n : Int) : Int → List Int → Bool
  | _, [] => true
  | last, x :: r => inB x (last + 1) (n - 1) && placeFrom n x r
def placeOk (n : Int) (p : List Int) : Bool := placeFrom n (-1) p && !p.isEmpty
def pageOk (n : Int) (page : List (List Int)) : Bool := inB n 1 6 && (decide (page.length ≤ 8) && page.all (placeOk n))

set_option maxHeartbeats 400000 in
theorem l6In_any (n lo hi : Int) (w : World) :
    Calls Try.prog 39 #[.int .i64 n, .int .i64 lo, .int .i64 hi] w fun e w' => e = .returned (.bool (inB n lo hi)) ∧ w = w' := by
  by_cases h : lo ≤ n
  · go_enter Try.func39, Try.ntmps39
    go_wp2
    go_ret
    exact ⟨ret_bool (by simp [inB, h]), rfl⟩
  · go_enter Try.func39, Try.ntmps39
    go_wp2
    go_ret
    exact ⟨ret_bool (by simp [inB]; omega), rfl⟩
end Go.Proofs.Ytigemahbopligaa
