/- What the laws' helpers on lists of integers do. -/
import Derived.Test.YtigemahbopligaaLib
import Derived.Test.YtigemahbopligaaProg
namespace Go.Proofs.Ytigemahbopligaa
open Go.RowKit


def szI (n : Nat) (left : Int) : Int := if left - n < 0 then -1 else left - n
def szGo : List Nat → Int → Int
  | [], l => l
  | n :: r, l => if szI n l < 0 then -1 else szGo r (szI n l)
def szRows (rows : List (List Int)) (left : Int) : Int := if left - rows.length < 0 then -1 else szGo (rows.map List.length) (left - rows.length)

end Go.Proofs.Ytigemahbopligaa
