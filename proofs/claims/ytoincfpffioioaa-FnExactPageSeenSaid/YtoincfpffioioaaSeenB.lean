/- Bounds on the pages that PageSeen returns. -/
import Derived.Test.YtoincfpffioioaaForceB
import Derived.Test.YtoincfpffioioaaSeenPure
namespace Go.Proofs.Ytoincfpffioioaa
theorem seenV_bd (l : List Int) (r page : List (List Int)) : ((seenV l r page).getD []).length ≤ 1048576 ∧ (∀ q ∈ (seenV l r page).getD [], q.length ≤ 1048576) ∧ sumLen (((seenV l r page).getD []).map List.length) ≤ 1048576 :=
  rows_bd (seenV_ok l r page).1 fun q hq => ((seenV_ok l r page).2 q hq).2
end Go.Proofs.Ytoincfpffioioaa
