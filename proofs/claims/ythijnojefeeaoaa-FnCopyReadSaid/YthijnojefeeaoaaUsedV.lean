/- The used briefs: what BriefsUsed returns, in plain words. -/
import Derived.Test.YthijnojefeeaoaaCopy5
namespace Go.Proofs.Ythijnojefeeaoaa
open Go.RowKit
def RetI (w : World) (xs : List Int) (e : Ending) (w' : World) : Prop :=
  ∃ A c, e = .returned (.slice A xs.length c) ∧ OwnR intS w.heap.size w' 3 (.slice A xs.length c) xs ∧ Below w.heap.size w w'
def usedV (bs : List BriefT) (ws : List ByteArray) : List Int := match deskOk bs ws with
  | true => (usedN bs ws).map fun j : Nat => (j : Int)
  | false => []
theorem usedV_len (bs : List BriefT) (ws : List ByteArray) : (usedV bs ws).length ≤ 1048576 := by
  unfold usedV
  cases h : deskOk bs ws with
  | false => exact Nat.zero_le _
  | true =>
    have h8 := (desk_len h).1
    show ((usedN bs ws).map _).length ≤ _
    rw [List.length_map]
    unfold usedN
    have := List.length_filter_le (fun k => (bestV bs ws).contains (gt bs k).1) (List.range bs.length)
    rw [List.length_range] at this
    omega
end Go.Proofs.Ythijnojefeeaoaa
