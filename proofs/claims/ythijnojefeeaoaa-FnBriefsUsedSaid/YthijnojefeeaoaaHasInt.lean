/- hasInt on rows of numbers. -/
import Derived.Test.YthijnojefeeaoaaPage
import Derived.Deep.LoopGhost
namespace Go.Proofs.Ythijnojefeeaoaa
open Go.RowKit
def hasJ (l : List Int) (x : Int) : Bool := l.any fun y => eqD y x
theorem hasJ_iff {l : List Int} {x : Int} : hasJ l x = true ↔ x ∈ l := by
  simp only [hasJ, List.any_eq_true, eqD_iff]
  exact ⟨fun ⟨q, h, e⟩ => e ▸ h, fun h => ⟨x, h, rfl⟩⟩
theorem hasJ_drop {l : List Int} {k : Nat} (h : k < l.length) (x : Int) : hasJ (l.drop k) x = (eqD (gt l k) x || hasJ (l.drop (k + 1)) x) := by
  rw [drop_gt h]; rfl
set_option maxHeartbeats 400000 in
theorem hasInt_any (A : Option Addr) (n c lo : Nat) (l : List Int) (x : Int) (w : World) (hx : Rd intS lo w.heap.size w A n l) :
    Calls Try.prog 21 #[.slice A n c, .int .i64 x] w fun e w' => e = .returned (.bool (hasJ l x)) ∧ w = w' := by
  have E1 := hid hx.1
  have E3 := hid hx.2.2
  have h63 := hx.2.1
  clear hx
  go_enter Try.func21, Try.ntmps21
  go_wp2
  go_loopg [5] n (fun gk i wr => ∃ k : Nat, k + gk = n ∧ i = .int .i64 k ∧ hasJ l x = hasJ (l.drop k) x ∧ w = wr)
  case atStart => exact ⟨0, Nat.zero_add _, rfl, by simp, rfl⟩
  case round =>
    obtain ⟨k, hkg, rfl, hh, rfl⟩ := hrel
    have HKG := hid hkg
    have HH := hid hh
    have hk : k ≤ n := by omega
    clear hkg hh
    by_cases hlt : k < n
    case neg =>
      obtain rfl : k = n := by omega
      have HF := hid (show hasJ l x = false by rw [HH.out, List.drop_eq_nil_of_le (by rw [E1.out]; omega)]; rfl)
      go_wp2
      go_ret
      exact ⟨ret_bool HF.out.symm, rfl⟩
    case pos =>
      have hki : (k : Int) < (n : Int) := by omega
      obtain ⟨b, off, rfl, _, hbb, hcx⟩ := E3.out (by omega)
      have cx := hcx.int hlt
      have hs := hid (hasJ_drop (l := l) (k := k) (by rw [← E1.out]; exact hlt) x)
      clear hcx
      obtain ⟨y, hy⟩ : ∃ y, gt l k = y := ⟨_, rfl⟩
      rw [hy] at cx
      have HY := hid hy
      clear hy
      by_cases e1 : y = x
      case pos =>
        have HF := hid (show hasJ l x = true by rw [HH.out, hs.out, HY.out, e1, eqD_self]; rfl)
        subst e1
        go_wp2
        go_ret
        exact ⟨ret_bool HF.out.symm, rfl⟩
      case neg =>
        have t1 : (y == x) = false := by simpa using e1
        have HF := hid (show hasJ l x = hasJ (l.drop (k + 1)) x by rw [HH.out, hs.out, HY.out, eqD_no e1]; rfl)
        clear e1
        go_wp2
        go_roundg (gk - 1)
        case measure => have := HKG.out; omega
        case rel => exact ⟨k + 1, by have := HKG.out; omega, by go_num, HF.out, rfl⟩
end Go.Proofs.Ythijnojefeeaoaa
