/- Copies, marks and looks of rows of rows: what the functions return. -/
import Derived.Test.YthijnojefeeaoaaNest
import Derived.Test.YthijnojefeeaoaaInts
import Derived.Deep.LoopGhost
namespace Go.Proofs.Ythijnojefeeaoaa
open Go.RowKit
/-- k, k + 1, .. -/
def marksI (k : Int) (n : Nat) : List Int := (List.range n).map fun (j : Nat) => k + (j : Int)
theorem marksI_len (k : Int) (n : Nat) : (marksI k n).length = n := by simp [marksI]
theorem marksI_gt {k : Int} {n j : Nat} (h : j < n) : gt (marksI k n) j = k + j := by simp [gt, marksI, h]
def sumLen : List Nat → Nat
  | [] => 0
  | n :: r => n + sumLen r
/-- The marks of rows of these lengths. -/
def marksSS (k : Int) : List Nat → List (List Int)
  | [] => []
  | n :: r => marksI k n :: marksSS (k + n) r
theorem marksSS_len (k : Int) (ns : List Nat) : (marksSS k ns).map List.length = ns := by
  induction ns generalizing k with
  | nil => rfl
  | cons n r ih => rw [marksSS, List.map_cons, ih, marksI_len]
set_option maxHeartbeats 1000000 in
theorem markIntS_row (b n c : Nat) (e : TypeId) (l : List Int) (k0 : Int) (w : World) (hr : RowAt w e (b, c, l)) (hnl : n = l.length) (hn : n ≤ 1048576) (h0 : 0 ≤ k0) (h1 : k0 ≤ 1099511627776) :
    Calls Try.prog 32 #[.slice (some ⟨b, 0, none⟩) n c, .int .i64 k0] w fun r w' => r = .returned (.int .i64 (k0 + n)) ∧ RowAt w' e (b, c, marksI k0 n) ∧ Chg (fun k => k = b) w w' := by
  obtain ⟨cur, hc, hcap, hsz, h63, _⟩ := hr
  have hcap' : n ≤ c := by rw [hnl]; exact hcap
  have hsz' : n ≤ cur.size := by rw [hnl]; exact hsz
  have HF := hid (show ∃ cur : Array Value, w.heap[b]? = some (.cells cur e (0, 0)) ∧ n ≤ cur.size ∧ ∀ j, j < 0 → cur[j]? = some (.int .i64 (k0 + j)) from ⟨cur, hc, hsz', fun j hj => absurd hj (by omega)⟩)
  clear hc hsz hsz' hcap h63 hnl
  go_enter Try.func32, Try.ntmps32
  go_wp2_with fail
  go_loopg [1, 5] n (fun gk k i wr => ∃ (j : Nat) (m : Int), j + gk = n ∧ i = .int .i64 j ∧ k = .int .i64 m ∧ m = k0 + j ∧ (∃ cur : Array Value, wr.heap[b]? = some (.cells cur e (0, 0)) ∧ n ≤ cur.size ∧ ∀ q, q < j → cur[q]? = some (.int .i64 (k0 + q))) ∧ Chg (fun k => k = b) w wr)
  case atStart => exact ⟨0, k0, Nat.zero_add _, rfl, rfl, by simp, HF.out, Chg.refl _ _⟩
  case round =>
    obtain ⟨j, m, hjg, rfl, rfl, hm, ⟨cur, hcur, hsz, hel⟩, hch⟩ := hrel
    have HJG := hid hjg
    have HM := hid hm
    have hm1 : m ≤ 2199023255552 := by omega
    have hm0 : 0 ≤ m := by omega
    have hj : j ≤ n := by omega
    clear hjg hm
    by_cases hlt : j < n
    case pos =>
      have hji : (j : Int) < (n : Int) := by omega
      have c1 : wr.cell? ⟨b, j, none⟩ = some (cur[j]'(by omega)) := by rw [cell_of_row wr b j cur e (0, 0) hcur]; exact Array.getElem?_eq_getElem (by omega)
      have f1 := frozen_of_row wr b j cur e hcur
      have h2 := heap_setCell_same wr b j cur e (.int .i64 m) hcur
      have HC := hid (And.intro hcur h2)
      clear hcur h2
      obtain ⟨u, hu⟩ : ∃ u, cur[j]'(by omega) = u := ⟨_, rfl⟩
      rw [hu] at c1
      clear hu
      go_wp2_with fail
      go_roundg (gk - 1)
      case measure => have := HJG.out; omega
      case rel =>
        refine ⟨j + 1, m + 1, by have := HJG.out; omega, by go_num, rfl, by rw [HM.out]; omega, ⟨_, HC.out.2, by simpa using hsz, fun q hq => ?_⟩, hch.set rfl _⟩
        rw [Array.getElem?_setIfInBounds]
        by_cases e1 : j = q
        · subst e1
          rw [if_pos rfl, if_pos (by omega), HM.out]
        · rw [if_neg e1]
          exact hel q (by omega)
    case neg =>
      obtain rfl : j = n := by omega
      go_wp2_with fail
      go_ret
      exact ⟨ret_int HM.out, ⟨cur, hcur, by rw [marksI_len]; exact hcap', by rw [marksI_len]; exact hsz, by rw [marksI_len]; omega, fun q hq => by rw [marksI_len] at hq; rw [marksI_gt hq]; exact hel q hq⟩, hch⟩
set_option maxHeartbeats 1000000 in
theorem heldIntS_any (A : Option Addr) (n c lo : Nat) (k0 : Int) (w : World) (hx : Rd intS lo w.heap.size w A n (marksI k0 n)) (hn : n ≤ 1048576) (h0 : 0 ≤ k0) (h1 : k0 ≤ 1099511627776) :
    Calls Try.prog 33 #[.slice A n c, .int .i64 k0] w fun r w' => r = .returned (.int .i64 (k0 + n)) ∧ w = w' := by
  have E3 := hid hx.2.2
  clear hx
  go_enter Try.func33, Try.ntmps33
  go_wp2_with fail
  go_loopg [1, 5] n (fun gk k i wr => ∃ (j : Nat) (m : Int), j + gk = n ∧ i = .int .i64 j ∧ k = .int .i64 m ∧ m = k0 + j ∧ w = wr)
  case atStart => exact ⟨0, k0, Nat.zero_add _, rfl, rfl, by simp, rfl⟩
  case round =>
    obtain ⟨j, m, hjg, rfl, rfl, hm, rfl⟩ := hrel
    have HJG := hid hjg
    have HM := hid hm
    have hm1 : m ≤ 2199023255552 := by omega
    have hm0 : 0 ≤ m := by omega
    have hj : j ≤ n := by omega
    clear hjg hm
    by_cases hlt : j < n
    case pos =>
      have hji : (j : Int) < (n : Int) := by omega
      obtain ⟨b, off, rfl, _, hbb, hcx⟩ := E3.out (by omega)
      have cx := hcx.int hlt
      rw [marksI_gt hlt, ← HM.out] at cx
      have t1 : (m != m) = false := by simp
      clear hcx
      go_wp2_with fail
      go_roundg (gk - 1)
      case measure => have := HJG.out; omega
      case rel => exact ⟨j + 1, m + 1, by have := HJG.out; omega, by go_num, rfl, by rw [HM.out]; omega, rfl⟩
    case neg =>
      obtain rfl : j = n := by omega
      go_wp2_with fail
      go_ret
      exact ⟨ret_int HM.out, rfl⟩
end Go.Proofs.Ythijnojefeeaoaa
