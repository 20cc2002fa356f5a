/- What the laws' marking of lists of strokes does. -/
import Derived.Test.YtigemahbopligaaStrokes
import Derived.Test.YtigemahbopligaaOwn
namespace Go.Proofs.Ytigemahbopligaa
open Go.RowKit

/-- k, k + 1, .. as n strokes. -/
def marksS (k : Int) (n : Nat) : List (Int × Int) := (List.range n).map fun (j : Nat) => (k + 2 * (j : Int), k + 2 * (j : Int) + 1)
theorem marksS_len (k : Int) (n : Nat) : (marksS k n).length = n := by simp [marksS]
theorem marksS_gt {k : Int} {n j : Nat} (h : j < n) : gt (marksS k n) j = (k + 2 * j, k + 2 * j + 1) := by simp [gt, marksS, h]

theorem toStrokeS_own (A : Option Addr) (n c lo : Nat) (xs : List (Int × Int)) (w : World) (hx : Rd strokeS lo w.heap.size w A n xs) (hn : n ≤ 1048576) :
    Calls Try.prog 12 #[.slice A n c] w fun e w' => ∃ g, e = .returned (.slice (some ⟨g, 0, none⟩) n n) ∧ OwnR strokeS w.heap.size w' 64 (.slice (some ⟨g, 0, none⟩) n n) xs ∧ Below w.heap.size w w' :=
  (toStrokeS_fill A n c lo xs w hx hn).mono fun _ _ ⟨g, h1, h2, h3, h4, h5⟩ => ⟨g, h1, OwnR.filled h2 h5 h3 (Nat.le_refl _) h4.size (.inr h3), h4⟩
set_option maxHeartbeats 1000000 in
theorem markStrokeS_any (A : Option Addr) (n c base : Nat) (e : TypeId) (xs : List (Int × Int)) (k0 : Int) (w : World) (hx : OwnR strokeS base w e (.slice A n c) xs) (hn : n ≤ 1048576) (h0 : 0 ≤ k0) (h1 : k0 ≤ 1048576) :
    Calls Try.prog 15 #[.slice A n c, .int .i64 k0] w fun r w' => r = .returned (.int .i64 (k0 + 2 * n)) ∧ Rd strokeS base w.heap.size w' A n (marksS k0 n) ∧ Chg (fun b => (Value.slice A n c).ownBlock = some b) w w' := by
  by_cases hz : n = 0
  · subst hz
    go_enter Try.func15, Try.ntmps15
    go_wp2_with fail
    go_loop [1, 5] (fun k i => i = .int .i64 0 ∧ k = .int .i64 k0) (fun _ _ => 0)
    case atStart => exact ⟨rfl, rfl⟩
    case round =>
      obtain ⟨rfl, rfl⟩ := hrel
      go_wp2
      go_ret
      exact ⟨ret_int (by simp), Rd.nil _ _ _ _ _, Chg.refl _ _⟩
  · obtain ⟨g, rfl, hg1, hg2, hnl, cur, hcur, hsz⟩ := hx.blk (by omega)
    have HF := hid (show Filled strokeS g g w g e n 0 (marksS k0 n) from ⟨cur, hcur, hsz, (marksS_len k0 n).symm, by omega, fun j hj => absurd hj (by omega)⟩)
    clear hx hcur hsz hnl hz
    go_enter Try.func15, Try.ntmps15
    go_wp2_with fail
    go_loopw [1, 5] (fun k i wr => ∃ (j : Nat) (m : Int), j ≤ n ∧ i = .int .i64 j ∧ k = .int .i64 m ∧ m = k0 + 2 * j ∧ Filled strokeS g g wr g e n j (marksS k0 n) ∧ Chg (fun b => b = g) w wr) (fun _ i _ => n - (intOf i).toNat)
    case atStart => exact ⟨0, k0, Nat.zero_le _, rfl, rfl, by simp, HF.out, Chg.refl _ _⟩
    case round =>
      obtain ⟨j, m, hj, rfl, rfl, hm, hF, hc⟩ := hrel
      have HM := hid hm
      have hm1 : m ≤ 4194304 := by omega
      have hm2 : 0 ≤ m := by omega
      clear hm
      by_cases hlt : j < n
      · obtain ⟨⟨v, c1⟩, f1⟩ := hF.at_ (i := j * 2) (by show j * 2 < n * 2; omega)
        obtain ⟨⟨v', c2⟩, f2⟩ := hF.at_ (i := j * 2 + 1) (by show j * 2 + 1 < n * 2; omega)
        go_wp2_with fail
        go_roundw
        case rel => exact ⟨j + 1, m + 1 + 1, by omega, by go_num, rfl, by rw [HM.out]; omega, hF.set2 rfl hlt (by rw [marksS_gt hlt]; exact ⟨by rw [HM.out]; rfl, by rw [HM.out]; rfl⟩) (.inr (Nat.le_refl _)), (hc.set rfl _).set rfl _⟩
        case measure => simp [intOf]; omega
      · obtain rfl : j = n := by omega
        go_wp2_with fail
        go_ret
        exact ⟨ret_int HM.out, hF.done hg1 hg2 hg1 (Nat.le_of_lt hg2), hc.wide fun k hk => by rw [hk]; rfl⟩
set_option maxHeartbeats 1000000 in
theorem heldStrokeS_any (A : Option Addr) (n c lo : Nat) (k0 : Int) (w : World) (hx : Rd strokeS lo w.heap.size w A n (marksS k0 n)) (hn : n ≤ 1048576) (h0 : 0 ≤ k0) (h1 : k0 ≤ 1048576) :
    Calls Try.prog 16 #[.slice A n c, .int .i64 k0] w fun r w' => r = .returned (.int .i64 (k0 + 2 * n)) ∧ w = w' := by
  obtain ⟨e1, e2, e3⟩ := hx
  have E3 := hid e3; clear e3 e1
  go_enter Try.func16, Try.ntmps16
  go_wp2_with fail
  go_loop [1, 5] (fun k i => ∃ (j : Nat) (m : Int), j ≤ n ∧ i = .int .i64 j ∧ k = .int .i64 m ∧ m = k0 + 2 * j) (fun _ i => n - (intOf i).toNat)
  case atStart => exact ⟨0, k0, Nat.zero_le _, rfl, rfl, by simp⟩
  case round =>
    obtain ⟨j, m, hj, rfl, rfl, hm⟩ := hrel
    have HM := hid hm
    have hm1 : m ≤ 4194304 := by omega
    have hm2 : 0 ≤ m := by omega
    clear hm
    by_cases hlt : j < n
    · obtain ⟨b, off, rfl, _, hbb, hcx⟩ := E3.out (by omega)
      obtain ⟨c1, c2⟩ := hcx.stroke hlt
      rw [marksS_gt hlt] at c1 c2
      simp only [← HM.out] at c1 c2
      have t1 : (m != m) = false := by simp
      have t2 : (m + 1 != m + 1) = false := by simp
      clear hcx
      go_wp2_with fail
      go_round
      case rel => exact ⟨j + 1, m + 1 + 1, by omega, by go_num, rfl, by rw [HM.out]; omega⟩
      case measure => simp [intOf]; omega
    · obtain rfl : j = n := by omega
      go_wp2_with fail
      go_ret
      exact ⟨ret_int HM.out, rfl⟩
end Go.Proofs.Ytigemahbopligaa
