/- What the laws' helpers on lists of integers do. -/
import Derived.Test.YthijnojefeeaoaaLib
import Derived.Test.YthijnojefeeaoaaProg
namespace Go.Proofs.Ythijnojefeeaoaa
open Go.RowKit


def szI (n : Nat) (left : Int) : Int := if left - n < 0 then -1 else left - n
def szGo : List Nat → Int → Int
  | [], l => l
  | n :: r, l => if szI n l < 0 then -1 else szGo r (szI n l)
def szRows (rows : List (List Int)) (left : Int) : Int := if left - rows.length < 0 then -1 else szGo (rows.map List.length) (left - rows.length)

set_option maxHeartbeats 400000 in
theorem eqIntS_any (A A' : Option Addr) (n n' c c' lo lo' : Nat) (xs ys : List Int) (w : World) (hx : Rd intS lo w.heap.size w A n xs) (hy : Rd intS lo' w.heap.size w A' n' ys) :
    Calls Try.prog 27 #[.slice A n c, .slice A' n' c'] w fun e w' => e = .returned (.bool (eqD xs ys)) ∧ Below w.heap.size w w' := by
  obtain ⟨e1, e2, e3⟩ := hx
  have E1 := hid e1; clear e1
  have E3 := hid e3; clear e3
  obtain ⟨f1, f2, f3⟩ := hy
  have F1 := hid f1; clear f1
  have F3 := hid f3; clear f3
  by_cases hne : n = n'
  · have h1 : ((n : Int) != (n' : Int)) = false := by simp [hne]
    have HE := hid hne; clear hne
    go_enter Try.func27, Try.ntmps27
    go_wp2
    go_loopw [5] (fun i wr => ∃ k : Nat, k ≤ n ∧ i = .int .i64 k ∧ eqD xs ys = eqD (xs.drop k) (ys.drop k) ∧ Below w.heap.size w wr) (fun i _ => n - (intOf i).toNat)
    case atStart => exact ⟨0, Nat.zero_le _, rfl, by simp, Below.refl _ _⟩
    case round =>
      obtain ⟨k, hk, rfl, htk, hb⟩ := hrel
      have HT := hid htk; clear htk
      by_cases hlt : k < n
      · have hlt' : k < n' := by have := HE.out; omega
        obtain ⟨b, off, rfl, _, hbb, hcx⟩ := E3.out (by omega)
        obtain ⟨b', off', rfl, _, hbb', hcy⟩ := F3.out (by omega)
        have hki : (k : Int) < (n : Int) := by omega
        have hki' : (k : Int) < (n' : Int) := by omega
        have cx := aft_cell hbb (hcx.int hlt)
        have cy := aft_cell hbb' (hcy.int hlt')
        have hD := hid (And.intro (drop_gt (l := xs) (by rw [← E1.out]; exact hlt)) (drop_gt (l := ys) (by rw [← F1.out]; exact hlt')))
        clear hcx hcy
        go_wp2_with fail
        refine wp_region_aft hb (by kernel_rfl) (by kernel_rfl) ?_
        repeat (go_big_quiet_step (fail))
        refine wpQuiet_nil ?_
        rintro _ ⟨⟨w2, hb2⟩, rfl⟩
        clear cx cy hb
        by_cases hxy : gt xs k = gt ys k
        · have hxy' : (gt xs k != gt ys k) = false := by simp [hxy]
          have HXY := hid hxy; clear hxy
          go_wp2
          go_roundw
          case rel => exact ⟨k + 1, by omega, by go_num, by rw [HT.out, hD.out.1, hD.out.2, HXY.out, eqD_cons, eqD_self, Bool.true_and], hb2⟩
          case measure => simp [intOf]; omega
        · have hxy' : (gt xs k != gt ys k) = true := by simp [hxy]
          have HXY := hid hxy; clear hxy
          go_wp2
          go_ret
          exact ⟨ret_bool (by rw [HT.out, hD.out.1, hD.out.2, eqD_cons, eqD_no HXY.out, Bool.false_and]), hb2⟩
      · obtain rfl : k = n := by omega
        go_wp2
        go_ret
        exact ⟨ret_bool (by rw [HT.out, List.drop_eq_nil_of_le (by rw [E1.out]; omega), List.drop_eq_nil_of_le (by rw [← F1.out, ← HE.out]; omega)]; rfl), hb⟩
  · have h1 : ((n : Int) != (n' : Int)) = true := by simp; omega
    have hxy : xs ≠ ys := fun h => hne (by rw [E1.out, F1.out, h])
    have HN := hid hne; clear hne
    have HXY := hid hxy; clear hxy
    go_enter Try.func27, Try.ntmps27
    go_wp2
    go_ret
    exact ⟨ret_bool (by rw [eqD_no HXY.out]), Below.refl _ _⟩
end Go.Proofs.Ythijnojefeeaoaa
