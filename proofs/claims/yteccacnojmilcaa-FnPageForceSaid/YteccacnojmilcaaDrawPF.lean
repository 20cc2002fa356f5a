/- DrawPageForce: a number, a page, a place and a word. -/
import Derived.Test.YteccacnojmilcaaDrawPg
namespace Go.Proofs.Yteccacnojmilcaa
open Go.RowKit
set_option maxRecDepth 100000 in
set_option maxHeartbeats 1000000 in
theorem DrawPageForce_any (A : Option Addr) (n c : Nat) (l : List UInt8) (w : World) (hnc : n ≤ c) (hx : Rd byteS 0 w.heap.size w A n l) :
    Calls Try.prog 15 #[.slice A n c] w fun e w' => ∃ (N : Nat) (D : Option Addr) (dd : Nat) (rows : List (List Int)) (a x : Int), e = .returned (.tuple #[.int .i64 N, .slice D (List.length rows) dd, .int .i64 a, .int .i64 x]) ∧ 1 ≤ N ∧ N ≤ 5 ∧ Rd (sliceS intS) 0 w'.heap.size w' D rows.length rows ∧ rows.length ≤ 5 ∧ (∀ r ∈ rows, r.length ≤ 6) ∧ -1 ≤ a ∧ a ≤ 5 ∧ -1 ≤ x ∧ x ≤ 5 ∧ Below w.heap.size w w' := by
  have HX := hid hx
  clear hx
  go_enter Try.func15, Try.ntmps15
  go_wp2_with fail
  refine (l6Open_any A n c l w hnc HX.out).mono ?_
  rintro e w1 ⟨rfl, hr1, hb1, hs1⟩
  have HR1 := hid hr1
  have HB1 := hid hb1
  have HS1 := hid hs1
  clear hr1 hb1 hs1
  go_wp2_with fail
  refine (pick_any _ _ 0 5 HR1.out (by omega) (by omega) (by omega)).mono ?_
  rintro e w2 ⟨v, rfl, hv0, hv1, hr2, hc2⟩
  obtain ⟨v, rfl⟩ := Int.eq_ofNat_of_zero_le hv0
  have hv2 := hv1 (by omega)
  have HR2 := hid hr2
  have HC2 := hid hc2
  clear hr2 hc2 hv1
  obtain ⟨N, hN⟩ : ∃ N : Nat, 1 + (v : Int) = (N : Int) := ⟨v + 1, by omega⟩
  have hN1 : 1 ≤ N := by omega
  have hN5 : N ≤ 5 := by omega
  go_wp2_with fail
  refine (l92Page_any _ N 5 _ _ HR2.out (by omega) (by omega) hN1 (by omega)).mono ?_
  rintro e w3 ⟨D, dd, rows, p3, rfl, hrd3, hrl, hr6, hp3, hr3, hc3⟩
  have HRD := hid hrd3
  have HR3 := hid hr3
  have HC3 := hid (HC2.out.trans (hc3.wide (fun k hk => hk)))
  have H6 := hid hr6
  have hs3 := hc3.size
  clear hrd3 hr3 hc3 hr6
  go_wp2_with fail
  refine (l92At_any _ rows.length _ p3 HR3.out (by omega) (by omega)).mono ?_
  rintro e w4 ⟨a, p4, rfl, ha0, ha1, hp4, hr4, hc4⟩
  have HR4 := hid hr4
  have HC4 := hid hc4
  clear hr4 hc4
  go_wp2_with fail
  refine (pick_any _ _ p4 N HR4.out (by omega) (by omega) (by omega)).mono ?_
  rintro e w5 ⟨x, rfl, hx0, hx1, hr5, hc5⟩
  have hx2 := hx1 (by omega)
  have HR5 := hid hr5
  have HC5 := hid hc5
  clear hr5 hc5 hx1
  go_wp2_with fail
  refine (pick_any _ _ (p4 + 1) 20 HR5.out (by omega) (by omega) (by omega)).mono ?_
  rintro e w6 ⟨y, rfl, hy0, hy1, hr6, hc6⟩
  have hy2 := hy1 (by omega)
  have HC6 := hid hc6
  clear hr6 hc6 hy1
  go_wp2_with fail
  have hs1 := HS1.out
  have hs2 := HC2.out.size
  have hc36 := HC4.out.trans (HC5.out.trans HC6.out)
  have hr := (HRD.out.chg hc36 (Nat.le_refl _) (fun k hk => .inr (by omega))).wide (lo' := 0) (Nat.zero_le _) hc36.size
  have hbl := HB1.out.trans ((HC3.out.trans hc36).below (B := w.heap.size) (by omega) (fun k hk => by omega))
  refine ⟨rfl, .tuple #[.int .i64 N, .slice D rows.length dd, .int .i64 a, .int .i64 (x - y / 19)], by simp [results, Try.results15, go_sem], N, D, dd, rows, a, _, rfl, hN1, hN5, hr, hrl, H6.out, ha0, by omega, by omega, by omega, hbl⟩
end Go.Proofs.Yteccacnojmilcaa
