/- The reader of draws: each draw is a number in its range, and only the reader's own block turns. -/
import Derived.Test.YtigemahbopligaaPoints
import Derived.IntWalk
namespace Go.Proofs.Ytigemahbopligaa
open Go.RowKit
/-- A reader lies in block rb; it has been asked p times; its code lies in blocks below rb. -/
def Rdr (rb : Nat) (w : World) (p : Nat) : Prop :=
  ∃ (A : Option Addr) (n c : Nat) (l : List UInt8), w.heap[rb]? = some (.cells #[.slice A n c, .int .i64 (p : Int)] 111 (0, 0)) ∧ n ≤ 2000 ∧ Rd byteS 0 rb w A n l
theorem Rdr.lt {rb : Nat} {w : World} {p : Nat} (h : Rdr rb w p) : rb < w.heap.size := by
  obtain ⟨_, _, _, _, h, _⟩ := h
  exact (Array.getElem?_eq_some_iff.1 h).1
theorem Rdr.keep {rb : Nat} {w w' : World} {p : Nat} (h : Rdr rb w p) (hb : Below (rb + 1) w w') : Rdr rb w' p := by
  obtain ⟨A, n, c, l, h1, h2, h3⟩ := h
  exact ⟨A, n, c, l, (hb.block rb (by omega)).trans h1, h2, h3.below hb (by omega)⟩
theorem ret_int' {k : IntKind} {a b : Int} (h : a = b) : Ending.returned (.int k a) = .returned (.int k b) := by rw [h]
theorem bits_xor_i64_nat (a b : Nat) (ha : a < 1099511627776) (hb : b < 1099511627776) : bits .xor .i64 (a : Int) (b : Int) = ((a ^^^ b : Nat) : Int) := by
  have hx : a ^^^ b < 2 ^ 40 := Nat.xor_lt_two_pow (by omega) (by omega)
  have h1 : (BitVec.ofInt 64 (a : Int)).toNat = a := by
    rw [BitVec.ofInt_natCast, BitVec.toNat_ofNat]; exact Nat.mod_eq_of_lt (by omega)
  have h2 : (BitVec.ofInt 64 (b : Int)).toNat = b := by
    rw [BitVec.ofInt_natCast, BitVec.toNat_ofNat]; exact Nat.mod_eq_of_lt (by omega)
  show IntKind.i64.wrap ((BitVec.ofInt 64 (a : Int) ^^^ BitVec.ofInt 64 (b : Int)).toNat : Int) = _
  rw [BitVec.toNat_xor, h1, h2]
  exact IntWalk.i64_in _ (by omega)
theorem xor_nn (z : Int) (h0 : 0 ≤ z) (h1 : z < 1099511627776) : 0 ≤ bits .xor .i64 z (z / 64) := by
  obtain ⟨n, rfl⟩ := Int.eq_ofNat_of_zero_le h0
  rw [show ((n : Int) / 64) = ((n / 64 : Nat) : Int) by omega, bits_xor_i64_nat _ _ (by omega) (by omega)]
  omega
set_option maxRecDepth 100000 in
set_option maxHeartbeats 2000000 in
theorem pick_any (rb : Nat) (w : World) (p : Nat) (m : Int) (h : Rdr rb w p) (hp : p ≤ 1000000) (hm : m ≤ 100000) (hm0 : 0 ≤ m) :
    Calls Try.prog 71 #[.pointer (some ⟨rb, 0, none⟩), .int .i64 m] w fun e w' => ∃ v : Int, e = .returned (.int .i64 v) ∧ 0 ≤ v ∧ (1 ≤ m → v < m) ∧ Rdr rb w' (p + 1) ∧ Chg (fun k => k = rb) w w' := by
  obtain ⟨A, n, c, l, hr, hn, hx⟩ := h
  obtain ⟨k0, k1, f0, f1⟩ := at_get hr
  have hr1 := at_set1 (v := .int .i64 ((p : Int) + 1)) hr
  have hc1 := (Chg.refl (fun k => k = rb) w).set (p := ⟨rb, 1, none⟩) rfl (.int .i64 ((p : Int) + 1))
  have hx1 : Rd byteS 0 rb (w.setCell ⟨rb, 1, none⟩ (.int .i64 ((p : Int) + 1))) A n l := hx.chg hc1 (Nat.le_of_lt (Array.getElem?_eq_some_iff.1 hr).1) (fun k hk => by omega)
  have HR := hid (show Rdr rb (w.setCell ⟨rb, 1, none⟩ (.int .i64 ((p : Int) + 1))) (p + 1) ∧ Chg (fun k => k = rb) w (w.setCell ⟨rb, 1, none⟩ (.int .i64 ((p : Int) + 1))) from ⟨⟨A, n, c, l, hr1, hn, hx1⟩, hc1⟩)
  obtain ⟨j0, j1, _, _⟩ := at_get hr1
  have J0 := hid j0
  have J1 := hid j1
  have HX := hid hx1
  clear hr hr1 hc1 hx hx1 j0 j1
  have k0' := J0.out
  have k1' := J1.out
  by_cases hm1 : m < 1
  case pos =>
    have hd : decide (m < 1) = true := by simpa using hm1
    go_enter Try.func71, Try.ntmps71
    go_wp2
    go_ret
    exact ⟨0, rfl, by omega, by omega, HR.out.1, HR.out.2⟩
  case neg =>
    have hd : decide (m < 1) = false := by simpa using hm1
    have hm2 : 1 ≤ m := by omega
    by_cases hn0 : n = 0
    case pos =>
      subst hn0
      go_enter Try.func71, Try.ntmps71
      go_wp2
      go_ret
      exact ⟨0, rfl, by omega, by omega, HR.out.1, HR.out.2⟩
    case neg =>
      have hn1 : ((n : Int) == 0) = false := by simp; omega
      have hr := HX.out.2.2
      obtain ⟨b, off, rfl, _, hbb, hcx⟩ := hr (by omega)
      clear hr
      by_cases hpn : p < n
      case pos =>
        have hpi : (p : Int) < (n : Int) := by omega
        have hdp : decide ((p : Int) < (n : Int)) = true := by simpa using hpi
        have cx := hcx.byte hpn
        obtain ⟨x, hxx⟩ : ∃ x : Int, ((gt l p).toNat : Int) = x := ⟨_, rfl⟩
        have hx0 : 0 ≤ x := by omega
        have hx1 : x ≤ 255 := by have := (gt l p).toNat_lt; omega
        rw [hxx] at cx
        clear hxx hcx
        go_enter Try.func71, Try.ntmps71
        go_wp2
        go_ret
        exact ⟨x % m, rfl, Int.emod_nonneg _ (by omega), by first | exact Int.emod_lt_of_pos _ (by omega) | exact fun _ => Int.emod_lt_of_pos _ (by omega), HR.out.1, HR.out.2⟩
      case neg =>
        have hpi : ¬ ((p : Int) < (n : Int)) := by omega
        have hdp : decide ((p : Int) < (n : Int)) = false := by simpa using hpi
        have hni : p % n < n := Nat.mod_lt _ (by omega)
        have hnj : (p * 7 + 3) % n < n := Nat.mod_lt _ (by omega)
        have cx := hcx.byte hni
        have cy := hcx.byte hnj
        obtain ⟨x, hxx⟩ : ∃ x : Int, ((gt l (p % n)).toNat : Int) = x := ⟨_, rfl⟩
        have hx0 : 0 ≤ x := by omega
        have hx1 : x ≤ 255 := by have := (gt l (p % n)).toNat_lt; omega
        rw [hxx] at cx
        obtain ⟨y, hyy⟩ : ∃ y : Int, ((gt l ((p * 7 + 3) % n)).toNat : Int) = y := ⟨_, rfl⟩
        have hy0 : 0 ≤ y := by omega
        have hy1 : y ≤ 255 := by have := (gt l ((p * 7 + 3) % n)).toNat_lt; omega
        rw [hyy] at cy
        clear hxx hyy hcx
        obtain ⟨i, hi⟩ : ∃ i, p % n = i := ⟨_, rfl⟩
        obtain ⟨j, hj⟩ : ∃ j, (p * 7 + 3) % n = j := ⟨_, rfl⟩
        have t1 : Int.tmod (p : Int) (n : Int) = (i : Int) := by rw [← hi, Int.tmod_eq_emod_of_nonneg (by omega)]; omega
        have t2 : Int.tmod ((p : Int) * 7 + 3) (n : Int) = (j : Int) := by rw [Int.tmod_eq_emod_of_nonneg (by omega), ← hj, Int.natCast_emod]; rfl
        have t3 : Int.tdiv (p : Int) (n : Int) = ((p / n : Nat) : Int) := by rw [Int.tdiv_eq_ediv_of_nonneg (by omega)]; omega
        have hq : p / n ≤ 1000000 := Nat.le_trans (Nat.div_le_self _ _) hp
        rw [hi] at cx hni
        rw [hj] at cy hnj
        obtain ⟨q, hqq⟩ : ∃ q, p / n = q := ⟨_, rfl⟩
        rw [hqq] at t3 hq
        clear hi hj hqq
        have hii : (i : Int) < (n : Int) := by omega
        have hji : (j : Int) < (n : Int) := by omega
        have a1 : IntKind.i64.wrap (x * 131) = x * 131 := IntWalk.i64_in _ (by omega)
        have a2 : IntKind.i64.wrap ((p : Int) * 7) = (p : Int) * 7 := IntWalk.i64_in _ (by omega)
        have a3 : IntKind.i64.wrap ((p : Int) * 7 + 3) = (p : Int) * 7 + 3 := IntWalk.i64_in _ (by omega)
        have a4 : IntKind.i64.wrap (y * 1117) = y * 1117 := IntWalk.i64_in _ (by omega)
        have a5 : IntKind.i64.wrap (x * 131 + y * 1117) = x * 131 + y * 1117 := IntWalk.i64_in _ (by omega)
        have a6 : IntKind.i64.wrap ((p : Int) * 29) = (p : Int) * 29 := IntWalk.i64_in _ (by omega)
        have a7 : IntKind.i64.wrap (x * 131 + y * 1117 + (p : Int) * 29) = x * 131 + y * 1117 + (p : Int) * 29 := IntWalk.i64_in _ (by omega)
        have a8 : IntKind.i64.wrap ((q : Int) * 53) = (q : Int) * 53 := IntWalk.i64_in _ (by omega)
        have a9 : IntKind.i64.wrap (x * 131 + y * 1117 + (p : Int) * 29 + (q : Int) * 53) = x * 131 + y * 1117 + (p : Int) * 29 + (q : Int) * 53 := IntWalk.i64_in _ (by omega)
        have b1 : IntKind.i64.wrap x = x := IntWalk.i64_in _ (by omega)
        have b2 : IntKind.i64.wrap y = y := IntWalk.i64_in _ (by omega)
        go_enter Try.func71, Try.ntmps71
        go_wp2_with fail
        generalize w.setCell ⟨rb, 1, none⟩ (.int .i64 ((p : Int) + 1)) = w1 at *
        go_still (by kernel_rfl)
        go_wp2_with fail
        have hz := xor_nn (x * 131 + y * 1117 + (p : Int) * 29 + (q : Int) * 53) (by omega) (by omega)
        generalize bits .xor .i64 (x * 131 + y * 1117 + (p : Int) * 29 + (q : Int) * 53) ((x * 131 + y * 1117 + (p : Int) * 29 + (q : Int) * 53) / 64) = z at *
        have hzm : z.tmod m = z % m := Int.tmod_eq_emod_of_nonneg hz
        go_ret
        refine ⟨z % m, ret_int hzm, Int.emod_nonneg _ (by omega), by first | exact Int.emod_lt_of_pos _ (by omega) | exact fun _ => Int.emod_lt_of_pos _ (by omega), (HR.out.1).keep ?_, HR.out.2.drew⟩
        exact (Below.refl _ _).drew
set_option maxRecDepth 100000 in
set_option maxHeartbeats 1000000 in
theorem l6Open_any (A : Option Addr) (n c : Nat) (l : List UInt8) (w : World) (hnc : n ≤ c) (hx : Rd byteS 0 w.heap.size w A n l) :
    Calls Try.prog 49 #[.slice A n c] w fun e w' => e = .returned (.pointer (some ⟨w.heap.size, 0, none⟩)) ∧ Rdr w.heap.size w' 0 ∧ Below w.heap.size w w' ∧ w'.heap.size = w.heap.size + 1 := by
  by_cases hn : n ≤ 2000
  case pos =>
    have hni : ¬ ((2000 : Int) < (n : Int)) := by omega
    have HX := hid hx
    clear hx
    go_enter Try.func49, Try.ntmps49
    go_wp2
    go_ret
    refine ⟨rfl, ⟨A, n, c, l, heap_alloc_new _ _, hn, HX.out.below (bnew w _) (Nat.le_refl _)⟩, bnew _ _, by simp⟩
  case neg =>
    have hni : (2000 : Int) < (n : Int) := by omega
    have HX := hid hx
    have hr := hx.2.2
    obtain ⟨b, off, rfl, _, hbb, hcx⟩ := hr (by omega)
    have hs := hid (hx.sub (i := 0) (j := 2000) (Nat.zero_le _) (by omega) (some ⟨b, off, none⟩) (fun b' off' h _ => by injection h with h; injection h with h1 h2 _; rw [h1, h2, Nat.zero_mul, Nat.add_zero]))
    have hc1 : (2000 : Int) ≤ (c : Int) := by omega
    have hc2 : 2000 ≤ c := by omega
    clear hr hcx hx
    go_enter Try.func49, Try.ntmps49
    go_wp2
    go_ret
    exact ⟨rfl, ⟨_, 2000, c, _, heap_alloc_new _ _, Nat.le_refl _, hs.out.below (bnew w _) (Nat.le_refl _)⟩, bnew _ _, by simp⟩
end Go.Proofs.Ytigemahbopligaa
