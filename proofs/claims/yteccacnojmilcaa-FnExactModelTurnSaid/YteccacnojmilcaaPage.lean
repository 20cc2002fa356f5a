/- Valid pages: what the program's and the reference's PageValid return. -/
import Derived.Test.YteccacnojmilcaaInts
import Derived.Test.YteccacnojmilcaaOutPure
namespace Go.Proofs.Yteccacnojmilcaa
open Go.RowKit

def placeFrom (n : Int) : Int → List Int → Bool
  | _, [] => true
  | last, x :: r => inB x (last + 1) (n - 1) && placeFrom n x r
def placeOk (n : Int) (p : List Int) : Bool := placeFrom n (-1) p && !p.isEmpty
def pageOk (n : Int) (page : List (List Int)) : Bool := inB n 1 6 && (decide (page.length ≤ 8) && page.all (placeOk n))

set_option maxHeartbeats 400000 in
theorem l6In_any (n lo hi : Int) (w : World) :
    Calls Try.prog 43 #[.int .i64 n, .int .i64 lo, .int .i64 hi] w fun e w' => e = .returned (.bool (inB n lo hi)) ∧ w = w' := by
  by_cases h : lo ≤ n
  · go_enter Try.func43, Try.ntmps43
    go_wp2
    go_ret
    exact ⟨ret_bool (by simp [inB, h]), rfl⟩
  · go_enter Try.func43, Try.ntmps43
    go_wp2
    go_ret
    exact ⟨ret_bool (by simp [inB]; omega), rfl⟩
set_option maxHeartbeats 1000000 in
theorem specPageValid_any (A : Option Addr) (n c lo : Nat) (m : Int) (page : List (List Int)) (w : World) (hx : Rd (sliceS intS) lo w.heap.size w A n page) :
    Calls Try.prog 33 #[.int .i64 m, .slice A n c] w fun e w' => e = .returned (.bool (pageOk m page)) ∧ w = w' := by
  obtain ⟨e1, e2, e3⟩ := hx
  have E1 := hid e1; clear e1
  have E3 := hid e3; clear e3
  by_cases h1 : inB m 1 6 = true
  case neg =>
    have h1' : inB m 1 6 = false := by simpa using h1
    have HH := hid (show pageOk m page = false by simp only [pageOk, h1', Bool.false_and])
    clear h1
    go_enter Try.func33, Try.ntmps33
    go_wp2_with (go_at_call 43; refine (l6In_any _ _ _ _).mono ?_; rintro e w' ⟨rfl, rfl⟩)
    go_ret
    exact ⟨ret_bool HH.out.symm, rfl⟩
  case pos =>
    obtain ⟨hm1, hm2⟩ := inB_yes.1 h1
    by_cases h2 : n ≤ 8
    case neg =>
      have h2' : (8 : Int) < (n : Int) := by omega
      have HH := hid (show pageOk m page = false by simp only [pageOk, h1, ← E1.out]; simp; omega)
      go_enter Try.func33, Try.ntmps33
      go_wp2_with (go_at_call 43; refine (l6In_any _ _ _ _).mono ?_; rintro e w' ⟨rfl, rfl⟩)
      go_ret
      exact ⟨ret_bool HH.out.symm, rfl⟩
    case pos =>
      have HH := hid (show pageOk m page = (page.drop 0).all (placeOk m) by simp [pageOk, h1, ← E1.out, h2])
      go_enter Try.func33, Try.ntmps33
      go_wp2_with (go_at_call 43; refine (l6In_any _ _ _ _).mono ?_; rintro e w' ⟨rfl, rfl⟩)
      clear h1
      go_loop [5, 6, 7] (fun i _ _ => ∃ k : Nat, k ≤ n ∧ i = .int .i64 k ∧ pageOk m page = (page.drop k).all (placeOk m)) (fun i _ _ => n - (intOf i).toNat)
      case atStart => exact ⟨0, Nat.zero_le _, rfl, HH.out⟩
      case round =>
        obtain ⟨k, hk, rfl, hr⟩ := hrel
        have HR := hid hr; clear hr
        clear HH
        by_cases hlt : k < n
        · obtain ⟨b, off, rfl, _, hbb, hcx⟩ := E3.out (by omega)
          obtain ⟨A', c', cx, _, hrow⟩ := hcx.row hlt
          have hd := hid (drop_gt (l := page) (by rw [← E1.out]; exact hlt))
          obtain ⟨r1, r2, r3⟩ := hrow
          have R3 := hid r3; clear r3 r1 hcx
          go_wp2_with fail
          go_loop [6, 7] (fun last j => ∃ (q : Nat) (l : Int), q ≤ (gt page k).length ∧ j = .int .i64 q ∧ last = .int .i64 l ∧ -1 ≤ l ∧ l ≤ 5 ∧ placeFrom m (-1) (gt page k) = placeFrom m l ((gt page k).drop q)) (fun _ j => (gt page k).length - (intOf j).toNat)
          case atStart => exact ⟨0, -1, Nat.zero_le _, rfl, rfl, by omega, by omega, rfl⟩
          case round =>
            obtain ⟨q, l, hq, rfl, rfl, hl1, hl2, hr⟩ := hrel
            have HQ := hid hr; clear hr
            by_cases hqt : q < (gt page k).length
            · obtain ⟨b', off', rfl, _, hbb', hcy⟩ := R3.out (by omega)
              have cy := hcy.int hqt
              have hd2 := hid (drop_gt hqt)
              clear hcy
              by_cases hin : inB (gt (gt page k) q) (l + 1) (m - 1) = true
              · have hin2 := inB_yes.1 hin
                go_wp2_with (go_at_call 43; refine (l6In_any _ _ _ _).mono ?_; rintro e w' ⟨rfl, rfl⟩)
                go_round
                case rel => exact ⟨q + 1, _, by omega, by go_num, rfl, by omega, by omega, by rw [HQ.out, hd2.out, placeFrom, hin, Bool.true_and]⟩
                case measure => simp [intOf]; omega
              · have hin' : inB (gt (gt page k) q) (l + 1) (m - 1) = false := by simpa using hin
                clear hin
                go_wp2_with (go_at_call 43; refine (l6In_any _ _ _ _).mono ?_; rintro e w' ⟨rfl, rfl⟩)
                go_ret
                exact ⟨ret_bool (by rw [HR.out, hd.out, List.all_cons, placeOk, HQ.out, hd2.out, placeFrom, hin', Bool.false_and, Bool.false_and, Bool.false_and]), rfl⟩
            · obtain rfl : q = (gt page k).length := by omega
              have hp := hid (show placeFrom m (-1) (gt page k) = true by rw [HQ.out, List.drop_length]; rfl)
              by_cases h0 : (gt page k).length = 0
              · have he := hid (show placeOk m (gt page k) = false by simp [placeOk, List.eq_nil_of_length_eq_zero h0])
                have h0' : (((gt page k).length : Int) == 0) = true := beq_iff_eq.2 (by omega)
                have H0 := hid h0; clear h0
                go_wp2
                go_ret
                exact ⟨ret_bool (by rw [HR.out, hd.out, List.all_cons, he.out, Bool.false_and]), rfl⟩
              · have he := hid (show placeOk m (gt page k) = true by simp [placeOk, hp.out]; intro h; simp [h] at h0)
                have h0' : (((gt page k).length : Int) == 0) = false := beq_eq_false_iff_ne.2 (by omega)
                go_wp2
                go_round
                case rel => exact ⟨k + 1, by omega, by go_num, by rw [HR.out, hd.out, List.all_cons, he.out, Bool.true_and]⟩
                case measure => simp [intOf]; omega
        · obtain rfl : k = n := by omega
          go_wp2
          go_ret
          exact ⟨ret_bool (by rw [HR.out, List.drop_eq_nil_of_le (by rw [E1.out]; omega)]; rfl), rfl⟩
set_option maxHeartbeats 1000000 in
theorem implPageValid_any (A : Option Addr) (n c lo : Nat) (m : Int) (page : List (List Int)) (w : World) (hx : Rd (sliceS intS) lo w.heap.size w A n page) :
    Calls Try.prog 20 #[.int .i64 m, .slice A n c] w fun e w' => e = .returned (.bool (pageOk m page)) ∧ w = w' := by
  obtain ⟨e1, e2, e3⟩ := hx
  have E1 := hid e1; clear e1
  have E3 := hid e3; clear e3
  by_cases h1 : 1 ≤ m ∧ m ≤ 6 ∧ n ≤ 8
  case neg =>
    have HH := hid (show pageOk m page = false by simp [pageOk, inB, ← E1.out]; omega)
    by_cases a1 : m < 1
    case pos =>
      go_enter Try.func20, Try.ntmps20
      go_wp2
      go_ret
      exact ⟨ret_bool HH.out.symm, rfl⟩
    case neg =>
      by_cases a2 : 6 < m
      case pos =>
        go_enter Try.func20, Try.ntmps20
        go_wp2
        go_ret
        exact ⟨ret_bool HH.out.symm, rfl⟩
      case neg =>
        have a3 : (8 : Int) < (n : Int) := by omega
        clear h1
        go_enter Try.func20, Try.ntmps20
        go_wp2
        go_ret
        exact ⟨ret_bool HH.out.symm, rfl⟩
  case pos =>
    obtain ⟨hm1, hm2, h2⟩ := h1
    have HH := hid (show pageOk m page = (page.drop 0).all (placeOk m) by simp [pageOk, inB, ← E1.out, h2, hm1, hm2])
    go_enter Try.func20, Try.ntmps20
    go_wp2
    go_loop [22] (fun i => ∃ k : Nat, k ≤ n ∧ i = .int .i64 k ∧ pageOk m page = (page.drop k).all (placeOk m)) (fun i => n - (intOf i).toNat)
    case atStart => exact ⟨0, Nat.zero_le _, rfl, HH.out⟩
    case round =>
      obtain ⟨k, hk, rfl, hr⟩ := hrel
      have HR := hid hr; clear hr
      clear HH
      by_cases hlt : k < n
      · obtain ⟨b, off, rfl, _, hbb, hcx⟩ := E3.out (by omega)
        obtain ⟨A', c', cx, _, hrow⟩ := hcx.row hlt
        have hd := hid (drop_gt (l := page) (by rw [← E1.out]; exact hlt))
        obtain ⟨r1, r2, r3⟩ := hrow
        have R3 := hid r3; clear r3 r1 hcx
        by_cases h0 : (gt page k).length = 0
        · have he := hid (show placeOk m (gt page k) = false by simp [placeOk, List.eq_nil_of_length_eq_zero h0])
          have h0' : (((gt page k).length : Int) == 0) = true := beq_iff_eq.2 (by omega)
          have H0 := hid h0; clear h0
          go_wp2
          go_ret
          exact ⟨ret_bool (by rw [HR.out, hd.out, List.all_cons, he.out, Bool.false_and]), rfl⟩
        · have hne := hid (show (gt page k).isEmpty = false by simp; intro h; simp [h] at h0)
          have h0' : (((gt page k).length : Int) == 0) = false := beq_eq_false_iff_ne.2 (by omega)
          go_wp2_with fail
          clear h0'
          go_loop [31] (fun j => ∃ (q : Nat) (l : Int), q ≤ (gt page k).length ∧ j = .int .i64 q ∧ -1 ≤ l ∧ l ≤ 5 ∧ (0 < q → 0 ≤ l ∧ gt (gt page k) (q - 1) = l) ∧ (q = 0 → l = -1) ∧ placeFrom m (-1) (gt page k) = placeFrom m l ((gt page k).drop q)) (fun j => (gt page k).length - (intOf j).toNat)
          case atStart => exact ⟨0, -1, Nat.zero_le _, rfl, by omega, by omega, fun h => absurd h (by omega), fun _ => rfl, rfl⟩
          case round =>
            obtain ⟨q, l, hq, rfl, hl1, hl2, hl3, hl4, hr⟩ := hrel
            have HQ := hid hr; clear hr
            have HL3 := hid hl3; clear hl3
            have HL4 := hid hl4; clear hl4
            by_cases hqt : q < (gt page k).length
            · obtain ⟨b', off', rfl, _, hbb', hcy⟩ := R3.out (by omega)
              have cy := hcy.int hqt
              have hd2 := hid (drop_gt hqt)
              have bad : Hid (¬ (l + 1 ≤ gt (gt page k) q ∧ gt (gt page k) q ≤ m - 1) → pageOk m page = false) := fun h => by
                rw [HR.out, hd.out, List.all_cons, placeOk, HQ.out, hd2.out, placeFrom, inB_no.2 h, Bool.false_and, Bool.false_and, Bool.false_and]
              by_cases x0 : gt (gt page k) q < 0
              · clear hcy
                go_wp2
                go_ret
                exact ⟨ret_bool (bad.out (by omega)).symm, rfl⟩
              · by_cases x1 : m ≤ gt (gt page k) q
                · clear hcy
                  go_wp2
                  go_ret
                  exact ⟨ret_bool (bad.out (by omega)).symm, rfl⟩
                · by_cases q0 : q = 0
                  · have hl := HL4.out q0
                    clear hcy
                    have Q0 := hid q0
                    have q1 : q ≤ 0 := by omega
                    clear q0
                    have HLl := hid hl; clear hl
                    go_wp2
                    go_round
                    case rel => exact ⟨q + 1, gt (gt page k) q, by omega, by go_num, by omega, by omega, fun _ => ⟨by omega, rfl⟩, fun h => by omega, by rw [HQ.out, hd2.out, placeFrom, inB_yes.2 ⟨by rw [HLl.out]; omega, by omega⟩, Bool.true_and]⟩
                    case measure => simp [intOf]; omega
                  · have cz := hcy.int (k := q - 1) (by omega)
                    have hl := HL3.out (by omega)
                    rw [hl.2] at cz
                    clear hcy
                    have hl0 := hl.1
                    clear hl
                    by_cases x2 : gt (gt page k) q ≤ l
                    · go_wp2
                      go_ret
                      exact ⟨ret_bool (bad.out (by omega)).symm, rfl⟩
                    · go_wp2
                      go_round
                      case rel => exact ⟨q + 1, gt (gt page k) q, by omega, by go_num, by omega, by omega, fun _ => ⟨by omega, rfl⟩, fun h => by omega, by rw [HQ.out, hd2.out, placeFrom, inB_yes.2 ⟨by omega, by omega⟩, Bool.true_and]⟩
                      case measure => simp [intOf]; omega
            · obtain rfl : q = (gt page k).length := by omega
              have hp := hid (show placeOk m (gt page k) = true by rw [placeOk, HQ.out, List.drop_length, hne.out]; rfl)
              go_wp2
              go_round
              case rel => exact ⟨k + 1, by omega, by go_num, by rw [HR.out, hd.out, List.all_cons, hp.out, Bool.true_and]⟩
              case measure => simp [intOf]; omega
      · obtain rfl : k = n := by omega
        go_wp2
        go_ret
        exact ⟨ret_bool (by rw [HR.out, List.drop_eq_nil_of_le (by rw [E1.out]; omega)]; rfl), rfl⟩
end Go.Proofs.Yteccacnojmilcaa
