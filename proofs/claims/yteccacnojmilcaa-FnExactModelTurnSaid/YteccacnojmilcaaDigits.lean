/- Lists of small weights: l5Weights, weightsValid, TalkValid. -/
import Derived.Test.YteccacnojmilcaaPage
namespace Go.Proofs.Yteccacnojmilcaa
open Go.RowKit

def digitB (x : Int) : Bool := inB x 0 9
def notDigit (x : Int) : Bool := !digitB x
theorem notDigit_lo {x : Int} (h : x < 0) : notDigit x = true := by simp [notDigit, digitB, inB]; omega
theorem notDigit_hi {x : Int} (h : 9 < x) : notDigit x = true := by simp [notDigit, digitB, inB]; omega
theorem notDigit_no {x : Int} (h1 : 0 ≤ x) (h2 : x ≤ 9) : notDigit x = false := by simp [notDigit, digitB, inB]; omega
/-- The first place, from i on, at which pr says yes; or -1. -/
def idxF {α : Type} (pr : α → Bool) : List α → Int → Int
  | [], _ => -1
  | x :: r, i => if pr x then i else idxF pr r (i + 1)
theorem idxF_any {α : Type} (pr : α → Bool) : ∀ (l : List α) (i : Int), 0 ≤ i → decide (0 ≤ idxF pr l i) = l.any pr
  | [], _, _ => by simp [idxF]
  | x :: r, i, h => by
    rw [idxF, List.any_cons]
    by_cases hx : pr x = true
    · simp [hx, h]
    · have hx' : pr x = false := by simpa using hx
      rw [hx', Bool.false_or, ← idxF_any pr r (i + 1) (by omega)]
      rfl
theorem idxF_bd {α : Type} (pr : α → Bool) : ∀ (l : List α) (i : Int), 0 ≤ i → -1 ≤ idxF pr l i ∧ idxF pr l i < i + l.length ∨ idxF pr l i = -1
  | [], _, _ => .inr rfl
  | x :: r, i, h => by
    rw [idxF]
    by_cases hx : pr x = true
    · rw [if_pos hx]; left; simp; omega
    · rw [if_neg hx]
      rcases idxF_bd pr r (i + 1) (by omega) with h | h
      · left; simp; omega
      · right; exact h
theorem all_digit_not (xs : List Int) : (!xs.any notDigit) = xs.all digitB := by
  induction xs with
  | nil => rfl
  | cons x r ih => simp only [List.any_cons, List.all_cons, Bool.not_or, ih, notDigit, Bool.not_not]


set_option maxHeartbeats 400000 in
theorem weightsValid1_any (x : Int) (w : World) :
    Calls Try.prog 58 #[.int .i64 x] w fun e w' => e = .returned (.bool (notDigit x)) ∧ w = w' := by
  by_cases h0 : x < 0
  · have HH := hid (notDigit_lo h0)
    go_enter Try.func58, Try.ntmps58
    go_wp2
    go_ret
    exact ⟨ret_bool HH.out.symm, rfl⟩
  · by_cases h9 : 9 < x
    · have HH := hid (notDigit_hi h9)
      go_enter Try.func58, Try.ntmps58
      go_wp2
      go_ret
      exact ⟨ret_bool HH.out.symm, rfl⟩
    · have HH := hid (notDigit_no (x := x) (by omega) (by omega))
      go_enter Try.func58, Try.ntmps58
      go_wp2
      go_ret
      exact ⟨ret_bool HH.out.symm, rfl⟩
set_option maxHeartbeats 400000 in
theorem idx_weightsValid1 (A : Option Addr) (n c lo : Nat) (xs : List Int) (w : World) (hx : Rd intS lo w.heap.size w A n xs) :
    Calls Try.prog 59 #[.slice A n c, .func (.func 58) #[] #[]] w fun e w' => e = .returned (.int .i64 (idxF notDigit xs 0)) ∧ w = w' := by
  obtain ⟨e1, e2, e3⟩ := hx
  have E1 := hid e1; clear e1
  have E3 := hid e3; clear e3
  go_enter Try.func59, Try.ntmps59
  go_wp2_with fail
  go_loop [5, 8] (fun _ i => ∃ k : Nat, k ≤ n ∧ i = .int .i64 k ∧ idxF notDigit xs 0 = idxF notDigit (xs.drop k) k) (fun _ i => n - (intOf i).toNat)
  case atStart => exact ⟨0, Nat.zero_le _, rfl, rfl⟩
  case round =>
    obtain ⟨k, hk, rfl, hr⟩ := hrel
    have HR := hid hr; clear hr
    by_cases hlt : k < n
    · obtain ⟨b, off, rfl, _, hbb, hcx⟩ := E3.out (by omega)
      have cx := hcx.int hlt
      have hd := hid (drop_gt (l := xs) (by rw [← E1.out]; exact hlt))
      clear hcx
      by_cases hp : notDigit (gt xs k) = true
      · go_wp2_with (go_at_call 58; refine (weightsValid1_any _ _).mono ?_; rintro e w' ⟨rfl, rfl⟩)
        go_ret
        exact ⟨ret_int (by rw [HR.out, hd.out, idxF, if_pos hp]), rfl⟩
      · have hp' : notDigit (gt xs k) = false := by simpa using hp
        have HP := hid hp
        clear hp
        go_wp2_with (go_at_call 58; refine (weightsValid1_any _ _).mono ?_; rintro e w' ⟨rfl, rfl⟩)
        go_round
        case rel => exact ⟨k + 1, by omega, by go_num, by rw [HR.out, hd.out, idxF, if_neg HP.out]; rfl⟩
        case measure => simp [intOf]; omega
    · obtain rfl : k = n := by omega
      go_wp2
      go_ret
      exact ⟨ret_int (by rw [HR.out, List.drop_eq_nil_of_le (by rw [E1.out]; omega)]; rfl), rfl⟩
set_option maxHeartbeats 400000 in
theorem con_weightsValid1 (A : Option Addr) (n c lo : Nat) (xs : List Int) (w : World) (hx : Rd intS lo w.heap.size w A n xs) :
    Calls Try.prog 57 #[.slice A n c, .func (.func 58) #[] #[]] w fun e w' => e = .returned (.bool (xs.any notDigit)) ∧ w = w' := by
  have hb := idxF_any notDigit xs 0 (by omega)
  have HB := hid hb; clear hb
  go_enter Try.func57, Try.ntmps57
  go_wp2_with (go_at_call 59; refine (idx_weightsValid1 _ _ _ _ _ _ hx).mono ?_; rintro e w' ⟨rfl, rfl⟩)
  go_ret
  exact ⟨ret_bool HB.out, rfl⟩


def talkOk (xs : List Int) : Bool := decide (xs.length ≤ 30) && xs.all digitB
def weightsOk (xs : List Int) (n : Int) : Bool := decide ((xs.length : Int) = n) && xs.all digitB
set_option maxHeartbeats 400000 in
theorem l5Weights_any (A : Option Addr) (n c lo : Nat) (xs : List Int) (m : Int) (w : World) (hx : Rd intS lo w.heap.size w A n xs) :
    Calls Try.prog 54 #[.slice A n c, .int .i64 m] w fun e w' => e = .returned (.bool (weightsOk xs m)) ∧ w = w' := by
  obtain ⟨e1, e2, e3⟩ := hx
  have E1 := hid e1; clear e1
  have E3 := hid e3; clear e3
  go_enter Try.func54, Try.ntmps54
  go_wp2_with fail
  go_loop [5] (fun i => ∃ k : Nat, k ≤ n ∧ i = .int .i64 k ∧ xs.all digitB = (xs.drop k).all digitB) (fun i => n - (intOf i).toNat)
  case atStart => exact ⟨0, Nat.zero_le _, rfl, rfl⟩
  case round =>
    obtain ⟨k, hk, rfl, hr⟩ := hrel
    have HR := hid hr; clear hr
    by_cases hlt : k < n
    · obtain ⟨b, off, rfl, _, hbb, hcx⟩ := E3.out (by omega)
      have cx := hcx.int hlt
      have hd := hid (drop_gt (l := xs) (by rw [← E1.out]; exact hlt))
      clear hcx
      by_cases hp : inB (gt xs k) 0 9 = true
      · go_wp2_with (go_at_call 43; refine (l6In_any _ _ _ _).mono ?_; rintro e w' ⟨rfl, rfl⟩)
        go_round
        case rel => exact ⟨k + 1, by omega, by go_num, by rw [HR.out, hd.out, List.all_cons, digitB, hp, Bool.true_and]⟩
        case measure => simp [intOf]; omega
      · have hp' : inB (gt xs k) 0 9 = false := by simpa using hp
        clear hp
        go_wp2_with (go_at_call 43; refine (l6In_any _ _ _ _).mono ?_; rintro e w' ⟨rfl, rfl⟩)
        go_ret
        exact ⟨ret_bool (by rw [weightsOk, HR.out, hd.out, List.all_cons, digitB, hp', Bool.false_and, Bool.and_false]), rfl⟩
    · obtain rfl : k = n := by omega
      have HL := hid (show xs.all digitB = true by rw [HR.out, List.drop_eq_nil_of_le (by rw [E1.out]; omega)]; rfl)
      go_wp2
      go_ret
      exact ⟨ret_bool (by rw [weightsOk, HL.out, ← E1.out, Bool.and_true]; exact (Bool.eq_iff_iff.2 (by simp))), rfl⟩
set_option maxHeartbeats 400000 in
theorem weightsValid_any (A : Option Addr) (n c lo : Nat) (xs : List Int) (m : Int) (w : World) (hx : Rd intS lo w.heap.size w A n xs) :
    Calls Try.prog 55 #[.slice A n c, .int .i64 m] w fun e w' => e = .returned (.bool (weightsOk xs m)) ∧ w = w' := by
  have HX := hid hx
  have hn := hx.2.1
  have HN := hid hx.1
  clear hx
  have HA := hid (all_digit_not xs)
  by_cases h : (n : Int) = m
  · have h' : ((n : Int) == m) = true := by simp [h]
    have HH := hid (show weightsOk xs m = xs.all digitB by rw [weightsOk, ← HN.out]; simp [h])
    have H1 := hid h; clear h
    go_enter Try.func55, Try.ntmps55
    go_wp2_with fail
    refine (con_weightsValid1 _ _ _ _ _ _ HX.out).mono ?_
    rintro e w' ⟨rfl, rfl⟩
    go_wp2
    go_ret
    exact ⟨ret_bool (by rw [HH.out, ← HA.out]), rfl⟩
  · have h' : ((n : Int) == m) = false := by simp [h]
    have HH := hid (show weightsOk xs m = false by rw [weightsOk, ← HN.out]; simp [h])
    have H1 := hid h; clear h
    go_enter Try.func55, Try.ntmps55
    go_wp2_with fail
    go_ret
    exact ⟨ret_bool HH.out.symm, rfl⟩
end Go.Proofs.Yteccacnojmilcaa
