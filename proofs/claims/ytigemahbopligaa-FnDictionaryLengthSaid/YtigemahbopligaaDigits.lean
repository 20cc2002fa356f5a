/- Lists of small weights: l5Weights, weightsValid, TalkValid. -/
import Derived.Test.YtigemahbopligaaPage
namespace Go.Proofs.Ytigemahbopligaa
open Go.RowKit

def digitB (x : Int) : Bool := inB x 0 9
def notDigit (x : Int) : Bool := !digitB x
theorem notDigit_lo {x : Int} (h : x < 0) : notDigit x = true := by simp [notDigit, digitB, inB]; omega
theorem notDigit_hi {x : Int} (h : 9 < x) : notDigit x = true := by simp [notDigit, digitB, inB]; omega
theorem notDigit_no {x : Int} (h1 : 0 ≤ x) (h2 : x ≤ 9) : notDigit x = false := by simp [notDigit, digitB, inB]; omega
/-- The first place, from i on, at which pr says yes; or -1. -/
def idxF {α : Type} (pr : α → Bool) : List α → Int → Int
  | [], _ => -1
  | x :: r, i => if pr x then i else idxF pr r (i + 1)
theorem idxF_any {α : Type} (pr : α → Bool) : ∀ (l : List α) (i : Int), 0 ≤ i → decide (0 ≤ idxF pr l i) = l.any pr
  | [], _, _ => by simp [idxF]
  | x :: r, i, h => by
    rw [idxF, List.any_cons]
    by_cases hx : pr x = true
    · simp [hx, h]
    · have hx' : pr x = false := by simpa using hx
      rw [hx', Bool.false_or, ← idxF_any pr r (i + 1) (by omega)]
      rfl
theorem idxF_bd {α : Type} (pr : α → Bool) : ∀ (l : List α) (i : Int), 0 ≤ i → -1 ≤ idxF pr l i ∧ idxF pr l i < i + l.length ∨ idxF pr l i = -1
  | [], _, _ => .inr rfl
  | x :: r, i, h => by
    rw [idxF]
    by_cases hx : pr x = true
    · rw [if_pos hx]; left; simp; omega
    · rw [if_neg hx]
      rcases idxF_bd pr r (i + 1) (by omega) with h | h
      · left; simp; omega
      · right; exact h
theorem all_digit_not (xs : List Int) : (!xs.any notDigit) = xs.all digitB := by
  induction xs with
  | nil => rfl
  | cons x r ih => simp only [List.any_cons, List.all_cons, Bool.not_or, ih, notDigit, Bool.not_not]




def talkOk (xs : List Int) : Bool := decide (xs.length ≤ 30) && xs.all digitB
def weightsOk (xs : List Int) (n : Int) : Bool := decide ((xs.length : Int) = n) && xs.all digitB
end Go.Proofs.Ytigemahbopligaa
