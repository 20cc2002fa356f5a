/- What a forced page is, in plain Lean. -/
import Derived.Test.YtfjoininagdlcaaForce2
namespace Go.Proofs.Ytfjoininagdlcaa
theorem forceL_from {a x : Int} : ∀ {page : List (List Int)} {i : Nat}, ∀ q ∈ forceL a x i page, q = [x] ∨ q ∈ page
  | [], _ => fun q hq => by cases hq
  | p :: r, i => fun q hq => by
    rw [forceL] at hq
    rcases List.mem_cons.1 hq with rfl | hq
    · split
      · exact .inl rfl
      · exact .inr List.mem_cons_self
    · rcases forceL_from q hq with h | h
      · exact .inl h
      · exact .inr (List.mem_cons_of_mem _ h)
theorem forceL_ok {n : Int} {page : List (List Int)} {a x : Int} (h : pageOk n page = true) (h0 : 0 ≤ x) (h1 : x < n) : pageOk n (forceL a x 0 page) = true := by
  unfold pageOk at h ⊢
  rw [Bool.and_eq_true, Bool.and_eq_true, decide_eq_true_eq, List.all_eq_true] at h ⊢
  refine ⟨h.1, by rw [forceL_len]; exact h.2.1, fun p hp => ?_⟩
  rcases forceL_from p hp with rfl | hp
  · show (placeFrom n (-1) [x] && _) = true
    rw [placeFrom, placeFrom, inB_yes.2 ⟨by omega, by omega⟩]; rfl
  · exact h.2.2 p hp
theorem forceL_two (a x : Int) : ∀ (page : List (List Int)) (i : Nat), forceL a x i (forceL a x i page) = forceL a x i page
  | [], _ => rfl
  | p :: r, i => by
    rw [forceL, forceL, forceL_two a x r (i + 1)]
    by_cases h : (i : Int) = a
    · simp [h]
    · simp [h]
/-- A forced page: its place has the word alone, the others are as they were; forced again it is the same; no other word can be forced. -/
theorem force_law {n : Int} {page F : List (List Int)} {a x : Int} (h : forceV n page a x = some F) : F = forceL a x 0 page ∧ pageOk n page = true ∧ 0 ≤ a ∧ a < (page.length : Int) ∧ 0 ≤ x ∧ x < n ∧ pageOk n F = true ∧ F.length = page.length ∧ forceV n F a x = some F ∧ forceV n F a (x + 1) = none ∧ gt F a.toNat = [x] ∧ ∀ i : Nat, i < page.length → ¬ (i : Int) = a → gt F i = gt page i := by
  unfold forceV at h
  split at h
  · rename_i hc
    rw [Bool.and_eq_true, Bool.and_eq_true, inB_yes] at hc
    obtain ⟨h1, ⟨h2, h3⟩, h4⟩ := hc
    injection h with h
    subst h
    have ha : a.toNat < page.length := by omega
    obtain ⟨hx0, hxn⟩ := ((pageOk_yes h1).2 _ (gt_mem ha)).2 x (hasI_iff.1 h4)
    have hg : gt (forceL a x 0 page) a.toNat = [x] := by rw [forceL_gt ha, if_pos (by omega)]
    have hok := forceL_ok (a := a) h1 hx0 hxn
    refine ⟨rfl, h1, h2, by omega, hx0, hxn, hok, forceL_len _ _ _ _, ?_, ?_, hg, fun i hi hne => by rw [forceL_gt hi, if_neg (by omega)]⟩
    · unfold forceV
      rw [hok, hg, forceL_len, inB_yes.2 ⟨h2, h3⟩, show hasI [x] x = true from hasI_iff.2 (by simp), forceL_two]; rfl
    · unfold forceV
      have : hasI [x] (x + 1) = false := by rw [Bool.eq_false_iff]; intro hh; have := hasI_iff.1 hh; rw [List.mem_singleton] at this; omega
      rw [hg, this, Bool.and_false, Bool.and_false]; rfl
  · cases h
end Go.Proofs.Ytfjoininagdlcaa
