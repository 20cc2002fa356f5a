/- Models in which two words have exchanged numbers have as many readings. -/
import Derived.Test.YtfjoininagdlcaaReadLaws
import Derived.Test.YtfjoininagdlcaaTurnDef
namespace Go.Proofs.Ytfjoininagdlcaa
theorem turn_wgt {l : List Int} {r : List (List Int)} {a b : Nat} (h : modelOk l r = true) (ha : a < l.length) (hb : b < l.length) {c x : Int} (hc : c < l.length) (hx0 : 0 ≤ x) (hx : x < l.length) : wgt (turnI a b l) (turnM a b r) c x = wgt l r (swZ a b c) (swZ a b x) := by
  obtain ⟨h1, h2, h3, h4, h5⟩ := modelOk_yes h
  obtain ⟨k, rfl⟩ := Int.eq_ofNat_of_zero_le hx0
  have hk : k < l.length := by omega
  unfold wgt
  rw [swZ_nat, Int.toNat_natCast, Int.toNat_natCast]
  by_cases hn : c < 0
  · rw [if_pos hn, swZ_neg hn, if_pos hn, turnI_gt hk]
  · obtain ⟨j, rfl⟩ := Int.eq_ofNat_of_zero_le (by omega : 0 ≤ c)
    have hj : j < r.length := by omega
    rw [if_neg hn, swZ_nat, if_neg (by omega), Int.toNat_natCast, Int.toNat_natCast, turnM_gt (by omega) (by omega) hj]
    have hl := (h5 _ (gt_mem (sw_lt (a := a) (b := b) (by omega) (by omega) hj))).1
    rw [turnI_gt (by omega)]
theorem one_hot {g : Int → Nat} {z : Int} : ∀ {p : List Int}, asc p → z ∈ p → (p.map fun y => if y = z then g y else 0).sum = g z
  | y :: p, h, hz => by
    rw [List.map_cons, List.sum_cons]
    by_cases e : y = z
    · subst e
      rw [if_pos rfl, sum_congr (g := fun _ => 0) fun q hq => by rw [if_neg]; have := h.1 q hq; omega, sum_zero]
      rfl
    · rw [if_neg e]
      rcases List.mem_cons.1 hz with hz | hz
      · exact absurd hz.symm e
      · rw [one_hot h.2 hz, Nat.zero_add]
theorem rowN_asc (n : Nat) : asc (rowN n) := by
  by_cases h : n = 0
  · subst h; exact trivial
  · have h1 : placeFrom (n : Int) (((0 : Nat) : Int) - 1) ((List.range' 0 n).map fun i : Nat => (i : Int)) = true := placeFrom_range (n := (n : Int)) n 0 (by omega)
    rw [← List.range_eq_range'] at h1
    exact (placeFrom_asc h1).1
theorem sum_turn {g : Int → Nat} {a b n : Nat} (ha : a < n) (hb : b < n) : ((rowN n).map fun x => g (swZ a b x)).sum = ((rowN n).map g).sum := by
  have hin : ∀ x ∈ rowN n, swZ a b x ∈ rowN n := fun x hx => by
    rw [rowN_mem] at hx ⊢
    unfold swZ
    split <;> (try split) <;> omega
  have h1 : ((rowN n).map fun x => g (swZ a b x)).sum = ((rowN n).map fun x => ((rowN n).map fun y => if y = swZ a b x then g y else 0).sum).sum := sum_congr fun x hx => (one_hot (rowN_asc n) (hin x hx)).symm
  rw [h1, sum_swap]
  refine sum_congr fun y hy => ?_
  have h2 := one_hot (g := fun _ => g y) (rowN_asc n) (hin y hy)
  refine Eq.trans (sum_congr fun x _ => ?_) h2
  by_cases e : x = swZ a b y
  · rw [if_pos e, if_pos (by rw [e, swZ_swZ])]
  · rw [if_neg e, if_neg (fun e2 => e (by rw [e2, swZ_swZ]))]
theorem many_turn {l : List Int} {r : List (List Int)} {a b : Nat} (h : modelOk l r = true) (ha : a < l.length) (hb : b < l.length) : ∀ (k : Nat) (c : Int), c < l.length → manyOf (turnI a b l) (turnM a b r) (List.replicate k (rowN l.length)) c = manyOf l r (List.replicate k (rowN l.length)) (swZ a b c)
  | 0, _, _ => rfl
  | k + 1, c, hc => by
    rw [List.replicate_succ, many_cons, many_cons, ← sum_turn (g := manyStep l r (List.replicate k (rowN l.length)) (swZ a b c)) ha hb]
    refine sum_congr fun x hx => ?_
    rw [rowN_mem] at hx
    unfold manyStep
    rw [turn_wgt h ha hb hc hx.1 hx.2, many_turn h ha hb k x hx.2]
/-- Turned twice, the model is as it was; it has as many readings of a page of all words. -/
theorem turn_law {l l' : List Int} {r r' : List (List Int)} {x y : Int} (h : turnV l r x y = some (l', r')) : modelOk l r = true ∧ modelOk l' r' = true ∧ l'.length = l.length ∧ turnV l' r' x y = some (l, r) ∧ ∀ k, k ≤ 8 → manyV l' r' (wholeP l.length k) = manyV l r (wholeP l.length k) := by
  unfold turnV at h
  split at h
  case isFalse => cases h
  rename_i hc
  rw [Bool.and_eq_true, Bool.and_eq_true, inB_yes, inB_yes] at hc
  obtain ⟨hm, ⟨hx0, hx1⟩, hy0, hy1⟩ := hc
  obtain ⟨a, rfl⟩ := Int.eq_ofNat_of_zero_le hx0
  obtain ⟨b, rfl⟩ := Int.eq_ofNat_of_zero_le hy0
  have ha : a < l.length := by omega
  have hb : b < l.length := by omega
  injection h with h
  injection h with e1 e2
  rw [Int.toNat_natCast, Int.toNat_natCast] at e1 e2
  subst e1 e2
  have hok := turn_ok hm ha hb
  obtain ⟨m1, m2, m3, m4, m5⟩ := modelOk_yes hm
  refine ⟨hm, hok, turnI_len _ _ _, ?_, fun k hk => ?_⟩
  · unfold turnV
    rw [hok, turnI_len, inB_yes.2 ⟨hx0, hx1⟩, inB_yes.2 ⟨hy0, hy1⟩, Int.toNat_natCast, Int.toNat_natCast]
    simp only [Bool.and_self, if_true]
    rw [turnI_turnI ha hb]
    congr 2
    refine ext_gt (by rw [turnM_len, turnM_len]) fun k hk => ?_
    rw [turnM_len, turnM_len] at hk
    rw [turnM_gt (by rw [turnM_len]; omega) (by rw [turnM_len]; omega) (by rw [turnM_len]; exact hk), turnM_gt (by omega) (by omega) (sw_lt (by omega) (by omega) hk), sw_sw]
    have hl := (m5 _ (gt_mem hk)).1
    exact turnI_turnI (by omega) (by omega)
  · have hp : pageOk (l.length : Int) (wholeP l.length k) = true := wholeP_ok m1 m2 hk
    have b1 : bothOk l r (wholeP l.length k) = true := by unfold bothOk; rw [hm, hp]; rfl
    have b2 : bothOk (turnI a b l) (turnM a b r) (wholeP l.length k) = true := by unfold bothOk; rw [hok, turnI_len, hp]; rfl
    rw [manyV_ok b1, manyV_ok b2]
    have := many_turn hm ha hb k (-1) (by omega)
    rw [swZ_neg (by omega)] at this
    unfold wholeP
    rw [this]
end Go.Proofs.Ytfjoininagdlcaa
