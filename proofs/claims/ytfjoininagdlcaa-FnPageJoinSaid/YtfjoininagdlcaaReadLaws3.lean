/- Sure places, words at the end and joined pages, in plain Lean. -/
import Derived.Test.YtfjoininagdlcaaReadLaws
import Derived.Test.YtfjoininagdlcaaSure
namespace Go.Proofs.Ytfjoininagdlcaa
/-! Sure places. -/
theorem sure_mem {S : List (List Int)} {n i : Nat} (h : i < n) : hasI (sureR S n) (i : Int) = decide ((gt S i).length = 1) := by
  rw [Bool.eq_iff_iff, hasI_iff, decide_eq_true_eq]
  unfold sureR
  rw [List.mem_map]
  constructor
  · rintro ⟨k, hk, e⟩
    have : k = i := by omega
    subst this
    have := (List.mem_filter.1 hk).2
    simpa using this
  · intro hl
    exact ⟨i, List.mem_filter.2 ⟨List.mem_range.2 h, by simpa using hl⟩, rfl⟩
theorem many_one_le {l : List Int} {r : List (List Int)} : ∀ {ps : List (List Int)} {b : Int}, (∀ p ∈ ps, p.length = 1) → manyOf l r ps b ≤ 1
  | [], _, _ => Nat.le_refl _
  | p :: ps, b, h => by
    have h1 := h p (List.mem_cons_self ..)
    obtain ⟨x, rfl⟩ : ∃ x, p = [x] := by
      cases p with
      | nil => simp at h1
      | cons x t => cases t with
        | nil => exact ⟨x, rfl⟩
        | cons _ _ => simp at h1
    have h2 := many_one_le (l := l) (r := r) (b := x) fun q hq => h q (List.mem_cons_of_mem _ hq)
    rw [many_cons]
    unfold manyStep
    simp only [List.map_cons, List.map_nil, List.sum_cons, List.sum_nil]
    split <;> omega
theorem asc_same {x : Int} : ∀ {p : List Int}, asc p → (∀ y ∈ p, y = x) → p.length ≤ 1
  | [], _, _ => by simp
  | [_], _, _ => by simp
  | y :: z :: p, h, he => by
    have h1 := h.1 z (by simp)
    have h2 := he y (by simp)
    have h3 := he z (by simp)
    omega
theorem sureR_full {S : List (List Int)} {n : Nat} : (sureR S n).length = n ↔ ∀ i, i < n → (gt S i).length = 1 := by
  induction n with
  | zero => simp [sureR]
  | succ n ih =>
    rw [sureR_succ, List.length_append]
    have h1 := sureR_len S n
    constructor
    · intro h i hi
      by_cases e : (gt S n).length = 1
      · rw [if_pos e] at h
        have h2 := ih.1 (by simpa using h)
        by_cases e2 : i = n
        · rw [e2]; exact e
        · exact h2 i (by omega)
      · rw [if_neg e] at h
        simp at h
        omega
    · intro h
      rw [if_pos (h n (by omega)), ih.2 fun i hi => h i (by omega)]; rfl
theorem sure_law {l : List Int} {r page : List (List Int)} (h : (sureV l r page).length ≠ 0) : ∃ S b f, seenV l r page = some S ∧ bestV l r page = some b ∧ firstV l r page = some f ∧ bothOk l r page = true ∧ S.length = page.length ∧ b.length = page.length ∧ f.length = page.length ∧
    (∀ i, i < page.length → hasI (sureV l r page) (i : Int) = decide ((gt S i).length = 1) ∧ ((gt S i).length = 1 → gt (gt S i) 0 = gt b i ∧ gt (gt S i) 0 = gt f i)) ∧ (decide ((sureV l r page).length = page.length) = decide (manyV l r page = 1)) := by
  cases hS : seenV l r page with
  | none =>
    exfalso
    apply h
    unfold sureV
    rw [hS]; rfl
  | some S =>
    obtain ⟨h1, h2, h3⟩ := seenV_some hS
    obtain ⟨_, hm, hSl, _, _⟩ := seen_law hS
    have hB := bestV_of h1 h2
    have hF := firstV_of h1 h2
    obtain ⟨_, _, _, _, hbl, _, hbc, _, _⟩ := best_law hB
    obtain ⟨_, hfl, _, _, hfc, _⟩ := first_law hF
    have hsv : sureV l r page = sureR S page.length := by unfold sureV; rw [hS, Option.getD_some, hSl]
    have hin : ∀ {xs : List Int}, canRead l r page (-1) xs → ∀ i, i < page.length → gt xs i ∈ gt S i := fun {xs} hc i hi => by
      rw [h3, seenL_gt hi, Nat.zero_add, List.mem_filter]
      have h4 := can_in hc hi
      refine ⟨h4, ?_⟩
      rw [← stands_eq hi h4]
      unfold standsR
      rw [List.any_eq_true]
      exact ⟨xs, mem_reads.2 hc, eqD_self _⟩
    have hone : ∀ {p : List Int} {x : Int}, p.length = 1 → x ∈ p → gt p 0 = x := fun {p x} hp hx => by
      cases p with
      | nil => cases hx
      | cons y t => cases t with
        | nil => rw [List.mem_singleton] at hx; exact hx.symm
        | cons _ _ => simp at hp
    refine ⟨S, _, _, rfl, hB, hF, h1, hSl, hbl, hfl, fun i hi => ⟨by rw [hsv]; exact sure_mem hi, fun hl => ⟨hone hl (hin hbc i hi), hone hl (hin hfc i hi)⟩⟩, ?_⟩
    rw [hsv, Bool.eq_iff_iff, decide_eq_true_eq, decide_eq_true_eq, sureR_full]
    constructor
    · intro ha
      have h4 : manyOf l r S (-1) ≤ 1 := many_one_le fun p hp => by
        obtain ⟨k, hk, rfl⟩ := List.getElem_of_mem hp
        rw [← gt_eq hk]
        exact ha k (by omega)
      have h5 : manyOf l r S (-1) = manyOf l r page (-1) := by rw [h3]; exact many_of_reads (reads_seen l r page)
      rw [manyV_ok h1]
      omega
    · intro ha i hi
      rw [manyV_ok h1] at ha
      have h4 : (readsOf l r page []).length = 1 := by rw [readsLen]; omega
      obtain ⟨t, ht⟩ : ∃ t, readsOf l r page [] = [t] := by
        cases hq : readsOf l r page [] with
        | nil => rw [hq] at h4; simp at h4
        | cons x q => cases q with
          | nil => exact ⟨x, rfl⟩
          | cons _ _ => rw [hq] at h4; simp at h4
      have hne := seen_some h2 hi
      have hgi : gt S i = (gt page i).filter (standsF l r page i) := by rw [h3, seenL_gt hi, Nat.zero_add]
      have hok := bothOk_yes (both_seen h1 h2)
      rw [← h3] at hok
      have hle : (gt S i).length ≤ 1 := asc_same (x := gt t i) (pageOk_asc hok.2 _ (gt_mem (by omega))) fun y hy => by
        rw [hgi, List.mem_filter] at hy
        rw [← stands_eq hi hy.1] at hy
        have h6 := hy.2
        unfold standsR at h6
        rw [List.any_eq_true, ht] at h6
        obtain ⟨z, hz, hz2⟩ := h6
        rw [List.mem_singleton] at hz
        rw [hz, eqD_iff] at hz2
        exact hz2.symm
      rw [← hgi] at hne
      have := List.length_pos_iff.2 hne
      omega
/-! Words at the end. -/
theorem states_law {l : List Int} {r : List (List Int)} {k : Int} (h : (statesV l r k).length ≠ 0) : ∃ K : Nat, k = K ∧ 1 ≤ K ∧ K ≤ 8 ∧ modelOk l r = true ∧ ∃ S, seenV l r (wholeP l.length K) = some S ∧ S.length = K ∧ gt S (K - 1) = statesV l r k := by
  unfold statesV at h
  split at h
  case isFalse => exact absurd rfl h
  rename_i hc
  rw [Bool.and_eq_true, inB_yes] at hc
  obtain ⟨hm, hk1, hk8⟩ := hc
  obtain ⟨K, rfl⟩ := Int.eq_ofNat_of_zero_le (by omega : 0 ≤ k)
  rw [Int.toNat_natCast] at h
  have hK : K - 1 + 1 = K := by omega
  have hv : statesV l r (K : Int) = endsR l r l.length (K - 1) := by
    unfold statesV
    rw [hm, inB_yes.2 ⟨hk1, hk8⟩, Int.toNat_natCast]; rfl
  refine ⟨K, rfl, by omega, by omega, hm, ?_⟩
  cases hS : seenV l r (wholeP l.length K) with
  | none =>
    exfalso
    have := states_none (l := l) (r := r) (s := K - 1) hm (by omega) (by rw [hK, hS]; rfl)
    rw [this] at h
    exact h rfl
  | some S =>
    have := states_some (l := l) (r := r) (s := K - 1) hm (by omega) (by rw [hK, hS]; rfl)
    rw [hK, hS] at this
    exact ⟨S, rfl, this.1, by rw [hv]; exact this.2⟩
/-! Joined pages, and the model in which all words can follow each other. -/
def onesL (n : Nat) : List Int := List.replicate n 1
def onesM (n : Nat) : List (List Int) := List.replicate n (onesL n)
theorem ones_ok {n : Nat} (h1 : 1 ≤ n) (h6 : n ≤ 6) : modelOk (onesL n) (onesM n) = true := by
  have hw : weightsOk (onesL n) (n : Int) = true := by
    unfold weightsOk
    rw [Bool.and_eq_true, decide_eq_true_eq, List.all_eq_true]
    refine ⟨by simp [onesL], fun x hx => ?_⟩
    have := List.eq_of_mem_replicate hx
    rw [this]; rfl
  have hl : (onesL n).length = n := by simp [onesL]
  unfold modelOk
  rw [hl, inB_yes.2 ⟨by omega, by omega⟩, hw, Bool.true_and, Bool.true_and, Bool.and_eq_true, decide_eq_true_eq, List.all_eq_true]
  refine ⟨by simp [onesM], fun x hx => ?_⟩
  rw [List.eq_of_mem_replicate hx]
  exact hw
theorem ones_wgt {n : Nat} {b x : Int} (hb : b < n) (h0 : 0 ≤ x) (hx : x < n) : wgt (onesL n) (onesM n) b x = 1 := by
  have h1 : gt (onesL n) x.toNat = 1 := by
    have : x.toNat < n := by omega
    simp [gt, onesL, this]
  unfold wgt
  split
  · exact h1
  · have : b.toNat < n := by omega
    have h2 : gt (onesM n) b.toNat = onesL n := by simp [gt, onesM, this]
    rw [h2, h1]
def prodL : List (List Int) → Nat
  | [] => 1
  | p :: ps => p.length * prodL ps
theorem prodL_append : ∀ a c : List (List Int), prodL (a ++ c) = prodL a * prodL c
  | [], c => by simp [prodL]
  | p :: a, c => by rw [List.cons_append, prodL, prodL, prodL_append a c, Nat.mul_assoc]
theorem sum_const {α : Type} (k : Nat) : ∀ p : List α, (p.map fun _ => k).sum = p.length * k
  | [] => by simp
  | x :: p => by rw [List.map_cons, List.sum_cons, sum_const k p, List.length_cons, Nat.add_mul]; omega
theorem many_ones {n : Nat} : ∀ {ps : List (List Int)} {b : Int}, b < n → (∀ p ∈ ps, ∀ x ∈ p, 0 ≤ x ∧ x < (n : Int)) → manyOf (onesL n) (onesM n) ps b = prodL ps
  | [], _, _, _ => rfl
  | p :: ps, b, hb, h => by
    rw [many_cons, prodL, ← sum_const]
    refine sum_congr fun x hx => ?_
    have h1 := h p (List.mem_cons_self ..) x hx
    unfold manyStep
    rw [ones_wgt hb h1.1 h1.2, if_pos (by decide), many_ones h1.2 fun q hq => h q (List.mem_cons_of_mem _ hq)]
theorem join_law {n : Nat} {a c : List (List Int)} (ha : pageOk (n : Int) a = true) (hc : pageOk (n : Int) c = true) (hl : a.length + c.length ≤ 8) : 1 ≤ n ∧ n ≤ 6 ∧ manyV (onesL n) (onesM n) (a ++ c) = manyV (onesL n) (onesM n) a * manyV (onesL n) (onesM n) c := by
  have h1 : 1 ≤ n ∧ n ≤ 6 := by
    unfold pageOk at ha
    rw [Bool.and_eq_true, inB_yes] at ha
    omega
  have hlen : (onesL n).length = n := by simp [onesL]
  have hj : pageOk (n : Int) (a ++ c) = true := by
    unfold pageOk at ha hc ⊢
    rw [Bool.and_eq_true, Bool.and_eq_true, decide_eq_true_eq, List.all_eq_true] at ha hc ⊢
    refine ⟨ha.1, by rw [List.length_append]; exact hl, fun p hp => ?_⟩
    rcases List.mem_append.1 hp with hp | hp
    · exact ha.2.2 p hp
    · exact hc.2.2 p hp
  have key : ∀ ps, pageOk (n : Int) ps = true → manyV (onesL n) (onesM n) ps = (prodL ps : Int) := fun ps hp => by
    have hb : bothOk (onesL n) (onesM n) ps = true := by unfold bothOk; rw [ones_ok h1.1 h1.2, hlen, hp]; rfl
    rw [manyV_ok hb, many_ones (by omega) fun p hp1 x hx => ((pageOk_yes hp).2 p hp1).2 x hx]
  refine ⟨h1.1, h1.2, ?_⟩
  rw [key _ hj, key _ ha, key _ hc, prodL_append, Int.natCast_mul]
end Go.Proofs.Ytfjoininagdlcaa
