/- How many copies there are: the fold of the visit, in plain Lean. -/
import Derived.Test.YthijnojefeeaoaaLeast2
import Derived.Test.YthijnojefeeaoaaCopyPure
import Derived.Test.YthijnojefeeaoaaCopy
namespace Go.Proofs.Ythijnojefeeaoaa
open Go.RowKit
def stepW (ys : List Int) (e : Nat × Tok) : List Int := ys.set e.1 (IntKind.i64.wrap (gt ys e.1 + gt ys (e.1 + e.2.wd)))
theorem sumI_nn : ∀ {l : List Int}, (∀ x ∈ l, 0 ≤ x) → 0 ≤ sumI l
  | [], _ => by simp [sumI]
  | a :: l, hl => by
    have h1 := sumI_nn fun q hq => hl q (List.mem_cons_of_mem _ hq)
    have h2 := hl a (by simp)
    rw [sumI]; omega
theorem sumI_mem : ∀ {l : List Int}, (∀ x ∈ l, 0 ≤ x) → ∀ {y : Int}, y ∈ l → y ≤ sumI l
  | [], _, _, hy => by cases hy
  | x :: r, h, y, hy => by
    have hx := h x (by simp)
    have hr : ∀ x ∈ r, 0 ≤ x := fun z hz => h z (List.mem_cons_of_mem _ hz)
    have hs := sumI_nn hr
    rw [sumI]
    rcases List.mem_cons.1 hy with rfl | hy
    · omega
    · have := sumI_mem hr hy
      omega
theorem gt_in {l : List Int} {k : Nat} (h : k < l.length) : gt l k ∈ l := gt_mem h
/-- The counts are at least 0 and at most 4 to the number of words; the first is at least 1. -/
theorem manyL_bd {bs : List BriefT} (hb : briefsOk bs = true) : ∀ ws : List ByteArray, (∀ x ∈ manyL bs ws, 0 ≤ x ∧ x ≤ ((4 ^ ws.length : Nat) : Int)) ∧ 1 ≤ gt (manyL bs ws) 0
  | [] => ⟨fun x hx => by
      have : x ∈ [(1 : Int)] := hx
      rw [List.mem_singleton] at this
      subst this
      simp, by rw [manyL]; simp [gt]⟩
  | w :: ws => by
    obtain ⟨h1, h2⟩ := manyL_bd hb ws
    have hwd : ∀ b ∈ bs, 1 ≤ b.2.length := fun b hm => (briefs_wd hb b hm).1
    have hent : ∀ x ∈ (toks 0 bs (w :: ws)).map fun t => gt (manyL bs ws) (t.wd - 1), 0 ≤ x ∧ x ≤ ((4 ^ ws.length : Nat) : Int) := fun x hx => by
      obtain ⟨t, ht, rfl⟩ := List.mem_map.1 hx
      have hf := toks_fit 0 bs (w :: ws) (by simp) t ht
      rw [List.length_cons] at hf
      exact h1 _ (gt_mem (by rw [manyL_len]; have := toks_wd 0 bs (w :: ws) hwd t ht; omega))
    have hs := sumI_le hent
    have hl : ((toks 0 bs (w :: ws)).map fun t => gt (manyL bs ws) (t.wd - 1)).length ≤ 4 := by
      rw [List.length_map, toks_few]
      have := ahead_few hb (w :: ws)
      omega
    have hp : (4 ^ (w :: ws).length : Nat) = 4 * 4 ^ ws.length := by rw [List.length_cons, Nat.pow_succ]; omega
    have hm : (((toks 0 bs (w :: ws)).map fun t => gt (manyL bs ws) (t.wd - 1)).length : Int) * ((4 ^ ws.length : Nat) : Int) ≤ ((4 * 4 ^ ws.length : Nat) : Int) := by
      rw [Int.natCast_mul]
      exact Int.mul_le_mul_of_nonneg_right (by omega) (by omega)
    rw [manyL]
    refine ⟨fun x hx => ?_, ?_⟩
    · rw [hp]
      rcases List.mem_cons.1 hx with rfl | hx
      · omega
      · have := h1 x hx
        omega
    · have hlast : gt (manyL bs ws) 0 ∈ (toks 0 bs (w :: ws)).map fun t => gt (manyL bs ws) (t.wd - 1) := List.mem_map.2 ⟨_, toks_last 0 bs (w :: ws), rfl⟩
      have := sumI_mem (fun x hx => (hent x hx).1) hlast
      show 1 ≤ gt (sumI _ :: manyL bs ws) 0
      rw [show gt (sumI ((toks 0 bs (w :: ws)).map fun t => gt (manyL bs ws) (t.wd - 1)) :: manyL bs ws) 0 = sumI ((toks 0 bs (w :: ws)).map fun t => gt (manyL bs ws) (t.wd - 1)) by simp [gt]]
      omega
theorem fold_sum (p : Nat) (L2 : List Int) (M : Int) (hM : ∀ x ∈ L2, 0 ≤ x ∧ x ≤ M) : ∀ (l : List Tok) (a : Int), (∀ t ∈ l, 1 ≤ t.wd ∧ t.wd ≤ L2.length) → 0 ≤ a → a + l.length * M ≤ 9223372036854775807 →
    (l.map fun t => (p, t)).foldl stepW (List.replicate p 0 ++ a :: L2) = List.replicate p 0 ++ (a + sumI (l.map fun t => gt L2 (t.wd - 1))) :: L2
  | [], a, _, _, _ => by simp [sumI]
  | t :: l, a, h, ha, hb => by
    obtain ⟨t1, t2⟩ := h t (by simp)
    have hx := hM _ (gt_mem (l := L2) (k := t.wd - 1) (by omega))
    have hM0 : 0 ≤ M := by omega
    have hlen : (((t :: l).length : Nat) : Int) * M = l.length * M + M := by rw [List.length_cons, Int.natCast_add, Int.add_mul]; simp
    have hl0 : 0 ≤ (l.length : Int) * M := Int.mul_nonneg (by omega) hM0
    have hg0 : gt (List.replicate p 0 ++ a :: L2) p = a := by
      have := gt_right (List.replicate p (0 : Int)) (a :: L2) 0
      rw [List.length_replicate, Nat.add_zero] at this
      rw [this]; simp [gt]
    have hg1 : gt (List.replicate p 0 ++ a :: L2) (p + t.wd) = gt L2 (t.wd - 1) := by
      have := gt_right (List.replicate p (0 : Int)) (a :: L2) t.wd
      rw [List.length_replicate] at this
      rw [this]
      obtain ⟨q, hq⟩ : ∃ q, t.wd = q + 1 := ⟨t.wd - 1, by omega⟩
      rw [hq]
      simp [gt]
    have hst : stepW (List.replicate p 0 ++ a :: L2) (p, t) = List.replicate p 0 ++ (a + gt L2 (t.wd - 1)) :: L2 := by
      unfold stepW
      dsimp only
      rw [hg0, hg1, IntWalk.i64_in _ (by omega)]
      have := set_right (List.replicate p (0 : Int)) L2 a (a + gt L2 (t.wd - 1))
      rw [List.length_replicate] at this
      exact this
    rw [List.map_cons, List.foldl_cons, hst, fold_sum p L2 M hM l _ (fun z hz => h z (List.mem_cons_of_mem _ hz)) (by omega) (by omega), List.map_cons, sumI]
    congr 2
    omega
theorem fold_many {bs : List BriefT} (hb : briefsOk bs = true) (ws : List ByteArray) (h20 : ws.length ≤ 20) : ∀ (q p : Nat), p + q = ws.length →
    (evs bs p (ws.drop p)).foldl stepW (List.replicate ws.length 0 ++ [1]) = List.replicate p 0 ++ manyL bs (ws.drop p)
  | 0, p, h => by
    have e : p = ws.length := by omega
    subst e
    rw [List.drop_eq_nil_of_le (Nat.le_refl _), evs, manyL]
    rfl
  | q + 1, p, h => by
    have hp : p < ws.length := by omega
    have hwd : ∀ b ∈ bs, 1 ≤ b.2.length := fun b hm => (briefs_wd hb b hm).1
    have hbd := (manyL_bd hb (ws.drop (p + 1))).1
    have hpw : (4 ^ (ws.drop (p + 1)).length : Nat) ≤ 4 ^ 20 := Nat.pow_le_pow_right (by omega) (by rw [List.length_drop]; omega)
    have hrep : List.replicate (p + 1) (0 : Int) = List.replicate p 0 ++ [0] := List.replicate_succ'
    have hf := toks_few 0 bs (ws.drop p)
    have hf3 := ahead_few hb (ws.drop p)
    rw [evs_drop hp, List.foldl_append, fold_many hb ws h20 q (p + 1) (by omega), hrep, List.append_assoc]
    show ((toks 0 bs (ws.drop p)).map fun t => (p, t)).foldl stepW (List.replicate p 0 ++ (0 :: manyL bs (ws.drop (p + 1)))) = _
    rw [fold_sum p _ _ hbd _ _ (fun t ht => ⟨toks_wd 0 bs _ hwd t ht, by
      have := toks_fit 0 bs (ws.drop p) (by rw [List.length_drop]; omega) t ht
      rw [manyL_len, List.length_drop]
      rw [List.length_drop] at this
      omega⟩) (Int.le_refl _) (by
        have h4 : ((toks 0 bs (ws.drop p)).length : Int) * ((4 ^ (ws.drop (p + 1)).length : Nat) : Int) ≤ 4 * ((4 ^ 20 : Nat) : Int) := Int.mul_le_mul (by omega) (Int.ofNat_le.2 hpw) (Int.natCast_nonneg _) (by omega)
        have h5 : (4 : Int) * ((4 ^ 20 : Nat) : Int) ≤ 9223372036854775807 := by decide
        omega)]
    rw [drop_gt hp, manyL, Int.zero_add]
end Go.Proofs.Ythijnojefeeaoaa
