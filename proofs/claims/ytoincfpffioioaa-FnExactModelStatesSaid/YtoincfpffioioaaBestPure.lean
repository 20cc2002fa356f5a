/- The best reading of a page, in plain Lean. -/
import Derived.Test.YtoincfpffioioaaRankPure
import Derived.Test.YtoincfpffioioaaFirstPure
namespace Go.Proofs.Ytoincfpffioioaa
theorem snocInd {α : Type} {P : List α → Prop} (l : List α) (nil : P []) (append_singleton : ∀ p y, P p → P (p ++ [y])) : P l := by
  have h : ∀ m : List α, P m.reverse := by
    intro m
    induction m with
    | nil => exact nil
    | cons x m ih => rw [List.reverse_cons]; exact append_singleton _ _ ih
  have := h l.reverse
  rwa [List.reverse_reverse] at this
theorem le_sum_mem {a : Nat} : ∀ {l : List Nat}, a ∈ l → a ≤ l.sum
  | x :: l, h => by
    rw [List.sum_cons]
    rcases List.mem_cons.1 h with rfl | h
    · omega
    · have := le_sum_mem h; omega
/-- The greatest weight of all places left, behind a word; -1 for none. -/
def mostOf (l : List Int) (r : List (List Int)) : List (List Int) → Int → Int
  | [], _ => 0
  | p :: ps, b => p.foldl (fun best y => if 0 < wgt l r b y ∧ 0 ≤ mostOf l r ps y then max best (wgt l r b y + mostOf l r ps y) else best) (-1)
def candV (l : List Int) (r ps : List (List Int)) (b y : Int) : Int := if 0 < wgt l r b y ∧ 0 ≤ mostOf l r ps y then wgt l r b y + mostOf l r ps y else -1
theorem candV_ge (l : List Int) (r ps : List (List Int)) (b y : Int) : -1 ≤ candV l r ps b y := by unfold candV; split <;> omega
/-- The words as the reference picks them. -/
def bestOf (l : List Int) (r : List (List Int)) : List (List Int) → Int → List Int
  | [], _ => []
  | p :: ps, b => ((p.find? fun y => decide (candV l r ps b y = mostOf l r (p :: ps) b)).getD b) :: bestOf l r ps ((p.find? fun y => decide (candV l r ps b y = mostOf l r (p :: ps) b)).getD b)
/-- The first element of the greatest value, with that value. -/
def amax (g : Int → Int) (p : List Int) : Option Int × Int := p.foldl (fun s y => if s.2 < g y then (some y, g y) else s) (none, -1)
theorem amax_snoc (g : Int → Int) (p : List Int) (y : Int) : amax g (p ++ [y]) = if (amax g p).2 < g y then (some y, g y) else amax g p := by
  unfold amax; rw [List.foldl_append]; rfl
theorem amax_ge (g : Int → Int) (p : List Int) : -1 ≤ (amax g p).2 := by
  induction p using snocInd with
  | nil => simp [amax]
  | append_singleton p y ih => rw [amax_snoc]; split <;> simp_all <;> omega
theorem amax_le (g : Int → Int) (p : List Int) : ∀ z ∈ p, g z ≤ (amax g p).2 := by
  induction p using snocInd with
  | nil => intro z hz; cases hz
  | append_singleton p y ih =>
    intro z hz
    rw [amax_snoc]
    rcases List.mem_append.1 hz with hz | hz
    · have := ih z hz
      split
      · simp; omega
      · exact this
    · rw [List.mem_singleton] at hz
      subst hz
      split
      · simp
      · omega
theorem amax_find (g : Int → Int) (p : List Int) (h : 0 ≤ (amax g p).2) : p.find? (fun y => decide (g y = (amax g p).2)) = (amax g p).1 ∧ ∃ y, (amax g p).1 = some y ∧ y ∈ p ∧ g y = (amax g p).2 := by
  induction p using snocInd with
  | nil => simp [amax] at h
  | append_singleton p y ih =>
    rw [amax_snoc] at h ⊢
    by_cases hlt : (amax g p).2 < g y
    · rw [if_pos hlt]
      refine ⟨?_, y, rfl, by simp, rfl⟩
      have hnone : p.find? (fun z => decide (g z = g y)) = none := by
        rw [List.find?_eq_none]
        intro z hz
        have := amax_le g p z hz
        simp
        omega
      show (p ++ [y]).find? (fun z => decide (g z = g y)) = some y
      rw [List.find?_append, hnone]
      simp
    · rw [if_neg hlt] at h ⊢
      obtain ⟨h1, z, h2, h3, h4⟩ := ih h
      refine ⟨?_, z, h2, by simp [h3], h4⟩
      rw [List.find?_append, h1, h2]
      rfl
theorem amax_most (l : List Int) (r ps : List (List Int)) (b : Int) (p : List Int) : (amax (candV l r ps b) p).2 = mostOf l r (p :: ps) b := by
  have h : ∀ (p : List Int) (o : Option Int) (k : Int), -1 ≤ k → (p.foldl (fun (s : Option Int × Int) y => if s.2 < candV l r ps b y then (some y, candV l r ps b y) else s) (o, k)).2 = p.foldl (fun best y => if 0 < wgt l r b y ∧ 0 ≤ mostOf l r ps y then max best (wgt l r b y + mostOf l r ps y) else best) k := by
    intro p
    induction p with
    | nil => intro o k _; rfl
    | cons y p ih =>
      intro o k hk
      rw [List.foldl_cons, List.foldl_cons]
      by_cases hc : 0 < wgt l r b y ∧ 0 ≤ mostOf l r ps y
      · have hv : candV l r ps b y = wgt l r b y + mostOf l r ps y := by unfold candV; rw [if_pos hc]
        rw [if_pos hc, hv]
        by_cases h2 : k < wgt l r b y + mostOf l r ps y
        · rw [if_pos h2, ih _ _ (by omega), show max k (wgt l r b y + mostOf l r ps y) = wgt l r b y + mostOf l r ps y by omega]
        · rw [if_neg h2, ih _ _ hk, show max k (wgt l r b y + mostOf l r ps y) = k by omega]
      · have hv : candV l r ps b y = -1 := by unfold candV; rw [if_neg hc]
        rw [if_neg hc, hv, if_neg (by show ¬ k < -1; omega), ih _ _ hk]
  exact h p none (-1) (by omega)
theorem most_ge (l : List Int) (r ps : List (List Int)) (b : Int) : -1 ≤ mostOf l r ps b := by
  cases ps with
  | nil => simp [mostOf]
  | cons p ps => rw [← amax_most]; exact amax_ge _ _
theorem best_pick {l : List Int} {r ps : List (List Int)} {p : List Int} {b : Int} (h : 0 ≤ mostOf l r (p :: ps) b) : ∃ y, (amax (candV l r ps b) p).1 = some y ∧ y ∈ p ∧ candV l r ps b y = mostOf l r (p :: ps) b ∧ 0 < wgt l r b y ∧ 0 ≤ mostOf l r ps y ∧ p.find? (fun y => decide (candV l r ps b y = mostOf l r (p :: ps) b)) = some y := by
  rw [← amax_most] at h
  obtain ⟨h1, y, h2, h3, h4⟩ := amax_find _ _ h
  rw [amax_most] at h h1 h4
  refine ⟨y, h2, h3, h4, ?_, ?_, by rw [h1, h2]⟩
  all_goals
    unfold candV at h4
    split at h4
    · rename_i hc
      first | exact hc.1 | exact hc.2
    · omega
theorem bestOf_cons {l : List Int} {r ps : List (List Int)} {p : List Int} {b y : Int} (h : 0 ≤ mostOf l r (p :: ps) b) (hy : (amax (candV l r ps b) p).1 = some y) : bestOf l r (p :: ps) b = y :: bestOf l r ps y := by
  obtain ⟨z, h1, _, _, _, _, h2⟩ := best_pick h
  rw [h1] at hy
  injection hy with hy
  subst hy
  rw [bestOf, h2]
  rfl
/-- The sum of the weights of words that are read behind b. -/
def wsum (l : List Int) (r : List (List Int)) : Int → List Int → Int
  | _, [] => 0
  | b, x :: xs => wgt l r b x + wsum l r x xs
theorem wsum_snoc (l : List Int) (r : List (List Int)) : ∀ (pre : List Int) (b x : Int), wsum l r b (pre ++ [x]) = wsum l r b pre + wgt l r (if pre.length = 0 then b else gt pre (pre.length - 1)) x
  | [], b, x => by simp [wsum]
  | y :: pre, b, x => by
    rw [List.cons_append, wsum, wsum_snoc l r pre y x, wsum]
    cases pre with
    | nil => simp [gt, wsum]
    | cons z pre => simp [gt]; omega
theorem wsum_pre (l : List Int) (r : List (List Int)) (pre : List Int) (x : Int) : wsum l r (-1) (pre ++ [x]) = wsum l r (-1) pre + wgt l r (lastI pre) x := by
  rw [wsum_snoc]; rfl
theorem sumW_can {l : List Int} {r : List (List Int)} : ∀ {ps : List (List Int)} {b acc : Int} {xs : List Int}, canRead l r ps b xs → sumW l r b acc xs = acc + wsum l r b xs
  | [], b, acc, [], _ => by simp [sumW, wsum]
  | p :: ps, b, acc, x :: xs, h => by
    rw [sumW, if_neg (by have := h.2.1; omega), sumW_can h.2.2, wsum]; omega
  | [], _, _, _ :: _, h => h.elim
  | _ :: _, _, _, [], h => h.elim
/-- One reading more is looked at. -/
def bestStep (l : List Int) (r : List (List Int)) (s : Option (List Int) × Int) (x : List Int) : Option (List Int) × Int := if s.2 < wsum l r (-1) x then (some x, wsum l r (-1) x) else s
theorem best_fold (l : List Int) (r ps : List (List Int)) : ∀ (pre : List Int) (s : Option (List Int) × Int), (readsOf l r ps pre).foldl (bestStep l r) s = if 0 ≤ mostOf l r ps (lastI pre) ∧ s.2 < wsum l r (-1) pre + mostOf l r ps (lastI pre) then (some (pre ++ bestOf l r ps (lastI pre)), wsum l r (-1) pre + mostOf l r ps (lastI pre)) else s := by
  induction ps with
  | nil =>
    intro pre s
    simp only [readsOf, List.foldl_cons, List.foldl_nil, bestStep, mostOf, bestOf, Int.add_zero, List.append_nil]
    by_cases h : s.2 < wsum l r (-1) pre
    · rw [if_pos h, if_pos ⟨by omega, h⟩]
    · rw [if_neg h, if_neg (fun h2 => h h2.2)]
  | cons p ps ih =>
    intro pre s
    have key : ∀ q : List Int, (q.flatMap (stepR l r ps pre)).foldl (bestStep l r) s = if 0 ≤ (amax (candV l r ps (lastI pre)) q).2 ∧ s.2 < wsum l r (-1) pre + (amax (candV l r ps (lastI pre)) q).2 then (some (pre ++ ((amax (candV l r ps (lastI pre)) q).1.getD 0 :: bestOf l r ps ((amax (candV l r ps (lastI pre)) q).1.getD 0))), wsum l r (-1) pre + (amax (candV l r ps (lastI pre)) q).2) else s := by
      intro q
      induction q using snocInd with
      | nil => simp [amax]
      | append_singleton q y ihq =>
        rw [List.flatMap_append, List.foldl_append, ihq, amax_snoc]
        have hone : ([y] : List Int).flatMap (stepR l r ps pre) = stepR l r ps pre y := by simp
        rw [hone]
        have ha := amax_ge (candV l r ps (lastI pre)) q
        obtain ⟨a, ha'⟩ : ∃ a, amax (candV l r ps (lastI pre)) q = a := ⟨_, rfl⟩
        rw [ha'] at ha ⊢
        obtain ⟨S, hS⟩ : ∃ S, wsum l r (-1) pre = S := ⟨_, rfl⟩
        rw [hS]
        by_cases hc : 0 < wgt l r (lastI pre) y ∧ 0 ≤ mostOf l r ps y
        · have hv : candV l r ps (lastI pre) y = wgt l r (lastI pre) y + mostOf l r ps y := by unfold candV; rw [if_pos hc]
          have hst : stepR l r ps pre y = readsOf l r ps (pre ++ [y]) := by unfold stepR; rw [if_pos hc.1]
          rw [hst, ih, lastI_snoc, wsum_pre, hS, hv]
          obtain ⟨cc, hcc⟩ : ∃ cc, wgt l r (lastI pre) y + mostOf l r ps y = cc := ⟨_, rfl⟩
          have hassoc : S + wgt l r (lastI pre) y + mostOf l r ps y = S + cc := by omega
          rw [hassoc, hcc]
          have hc0 : 0 ≤ cc := by omega
          by_cases h1 : 0 ≤ a.2 ∧ s.2 < S + a.2
          · rw [if_pos h1]
            by_cases h2 : a.2 < cc
            · rw [if_pos ⟨hc.2, by show S + a.2 < S + cc; omega⟩, if_pos h2, if_pos ⟨hc0, by show s.2 < S + cc; omega⟩]
              simp
            · rw [if_neg (fun h => h2 (by have := h.2; simp only [] at this; omega)), if_neg h2, if_pos h1]
          · rw [if_neg h1]
            by_cases h2 : a.2 < cc
            · rw [if_pos h2]
              by_cases h3 : s.2 < S + cc
              · rw [if_pos ⟨hc.2, h3⟩, if_pos ⟨hc0, h3⟩]
                simp
              · rw [if_neg (fun h => h3 h.2), if_neg (fun h => h3 h.2)]
            · rw [if_neg h2, if_neg h1, if_neg (fun h => h1 ⟨by omega, by have := h.2; omega⟩)]
        · have hv : candV l r ps (lastI pre) y = -1 := by unfold candV; rw [if_neg hc]
          have hno : ¬ a.2 < -1 := by omega
          rw [hv, if_neg hno]
          have hnil : ∀ s' : Option (List Int) × Int, (stepR l r ps pre y).foldl (bestStep l r) s' = s' := by
            intro s'
            by_cases hw : 0 < wgt l r (lastI pre) y
            · have hst : stepR l r ps pre y = readsOf l r ps (pre ++ [y]) := by unfold stepR; rw [if_pos hw]
              rw [hst, ih, lastI_snoc, if_neg]
              intro h
              exact hc ⟨hw, h.1⟩
            · have hst : stepR l r ps pre y = [] := by unfold stepR; rw [if_neg hw]
              rw [hst]; rfl
          exact hnil _
    rw [readsOf_cons, key p, amax_most]
    by_cases h : 0 ≤ mostOf l r (p :: ps) (lastI pre) ∧ s.2 < wsum l r (-1) pre + mostOf l r (p :: ps) (lastI pre)
    · rw [if_pos h, if_pos h]
      obtain ⟨y, h1, _⟩ := best_pick h.1
      rw [bestOf_cons h.1 h1, h1]
      rfl
    · rw [if_neg h, if_neg h]
theorem most_many (l : List Int) (r ps : List (List Int)) : ∀ b : Int, 0 ≤ mostOf l r ps b ↔ 0 < manyOf l r ps b := by
  induction ps with
  | nil => intro b; simp [mostOf, manyOf]
  | cons p ps ih =>
    intro b
    constructor
    · intro h
      obtain ⟨y, _, hy, _, hw, hm, _⟩ := best_pick h
      rw [many_cons]
      have h1 : 0 < manyStep l r ps b y := by unfold manyStep; rw [if_pos hw]; exact (ih y).1 hm
      have h2 : manyStep l r ps b y ≤ (p.map (manyStep l r ps b)).sum := le_sum_mem (List.mem_map_of_mem hy)
      omega
    · intro h
      obtain ⟨x, hx⟩ := find_some h
      obtain ⟨h1, h2, h3⟩ := find_leads hx
      have h4 : candV l r ps b x = wgt l r b x + mostOf l r ps x := by unfold candV; rw [if_pos ⟨h2, (ih x).2 h3⟩]
      have h5 := amax_le (candV l r ps b) p x h1
      rw [amax_most] at h5
      have := (ih x).2 h3
      omega
def bestV (l : List Int) (r page : List (List Int)) : Option (List Int) := if bothOk l r page && decide (0 < manyOf l r page (-1)) then some (bestOf l r page (-1)) else none
theorem bestV_fold {l : List Int} {r page : List (List Int)} (h : bothOk l r page = true) : ((readsOf l r page []).foldl (bestStep l r) (none, -1)).1 = bestV l r page ∧ decide (0 ≤ ((readsOf l r page []).foldl (bestStep l r) (none, -1)).2) = (bestV l r page).isSome := by
  have h1 := best_fold l r page [] (none, -1)
  have h2 := most_many l r page (-1)
  have e : lastI [] = -1 := rfl
  rw [e] at h1
  unfold bestV
  rw [h, Bool.true_and, h1]
  by_cases hm : 0 < manyOf l r page (-1)
  · have h3 := h2.2 hm
    rw [if_pos ⟨h3, by simp [wsum]; omega⟩, if_pos (by simpa using hm)]
    refine ⟨by simp, ?_⟩
    simp [wsum]; omega
  · rw [if_neg (fun h => hm (h2.1 h.1)), if_neg (by simpa using hm)]
    exact ⟨rfl, by simp⟩
theorem bestOf_len (l : List Int) (r ps : List (List Int)) : ∀ b : Int, (bestOf l r ps b).length = ps.length := by
  induction ps with
  | nil => intro b; rfl
  | cons p ps ih => intro b; rw [bestOf, List.length_cons, List.length_cons, ih]
theorem bestV_len (l : List Int) (r page : List (List Int)) : ((bestV l r page).getD []).length ≤ 1048576 := by
  unfold bestV
  split
  · rename_i h
    rw [Bool.and_eq_true] at h
    have h1 := (pageOk_yes (bothOk_yes h.1).2).1
    have h2 := bestOf_len l r page (-1)
    simp only [Option.getD_some]
    omega
  · simp
theorem most_le {l : List Int} {r : List (List Int)} (hm : modelOk l r = true) : ∀ (ps : List (List Int)) (b : Int), b < l.length → (∀ p ∈ ps, ∀ y ∈ p, 0 ≤ y ∧ y < (l.length : Int)) → mostOf l r ps b ≤ 9 * ps.length
  | [], b, _, _ => by simp [mostOf]
  | p :: ps, b, hb, hp => by
    by_cases h : 0 ≤ mostOf l r (p :: ps) b
    · obtain ⟨y, _, hy, hc, hw, hmy, _⟩ := best_pick h
      have hy0 := hp p (List.mem_cons_self ..) y hy
      have h1 := most_le hm ps y hy0.2 fun q hq => hp q (List.mem_cons_of_mem _ hq)
      have h2 := wgt_bd hm hb hy0.1 hy0.2
      have h3 : candV l r ps b y = wgt l r b y + mostOf l r ps y := by unfold candV; rw [if_pos ⟨hw, hmy⟩]
      simp only [List.length_cons]
      omega
    · simp only [List.length_cons]
      omega
end Go.Proofs.Ytoincfpffioioaa
