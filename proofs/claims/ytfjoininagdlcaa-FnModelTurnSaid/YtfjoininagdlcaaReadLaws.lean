/- Laws of readings in plain Lean: forced places, seen words, best and first readings, ranks. More laws of readings in plain Lean: weights, best and first readings, ranks, sure places, states, joined pages. -/
import Derived.Test.YtfjoininagdlcaaPagePure
import Derived.Test.YtfjoininagdlcaaForceLaw
import Derived.Test.YtfjoininagdlcaaMany
namespace Go.Proofs.Ytfjoininagdlcaa
/-! Sums. -/
theorem sum_zero {α : Type} : ∀ p : List α, (p.map fun _ => 0).sum = 0
  | [] => rfl
  | _ :: p => by rw [List.map_cons, List.sum_cons, sum_zero p]
theorem sum_add_map {α : Type} (f g : α → Nat) : ∀ p : List α, (p.map fun x => f x + g x).sum = (p.map f).sum + (p.map g).sum
  | [] => rfl
  | x :: p => by
    have := sum_add_map f g p
    simp only [List.map_cons, List.sum_cons]
    omega
theorem sum_swap {α β : Type} (f : α → β → Nat) : ∀ (p : List α) (q : List β), (p.map fun x => (q.map fun y => f x y).sum).sum = (q.map fun y => (p.map fun x => f x y).sum).sum
  | [], q => by
    have := sum_zero q
    simp only [List.map_nil, List.sum_nil]
    exact this.symm
  | x :: p, q => by
    have h1 := sum_swap f p q
    have h2 := sum_add_map (fun y => f x y) (fun y => (p.map fun x => f x y).sum) q
    simp only [List.map_cons, List.sum_cons]
    rw [h2, h1]
theorem sum_congr {α : Type} {f g : α → Nat} {p : List α} (h : ∀ x ∈ p, f x = g x) : (p.map f).sum = (p.map g).sum := by rw [List.map_congr_left h]
/-- Readings are counted word by word. -/
theorem many_force (l : List Int) (r : List (List Int)) : ∀ (ps : List (List Int)) (i k : Nat) (b : Int), k < ps.length → ((gt ps k).map fun x => manyOf l r (forceL ((i + k : Nat) : Int) x i ps) b).sum = manyOf l r ps b
  | [], _, k, _, h => by simp at h
  | p :: ps, i, 0, b, _ => by
    have e : gt (p :: ps) 0 = p := rfl
    rw [e, many_cons]
    refine sum_congr fun x _ => ?_
    rw [forceL, if_pos (by simp), forceL_past _ _ _ _ (by omega), many_cons]
    simp
  | p :: ps, i, k + 1, b, h => by
    have e : gt (p :: ps) (k + 1) = gt ps k := by simp [gt]
    have hk : k < ps.length := by simpa using h
    rw [e]
    have e2 : ∀ x, manyOf l r (forceL ((i + (k + 1) : Nat) : Int) x i (p :: ps)) b = (p.map fun y => if 0 < wgt l r b y then manyOf l r (forceL ((i + 1 + k : Nat) : Int) x (i + 1) ps) y else 0).sum := fun x => by
      rw [forceL, if_neg (by omega), manyOf, show i + (k + 1) = i + 1 + k by omega]
    rw [sum_congr fun x _ => e2 x, sum_swap, manyOf]
    refine sum_congr fun y _ => ?_
    by_cases hw : 0 < wgt l r b y
    · simp only [hw, if_true]
      exact many_force l r ps (i + 1) k y hk
    · simp only [hw, if_false]
      exact sum_zero _
/-! Readings of a page whose places are sifted. -/
theorem flat_congr {f g : Int → List (List Int)} : ∀ {p : List Int}, (∀ x ∈ p, f x = g x) → p.flatMap f = p.flatMap g
  | [], _ => rfl
  | x :: p, h => by rw [List.flatMap_cons, List.flatMap_cons, h x (List.mem_cons_self ..), flat_congr fun y hy => h y (List.mem_cons_of_mem _ hy)]
theorem flat_sift {g : Int → Bool} {h : Int → List (List Int)} : ∀ p : List Int, (p.filter g).flatMap h = p.flatMap fun x => if g x then h x else []
  | [] => rfl
  | x :: p => by
    rw [List.flatMap_cons, ← flat_sift p, List.filter_cons]
    by_cases hg : g x = true
    · rw [if_pos hg, if_pos hg, List.flatMap_cons]
    · rw [if_neg hg, if_neg hg]; rfl
theorem sift_flat {q : List Int → Bool} {h : Int → List (List Int)} : ∀ p : List Int, (p.flatMap h).filter q = p.flatMap fun x => (h x).filter q
  | [] => rfl
  | x :: p => by rw [List.flatMap_cons, List.flatMap_cons, List.filter_append, sift_flat p]
/-- The test lets each word by, at places i on. -/
def okAt (f : Nat → Int → Bool) : Nat → Nat → List Int → Bool
  | _, 0, _ => true
  | i, n + 1, xs => f i (gt xs i) && okAt f (i + 1) n xs
theorem okAt_yes {f : Nat → Int → Bool} {xs : List Int} : ∀ {n i : Nat}, (∀ k, i ≤ k → k < i + n → f k (gt xs k) = true) → okAt f i n xs = true
  | 0, _, _ => rfl
  | n + 1, i, h => by
    rw [okAt, h i (Nat.le_refl _) (by omega), okAt_yes fun k h1 h2 => h k (by omega) (by omega)]; rfl
theorem okAt_at {f : Nat → Int → Bool} {xs : List Int} : ∀ {n i : Nat}, okAt f i n xs = true → ∀ k, i ≤ k → k < i + n → f k (gt xs k) = true
  | 0, _, _, k, h1, h2 => by omega
  | n + 1, i, h, k, h1, h2 => by
    rw [okAt, Bool.and_eq_true] at h
    by_cases e : k = i
    · rw [e]; exact h.1
    · exact okAt_at h.2 k (by omega) (by omega)
theorem reads_sift (l : List Int) (r : List (List Int)) (f : Nat → Int → Bool) : ∀ (ps : List (List Int)) (i : Nat) (pre : List Int), pre.length = i → readsOf l r (seenL f i ps) pre = (readsOf l r ps pre).filter (okAt f i ps.length)
  | [], i, pre, _ => by simp [seenL, readsOf, okAt]
  | p :: ps, i, pre, hi => by
    rw [seenL, readsOf_cons, flat_sift, readsOf_cons, sift_flat]
    refine flat_congr fun x _ => ?_
    unfold stepR
    by_cases hw : 0 < wgt l r (lastI pre) x
    · rw [if_pos hw, if_pos hw]
      have hx : ∀ xs ∈ readsOf l r ps (pre ++ [x]), okAt f i (p :: ps).length xs = (f i x && okAt f (i + 1) ps.length xs) := fun xs hxs => by
        obtain ⟨t, rfl, _⟩ := reads_pre hxs
        have e : gt ((pre ++ [x]) ++ t) i = x := by
          rw [gt_append (by simp; omega), ← hi, gt_last]
        rw [List.length_cons, okAt, e]
      rw [List.filter_congr hx]
      cases hf : f i x with
      | true =>
        simp only [Bool.true_and, if_true]
        exact reads_sift l r f ps (i + 1) (pre ++ [x]) (by simp; omega)
      | false => simp
    · rw [if_neg hw, if_neg hw]; simp
/-- The seen page has the readings of the page. -/
theorem reads_seen (l : List Int) (r page : List (List Int)) : readsOf l r (seenL (standsF l r page) 0 page) [] = readsOf l r page [] := by
  rw [← seen_eq, reads_sift l r _ page 0 [] rfl, List.filter_eq_self]
  intro xs hxs
  refine okAt_yes fun k _ hk => ?_
  unfold standsR
  rw [List.any_eq_true]
  exact ⟨xs, hxs, eqD_self _⟩
theorem asc_one {x : Int} : ∀ {p : List Int}, asc p → x ∈ p → p.filter (fun y => eqD y x) = [x]
  | y :: p, h, hx => by
    rw [List.filter_cons]
    by_cases e : y = x
    · subst e
      rw [if_pos (eqD_self _)]
      congr 1
      rw [List.filter_eq_nil_iff]
      intro z hz hh
      rw [eqD_iff] at hh
      have := h.1 z hz
      omega
    · rw [if_neg (by rw [eqD_no e]; decide)]
      rcases List.mem_cons.1 hx with hx | hx
      · exact absurd hx.symm e
      · exact asc_one h.2 hx
/-- A forced page, as a sifted one. -/
def atOnly (a x : Int) (k : Nat) (y : Int) : Bool := !eqD (k : Int) a || eqD y x
theorem force_sift {a x : Int} : ∀ {ps : List (List Int)} {i : Nat}, (∀ p ∈ ps, asc p) → (∀ k, k < ps.length → ((i + k : Nat) : Int) = a → x ∈ gt ps k) → forceL a x i ps = seenL (atOnly a x) i ps
  | [], _, _, _ => rfl
  | p :: ps, i, h, hx => by
    rw [forceL, seenL, force_sift (ps := ps) (i := i + 1) (fun q hq => h q (List.mem_cons_of_mem _ hq)) (fun k hk e => by
      have := hx (k + 1) (by simpa using hk) (by rw [← e]; congr 1; omega)
      simpa [gt] using this)]
    congr 1
    by_cases e : (i : Int) = a
    · rw [if_pos e]
      have h0 : x ∈ p := hx 0 (by simp) (by simpa using e)
      have : p.filter (atOnly a x i) = p.filter (fun y => eqD y x) := by
        refine List.filter_congr fun y _ => ?_
        unfold atOnly
        rw [e, eqD_self]; rfl
      rw [this, asc_one (h p (List.mem_cons_self ..)) h0]
    · rw [if_neg e]
      symm
      rw [List.filter_eq_self]
      intro y _
      unfold atOnly
      rw [eqD_no e]; rfl
theorem reads_force {l : List Int} {r page : List (List Int)} {a : Nat} {x : Int} (h : ∀ p ∈ page, asc p) (ha : a < page.length) (hx : x ∈ gt page a) : readsOf l r (forceL (a : Int) x 0 page) [] = (readsOf l r page []).filter fun xs => eqD (gt xs a) x := by
  rw [force_sift h (fun k hk e => by
    have : k = a := by omega
    rw [this]; exact hx), reads_sift l r _ page 0 [] rfl]
  refine List.filter_congr fun xs _ => ?_
  rw [Bool.eq_iff_iff]
  constructor
  · intro hh
    have := okAt_at hh a (Nat.zero_le _) (by omega)
    unfold atOnly at this
    rw [eqD_self] at this
    exact this
  · intro hh
    refine okAt_yes fun k _ hk => ?_
    unfold atOnly
    by_cases e : (k : Int) = a
    · have e2 : k = a := by omega
      rw [e2, hh]; simp
    · rw [eqD_no e]; rfl
/-! Pages that are sifted are pages. -/
theorem placeFrom_weak {n : Int} {a b : Int} (hab : a ≤ b) : ∀ {p : List Int}, placeFrom n b p = true → placeFrom n a p = true
  | [], _ => rfl
  | x :: p, h => by
    simp only [placeFrom, Bool.and_eq_true, inB_yes] at h ⊢
    exact ⟨⟨by omega, h.1.2⟩, h.2⟩
theorem placeFrom_sift {n : Int} {g : Int → Bool} : ∀ {p : List Int} {a : Int}, placeFrom n a p = true → placeFrom n a (p.filter g) = true
  | [], _, _ => rfl
  | x :: p, a, h => by
    rw [List.filter_cons]
    simp only [placeFrom, Bool.and_eq_true, inB_yes] at h
    split
    · simp only [placeFrom, Bool.and_eq_true, inB_yes]
      exact ⟨h.1, placeFrom_sift h.2⟩
    · exact placeFrom_sift (placeFrom_weak (by omega) h.2)
theorem pageOk_sift {n : Int} {f : Nat → Int → Bool} {page : List (List Int)} (h : pageOk n page = true) (hne : ∀ k, k < page.length → (gt page k).filter (f k) ≠ []) : pageOk n (seenL f 0 page) = true := by
  unfold pageOk at h ⊢
  rw [Bool.and_eq_true, Bool.and_eq_true, decide_eq_true_eq, List.all_eq_true] at h ⊢
  refine ⟨h.1, by rw [seenL_len]; exact h.2.1, fun p hp => ?_⟩
  obtain ⟨k, hk, rfl⟩ := List.getElem_of_mem hp
  have hk' : k < page.length := by rw [seenL_len] at hk; exact hk
  rw [← gt_eq hk, seenL_gt hk', Nat.zero_add]
  have h1 := h.2.2 _ (gt_mem hk')
  unfold placeOk at h1 ⊢
  rw [Bool.and_eq_true] at h1 ⊢
  refine ⟨placeFrom_sift h1.1, ?_⟩
  have := hne k hk'
  cases hq : (gt page k).filter (f k) with
  | nil => exact absurd hq this
  | cons _ _ => rfl
theorem both_of {l : List Int} {r page page' : List (List Int)} (h : bothOk l r page = true) (hp : pageOk (l.length : Int) page' = true) : bothOk l r page' = true := by
  unfold bothOk
  rw [(bothOk_yes h).1, hp]; rfl
theorem both_seen {l : List Int} {r page : List (List Int)} (h : bothOk l r page = true) (h0 : 0 < manyOf l r page (-1)) : bothOk l r (seenL (standsF l r page) 0 page) = true :=
  both_of h (pageOk_sift (bothOk_yes h).2 fun _ hk => seen_some h0 hk)
theorem in_page {n : Int} {page : List (List Int)} (h : pageOk n page = true) {a : Nat} {x : Int} (ha : a < page.length) (hx : x ∈ gt page a) : 0 ≤ x ∧ x < n := ((pageOk_yes h).2 _ (gt_mem ha)).2 x hx
theorem both_forced {l : List Int} {r page : List (List Int)} {a : Nat} {x : Int} (h : bothOk l r page = true) (ha : a < page.length) (hx : x ∈ gt page a) : bothOk l r (forceL (a : Int) x 0 page) = true :=
  both_of h (forceL_ok (bothOk_yes h).2 (in_page (bothOk_yes h).2 ha hx).1 (in_page (bothOk_yes h).2 ha hx).2)
theorem forceV_some {n : Int} {page : List (List Int)} (h : pageOk n page = true) {a : Nat} {x : Int} (ha : a < page.length) (hx : x ∈ gt page a) : forceV n page (a : Int) x = some (forceL (a : Int) x 0 page) := by
  unfold forceV
  rw [h, inB_yes.2 ⟨by omega, by omega⟩, Int.toNat_natCast, hasI_iff.2 hx]; rfl
theorem manyV_ok {l : List Int} {r page : List (List Int)} (h : bothOk l r page = true) : manyV l r page = (manyOf l r page (-1) : Int) := by unfold manyV; rw [if_pos h]
theorem manyV_yes {l : List Int} {r page : List (List Int)} (h : 0 ≤ manyV l r page) : bothOk l r page = true := by
  unfold manyV at h
  split at h
  · assumption
  · omega
theorem seenV_some {l : List Int} {r page S : List (List Int)} (h : seenV l r page = some S) : bothOk l r page = true ∧ 0 < manyOf l r page (-1) ∧ S = seenL (standsF l r page) 0 page := by
  unfold seenV at h
  split at h
  · rename_i hc
    rw [Bool.and_eq_true, decide_eq_true_eq] at hc
    injection h with h
    exact ⟨hc.1, hc.2, h.symm⟩
  · cases h
theorem many_of_reads {l : List Int} {r p q : List (List Int)} (h : readsOf l r p [] = readsOf l r q []) : manyOf l r p (-1) = manyOf l r q (-1) := by
  have h1 := reads_many l r p []
  have h2 := reads_many l r q []
  rw [h] at h1
  exact h1.symm.trans h2
/-- Seen again, a seen page is the same; it has as many readings; each word of the page is seen where it can be forced. -/
theorem seen_law {l : List Int} {r page S : List (List Int)} (h : seenV l r page = some S) : seenV l r S = some S ∧ manyV l r S = manyV l r page ∧ S.length = page.length ∧ bothOk l r page = true ∧
    ∀ i, i < page.length → ∀ x ∈ gt page i, hasI (gt S i) x = decide (0 < manyV l r (forceL (i : Int) x 0 page)) := by
  obtain ⟨h1, h2, rfl⟩ := seenV_some h
  have hb := both_seen h1 h2
  have hr := reads_seen l r page
  have hm := many_of_reads hr
  refine ⟨?_, by rw [manyV_ok hb, manyV_ok h1, hm], seenL_len _ _ _, h1, fun i hi x hx => ?_⟩
  · unfold seenV
    rw [hb, hm, decide_eq_true h2]
    simp only [Bool.and_self, if_true]
    congr 1
    have e : ∀ k y, standsR l r (seenL (standsF l r page) 0 page) k y = standsR l r page k y := fun k y => by unfold standsR; rw [hr]
    rw [← seen_eq l r (seenL (standsF l r page) 0 page)]
    have e2 : seenL (standsR l r (seenL (standsF l r page) 0 page)) 0 (seenL (standsF l r page) 0 page) = seenL (standsF l r page) 0 (seenL (standsF l r page) 0 page) := by
      refine seenL_congr fun k hk y hy => ?_
      rw [seenL_len] at hk
      rw [Nat.zero_add, e]
      rw [seenL_gt hk] at hy
      exact stands_eq hk (List.mem_filter.1 hy).1
    rw [e2]
    generalize standsF l r page = f
    have : ∀ (ps : List (List Int)) (i : Nat), seenL f i (seenL f i ps) = seenL f i ps := by
      intro ps
      induction ps with
      | nil => intro i; rfl
      | cons p ps ih => intro i; rw [seenL, seenL, ih, List.filter_filter]; simp
    exact this page 0
  · rw [seenL_gt hi, Nat.zero_add, manyV_ok (both_forced h1 hi hx)]
    rw [Bool.eq_iff_iff, hasI_iff, List.mem_filter, decide_eq_true_eq]
    unfold standsF
    rw [decide_eq_true_eq]
    constructor
    · rintro ⟨_, h⟩; omega
    · intro h; exact ⟨hx, by omega⟩
end Go.Proofs.Ytfjoininagdlcaa
namespace Go.Proofs.Ytfjoininagdlcaa
theorem can_has {l : List Int} {r : List (List Int)} : ∀ {ps : List (List Int)} {b : Int} {xs : List Int}, canRead l r ps b xs → allHas ps xs = true
  | [], _, [], _ => rfl
  | p :: ps, b, x :: xs, h => by rw [allHas, hasI_iff.2 h.1, can_has h.2.2]; rfl
  | [], _, _ :: _, h => h.elim
  | _ :: _, _, [], h => h.elim
theorem weight_of_can {l : List Int} {r page : List (List Int)} {xs : List Int} (hb : bothOk l r page = true) (h : canRead l r page (-1) xs) : weightOf l r page xs = wsum l r (-1) xs := by
  have hl := can_len h
  unfold weightOf
  rw [hb, decide_eq_true hl, Bool.and_self, if_pos rfl, refW_eq _ _ _ _ _ _ hl, if_pos (can_has h), sumW_can h]
  omega
theorem wsum_nn {l : List Int} {r : List (List Int)} : ∀ {ps : List (List Int)} {b : Int} {xs : List Int}, canRead l r ps b xs → 0 ≤ wsum l r b xs
  | [], _, [], _ => Int.le_refl _
  | p :: ps, b, x :: xs, h => by
    have h1 := wsum_nn h.2.2
    have h2 := h.2.1
    rw [wsum]
    omega
  | [], _, _ :: _, h => h.elim
  | _ :: _, _, [], h => h.elim
theorem mem_reads {l : List Int} {r page : List (List Int)} {xs : List Int} : xs ∈ readsOf l r page [] ↔ canRead l r page (-1) xs := by
  have := reads_mem (l := l) (r := r) (ps := page) (pre := []) (xs := xs)
  rwa [List.nil_append, show lastI [] = -1 from rfl] at this
/-! The best of a list of readings. -/
def bestF (l : List Int) (r : List (List Int)) (L : List (List Int)) : Option (List Int) × Int := L.foldl (bestStep l r) (none, -1)
section
variable {l : List Int} {r : List (List Int)}
theorem bestF_snoc (L : List (List Int)) (y : List Int) : bestF l r (L ++ [y]) = bestStep l r (bestF l r L) y := by
  unfold bestF; rw [List.foldl_append]; rfl
theorem bestF_facts (L : List (List Int)) : -1 ≤ (bestF l r L).2 ∧ (∀ x ∈ L, wsum l r (-1) x ≤ (bestF l r L).2) ∧ (∀ b, (bestF l r L).1 = some b → (bestF l r L).2 = wsum l r (-1) b ∧ -1 < wsum l r (-1) b ∧
    ∃ pre post, L = pre ++ b :: post ∧ (∀ x ∈ pre, wsum l r (-1) x < wsum l r (-1) b) ∧ ∀ x ∈ post, wsum l r (-1) x ≤ wsum l r (-1) b) := by
  induction L using snocInd with
  | nil => exact ⟨Int.le_refl _, (fun x hx => by cases hx), (fun b hb => by cases hb)⟩
  | append_singleton L y ih =>
    obtain ⟨h1, h2, h3⟩ := ih
    rw [bestF_snoc]
    unfold bestStep
    by_cases hlt : (bestF l r L).2 < wsum l r (-1) y
    · rw [if_pos hlt]
      refine ⟨by show -1 ≤ wsum l r (-1) y; omega, fun x hx => ?_, fun b hb => ?_⟩
      · show wsum l r (-1) x ≤ wsum l r (-1) y
        rcases List.mem_append.1 hx with hx | hx
        · have := h2 x hx; omega
        · rw [List.mem_singleton] at hx; subst hx; exact Int.le_refl _
      · injection hb with hb
        subst hb
        exact ⟨rfl, by omega, L, [], rfl, fun x hx => by have := h2 x hx; omega, fun x hx => by cases hx⟩
    · rw [if_neg hlt]
      refine ⟨h1, fun x hx => ?_, fun b hb => ?_⟩
      · rcases List.mem_append.1 hx with hx | hx
        · exact h2 x hx
        · rw [List.mem_singleton] at hx; subst hx; omega
      · obtain ⟨a1, a2, pre, post, a3, a4, a5⟩ := h3 b hb
        refine ⟨a1, a2, pre, post ++ [y], by rw [a3]; simp, a4, fun x hx => ?_⟩
        rcases List.mem_append.1 hx with hx | hx
        · exact a5 x hx
        · rw [List.mem_singleton] at hx; subst hx; omega
theorem bestF_lt {c : Int} (h0 : -1 < c) (L : List (List Int)) : (∀ x ∈ L, wsum l r (-1) x < c) → (bestF l r L).2 < c := by
  induction L using snocInd with
  | nil => intro _; exact h0
  | append_singleton L y ih =>
    intro h
    rw [bestF_snoc]
    unfold bestStep
    split
    · exact h y (by simp)
    · exact ih fun x hx => h x (List.mem_append_left _ hx)
theorem bestF_of {b : List Int} {pre : List (List Int)} (h0 : -1 < wsum l r (-1) b) (h1 : ∀ x ∈ pre, wsum l r (-1) x < wsum l r (-1) b) (post : List (List Int)) : (∀ x ∈ post, wsum l r (-1) x ≤ wsum l r (-1) b) → bestF l r (pre ++ b :: post) = (some b, wsum l r (-1) b) := by
  induction post using snocInd with
  | nil =>
    intro _
    rw [bestF_snoc]
    unfold bestStep
    rw [if_pos (bestF_lt h0 pre h1)]
  | append_singleton L y ih =>
    intro h
    rw [show pre ++ b :: (L ++ [y]) = (pre ++ b :: L) ++ [y] by simp, bestF_snoc, ih fun x hx => h x (List.mem_append_left _ hx)]
    unfold bestStep
    rw [if_neg (by have := h y (by simp); show ¬ wsum l r (-1) b < _; omega)]
theorem bestF_sift {L : List (List Int)} {b : List Int} {q : List Int → Bool} (h : (bestF l r L).1 = some b) (hq : q b = true) : (bestF l r (L.filter q)).1 = some b := by
  obtain ⟨_, h0, pre, post, rfl, h1, h2⟩ := (bestF_facts L).2.2 b h
  rw [List.filter_append, List.filter_cons, if_pos hq, bestF_of h0 (fun x hx => h1 x (List.mem_filter.1 hx).1) _ fun x hx => h2 x (List.mem_filter.1 hx).1]
end
theorem bestV_F {l : List Int} {r page : List (List Int)} (h : bothOk l r page = true) : (bestF l r (readsOf l r page [])).1 = bestV l r page := (bestV_fold h).1
theorem bestV_some {l : List Int} {r page : List (List Int)} {b : List Int} (h : bestV l r page = some b) : bothOk l r page = true ∧ 0 < manyOf l r page (-1) := by
  unfold bestV at h
  split at h
  · rename_i hc
    rwa [Bool.and_eq_true, decide_eq_true_eq] at hc
  · cases h
theorem seenV_of {l : List Int} {r page : List (List Int)} (h : bothOk l r page = true) (h0 : 0 < manyOf l r page (-1)) : seenV l r page = some (seenL (standsF l r page) 0 page) := by
  unfold seenV; rw [h, decide_eq_true h0]; rfl
theorem bestV_of {l : List Int} {r page : List (List Int)} (h : bothOk l r page = true) (h0 : 0 < manyOf l r page (-1)) : bestV l r page = some (bestOf l r page (-1)) := by
  unfold bestV; rw [h, decide_eq_true h0]; rfl
theorem firstV_of {l : List Int} {r page : List (List Int)} (h : bothOk l r page = true) (h0 : 0 < manyOf l r page (-1)) : firstV l r page = some (firstOf l r page (-1)) := by
  unfold firstV; rw [h, decide_eq_true h0]; rfl
/-- The best reading is one of all; it is the best one of the seen page, and of the page with any of its words forced; none weighs more. -/
theorem best_law {l : List Int} {r page : List (List Int)} {b : List Int} (h : bestV l r page = some b) : ∃ S, seenV l r page = some S ∧ bestV l r S = some b ∧ 0 ≤ weightOf l r page b ∧ b.length = page.length ∧ bothOk l r page = true ∧ canRead l r page (-1) b ∧
    (∀ a : Nat, a < page.length → gt b a ∈ gt page a ∧ bestV l r (forceL (a : Int) (gt b a) 0 page) = some b) ∧ (∀ xs, 0 ≤ weightOf l r page xs → weightOf l r page xs ≤ weightOf l r page b) := by
  obtain ⟨hb, h0⟩ := bestV_some h
  have hf := (bestV_F hb).trans h
  obtain ⟨f1, _, pre, post, f2, _, _⟩ := (bestF_facts _).2.2 b hf
  have hmem : b ∈ readsOf l r page [] := by rw [f2]; simp
  have hc := mem_reads.1 hmem
  refine ⟨_, seenV_of hb h0, ?_, by rw [weight_of_can hb hc]; exact wsum_nn hc, can_len hc, hb, hc, fun a ha => ⟨can_in hc ha, ?_⟩, fun xs hx => ?_⟩
  · rw [← bestV_F (both_seen hb h0), reads_seen]; exact hf
  · have hin := can_in hc ha
    rw [← bestV_F (both_forced hb ha hin), reads_force (pageOk_asc (bothOk_yes hb).2) ha hin]
    exact bestF_sift hf (eqD_self _)
  · obtain ⟨_, _, h3⟩ := weight_can hx
    rw [weight_of_can hb h3, weight_of_can hb hc, ← f1]
    exact (bestF_facts _).2.1 xs (mem_reads.2 h3)
/-! A page of the words of a reading alone. -/
def onlyL (xs : List Int) : List (List Int) := xs.map fun x => [x]
theorem can_only {l : List Int} {r : List (List Int)} : ∀ {ps : List (List Int)} {b : Int} {xs : List Int}, canRead l r ps b xs → canRead l r (onlyL xs) b xs ∧ manyOf l r (onlyL xs) b = 1
  | [], _, [], _ => ⟨trivial, rfl⟩
  | p :: ps, b, x :: xs, h => by
    obtain ⟨h1, h2⟩ := can_only h.2.2
    refine ⟨⟨by simp, h.2.1, h1⟩, ?_⟩
    show manyOf l r ([x] :: onlyL xs) b = 1
    rw [many_cons]
    unfold manyStep
    simp [h.2.1, h2]
  | [], _, _ :: _, h => h.elim
  | _ :: _, _, [], h => h.elim
theorem pageOk_only {n : Int} {page : List (List Int)} {xs : List Int} (h : pageOk n page = true) (hl : xs.length = page.length) (hx : ∀ x ∈ xs, 0 ≤ x ∧ x < n) : pageOk n (onlyL xs) = true := by
  unfold pageOk at h ⊢
  rw [Bool.and_eq_true, Bool.and_eq_true, decide_eq_true_eq, List.all_eq_true] at h ⊢
  refine ⟨h.1, by unfold onlyL; rw [List.length_map]; omega, fun p hp => ?_⟩
  obtain ⟨x, hx1, rfl⟩ := List.mem_map.1 hp
  have := hx x hx1
  show (placeFrom n (-1) [x] && _) = true
  rw [placeFrom, placeFrom, inB_yes.2 ⟨by omega, by omega⟩]; rfl
theorem can_words {l : List Int} {r page : List (List Int)} {n b : Int} {xs : List Int} (hp : pageOk n page = true) (h : canRead l r page b xs) : ∀ x ∈ xs, 0 ≤ x ∧ x < n := fun x hx => by
  obtain ⟨k, hk, rfl⟩ := List.getElem_of_mem hx
  have hl := can_len h
  rw [← gt_eq hk]
  exact in_page hp (by omega) (can_in h (by omega))
theorem weight_law {l : List Int} {r page : List (List Int)} {xs : List Int} (h : 0 ≤ weightOf l r page xs) : bothOk l r page = true ∧ xs.length = page.length ∧ 1 ≤ manyV l r page ∧ manyV l r (onlyL xs) = 1 ∧ weightOf l r (onlyL xs) xs = weightOf l r page xs ∧ (∃ b, bestV l r page = some b ∧ weightOf l r page xs ≤ weightOf l r page b) := by
  obtain ⟨h1, h2, h3⟩ := weight_can h
  have hm : 0 < manyOf l r page (-1) := (many_can (l := l) (r := r) (ps := page) (pre := [])).2 ⟨xs, h3⟩
  obtain ⟨c1, c2⟩ := can_only h3
  have hbo := both_of h1 (pageOk_only (bothOk_yes h1).2 h2 (can_words (bothOk_yes h1).2 h3))
  refine ⟨h1, h2, by rw [manyV_ok h1]; omega, by rw [manyV_ok hbo, c2]; rfl, by rw [weight_of_can hbo c1, weight_of_can h1 h3], _, bestV_of h1 hm, ?_⟩
  obtain ⟨_, _, _, _, _, _, _, _, h9⟩ := best_law (bestV_of h1 hm)
  exact h9 xs h
/-! The first reading. -/
/-- a comes ahead of b. -/
def aheadL : List Int → List Int → Bool
  | x :: xs, y :: ys => if eqD x y then aheadL xs ys else decide (x < y)
  | [], _ :: _ => true
  | _, [] => false
theorem asc_find {g : Int → Bool} {x y : Int} : ∀ {p : List Int}, asc p → p.find? g = some y → x ∈ p → g x = true → y ≤ x
  | z :: p, h, hf, hx, hg => by
    rw [List.find?_cons] at hf
    cases hz : g z with
    | true =>
      rw [hz] at hf
      injection hf with hf
      subst hf
      rcases List.mem_cons.1 hx with rfl | hx
      · exact Int.le_refl _
      · have := h.1 x hx; omega
    | false =>
      rw [hz] at hf
      rcases List.mem_cons.1 hx with rfl | hx
      · rw [hz] at hg; cases hg
      · exact asc_find h.2 hf hx hg
theorem many_can1 {l : List Int} {r ps : List (List Int)} {b : Int} {xs : List Int} (h : canRead l r ps b xs) : 0 < manyOf l r ps b := by
  have e : lastI [b] = b := lastI_snoc [] b
  have := (many_can (l := l) (r := r) (ps := ps) (pre := [b])).2 ⟨xs, by rw [e]; exact h⟩
  rwa [e] at this
theorem first_ahead {l : List Int} {r : List (List Int)} : ∀ {ps : List (List Int)} {b : Int} {xs : List Int}, (∀ p ∈ ps, asc p) → canRead l r ps b xs → (eqD (firstOf l r ps b) xs || aheadL (firstOf l r ps b) xs) = true
  | [], _, [], _, _ => rfl
  | p :: ps, b, x :: xs, h, hc => by
    have hlx : leads l r ps b x = true := by
      unfold leads
      rw [decide_eq_true hc.2.1, decide_eq_true (many_can1 hc.2.2)]; rfl
    obtain ⟨y, hy⟩ := find_some (l := l) (r := r) (p := p) (ps := ps) (b := b) (many_can1 hc)
    have hyx := asc_find (h p (List.mem_cons_self ..)) hy hc.1 hlx
    rw [firstOf, hy, Option.getD_some]
    by_cases e : y = x
    · subst e
      have := first_ahead (fun q hq => h q (List.mem_cons_of_mem _ hq)) hc.2.2
      rw [eqD_cons, aheadL, eqD_self, if_pos rfl, Bool.true_and]
      exact this
    · rw [aheadL, eqD_no e, if_neg (by decide), decide_eq_true (by omega : y < x), Bool.or_true]
  | [], _, _ :: _, _, h => h.elim
  | _ :: _, _, [], _, h => h.elim
theorem firstV_some {l : List Int} {r page : List (List Int)} {f : List Int} (h : firstV l r page = some f) : bothOk l r page = true ∧ 0 < manyOf l r page (-1) ∧ f = firstOf l r page (-1) ∧ ∃ t, readsOf l r page [] = f :: t := by
  have h' := h
  unfold firstV at h
  split at h
  · rename_i hc
    rw [Bool.and_eq_true, decide_eq_true_eq] at hc
    injection h with h
    rw [firstV_reads hc.1] at h'
    cases hr : readsOf l r page [] with
    | nil => rw [hr] at h'; cases h'
    | cons x t =>
      rw [hr] at h'
      injection h' with h'
      exact ⟨hc.1, hc.2, h.symm, t, by rw [h']⟩
  · cases h
theorem first_law {l : List Int} {r page : List (List Int)} {f : List Int} (h : firstV l r page = some f) : bothOk l r page = true ∧ f.length = page.length ∧ rankV l r page f = 0 ∧ 0 ≤ weightOf l r page f ∧ canRead l r page (-1) f ∧ ∃ b, bestV l r page = some b ∧ (eqD f b || aheadL f b) = true := by
  obtain ⟨h1, h2, h3, t, h4⟩ := firstV_some h
  have hc : canRead l r page (-1) f := mem_reads.1 (by rw [h4]; simp)
  have hw : 0 ≤ weightOf l r page f := by rw [weight_of_can h1 hc]; exact wsum_nn hc
  refine ⟨h1, can_len hc, ?_, hw, hc, _, bestV_of h1 h2, ?_⟩
  · rw [rankV_place hw, h4, placeOf, eqD_self]; rfl
  · obtain ⟨_, _, _, _, _, _, hb, _⟩ := best_law (bestV_of h1 h2)
    rw [h3]
    exact first_ahead (pageOk_asc (bothOk_yes h1).2) hb
/-! Ranks. -/
theorem rankV_ok {l : List Int} {r page : List (List Int)} {xs : List Int} (h : 0 ≤ weightOf l r page xs) : rankV l r page xs = (rankOf l r page (-1) xs : Int) := by
  unfold rankV; rw [if_neg (by omega)]
theorem rank_law {l : List Int} {r page : List (List Int)} {xs : List Int} (h : 0 ≤ rankV l r page xs) : ∃ f, firstV l r page = some f ∧ bothOk l r page = true ∧ xs.length = page.length ∧ rankV l r page xs < manyV l r page ∧ decide (rankV l r page xs = 0) = eqD f xs ∧ (page.length = 0 → rankV l r page xs = 0) ∧
    (0 < page.length → gt xs 0 ∈ gt page 0 ∧ rankV l r (forceL ((0 : Nat) : Int) (gt xs 0) 0 page) xs + ((((gt page 0).takeWhile fun y => decide (y < gt xs 0)).map fun y => manyOf l r (forceL ((0 : Nat) : Int) y 0 page) (-1)).sum : Nat) = rankV l r page xs) := by
  have hw : 0 ≤ weightOf l r page xs := by
    unfold rankV at h
    split at h
    · omega
    · omega
  obtain ⟨h1, h2, h3⟩ := weight_can hw
  have h0 := many_can1 h3
  have hF := firstV_of h1 h0
  obtain ⟨_, _, _, t, h4⟩ := firstV_some hF
  have hmem := mem_reads.2 h3
  refine ⟨_, hF, h1, h2, ?_, ?_, fun e => ?_, fun hp => ⟨can_in h3 hp, ?_⟩⟩
  · rw [rankV_place hw, manyV_ok h1]
    have h5 := placeOf_lt hmem
    rw [readsLen] at h5
    omega
  · rw [rankV_place hw, h4, placeOf]
    generalize eqD (firstOf l r page (-1)) xs = q
    cases q with
    | true => rfl
    | false =>
      rw [if_neg (by decide), decide_eq_false_iff_not]
      omega
  · rw [rankV_ok hw]
    have : page = [] := List.length_eq_zero_iff.1 e
    subst this
    cases xs <;> rfl
  · have hin := can_in h3 hp
    cases page with
    | nil => simp at hp
    | cons p ps =>
      cases xs with
      | nil => exact h3.elim
      | cons x ys =>
        have e1 : gt (p :: ps) 0 = p := rfl
        have e2 : gt (x :: ys) 0 = x := rfl
        rw [e1, e2] at hin ⊢
        have hf : ∀ y, forceL ((0 : Nat) : Int) y 0 (p :: ps) = [y] :: ps := fun y => by
          rw [forceL, if_pos rfl, forceL_past _ _ _ _ (by omega)]
        have hb := both_forced (a := 0) h1 hp hin
        rw [hf] at hb ⊢
        have hc2 : canRead l r ([x] :: ps) (-1) (x :: ys) := ⟨by simp, h3.2.1, h3.2.2⟩
        have hw2 : 0 ≤ weightOf l r ([x] :: ps) (x :: ys) := by rw [weight_of_can hb hc2]; exact wsum_nn hc2
        rw [rankV_ok hw, rankV_ok hw2, rankOf, rankOf]
        have e3 : ([x].takeWhile fun y => decide (y < x)) = [] := by rw [List.takeWhile_cons, if_neg (by simp)]
        rw [e3]
        have e4 : ((p.takeWhile fun y => decide (y < x)).map fun y => manyOf l r (forceL ((0 : Nat) : Int) y 0 (p :: ps)) (-1)).sum = ((p.takeWhile fun y => decide (y < x)).map (manyStep l r ps (-1))).sum := sum_congr fun y _ => by
          rw [hf, many_cons]; simp
        rw [e4]
        simp only [List.map_nil, List.sum_nil]
        omega
theorem while_take {x : Int} : ∀ {p : List Int} {k : Nat}, k ≤ p.length → (∀ j, j < k → gt p j < x) → (k < p.length → ¬ gt p k < x) → (p.takeWhile fun y => decide (y < x)) = p.take k
  | [], 0, _, _, _ => rfl
  | [], k + 1, h, _, _ => by simp at h
  | y :: p, 0, _, _, h => by
    have : ¬ y < x := h (by simp)
    rw [List.takeWhile_cons, if_neg (by simpa using this)]; rfl
  | y :: p, k + 1, hk, h1, h2 => by
    have h0 : y < x := h1 0 (by omega)
    rw [List.takeWhile_cons, if_pos (by simpa using h0), List.take_succ_cons]
    congr 1
    exact while_take (by simpa using hk) (fun j hj => by
      have := h1 (j + 1) (by omega)
      simpa [gt] using this) (fun hj => by
      have := h2 (by simpa using hj)
      simpa [gt] using this)
end Go.Proofs.Ytfjoininagdlcaa
