/- The least weights: what least does. -/
import Derived.Test.YthijnojefeeaoaaVisit
import Derived.BigRegion
namespace Go.Proofs.Ythijnojefeeaoaa
open Go.RowKit Go.Shelf
attribute [local go_sem] Oper.semAt_some
theorem gt_set {α : Type} [Inhabited α] {l : List α} {j : Nat} (hj : j < l.length) (x : α) (k : Nat) : gt (l.set j x) k = if k = j then x else gt l k := by
  unfold gt
  rw [List.getD_eq_getElem?_getD, List.getD_eq_getElem?_getD, List.getElem?_set]
  by_cases h : k = j
  · subst h
    rw [if_pos rfl, if_pos rfl, if_pos hj]
    rfl
  · rw [if_neg (Ne.symm h), if_neg h]
theorem made_get (z : Array Value) {n i : Nat} (h : i < n) : (madeCells z n)[i]? = some (z[i % z.size]!) := by
  simp [madeCells, h]
section
variable {lo hi : Nat} {w w' : World} {g e n k : Nat}
theorem Filled.same {α : Type} [Inhabited α] {S : Shape α} {l : List α} (h : Filled S lo hi w g e n k l) (hf : S.flat) (hb : w'.heap[g]? = w.heap[g]?) : Filled S lo hi w' g e n k l := by
  obtain ⟨cur, h1, h2, h3, h4, h5⟩ := h
  refine ⟨cur, hb.trans h1, h2, h3, h4, fun j hj => ?_⟩
  obtain ⟨f, hf1, he⟩ := h5 j hj
  exact ⟨f, hf1, hf _ _ _ _ _ _ he⟩
theorem Filled.doneF {α : Type} [Inhabited α] {S : Shape α} {l : List α} (h : Filled S lo hi w g e n n l) (hf : S.flat) {lo' hi' : Nat} (h1 : lo' ≤ g) (h2 : g < hi') : Rd S lo' hi' w (some ⟨g, 0, none⟩) n l := by
  obtain ⟨cur, a1, a2, a3, a4, a5⟩ := h
  refine ⟨a3, a4, fun _ => ⟨g, 0, rfl, h1, h2, fun j hj => ?_⟩⟩
  obtain ⟨f, hf1, he⟩ := a5 j hj
  refine ⟨f, fun i hi => ?_, hf _ _ _ _ _ _ he⟩
  rw [Nat.zero_add, cell_of_row w g _ cur e (0, 0) a1]
  exact hf1 i hi
theorem Filled.setI {l : List Int} (h : Filled intS lo hi w g e n n l) {j : Nat} (hj : j < n) (x : Int) : Filled intS lo hi (w.setCell ⟨g, j, none⟩ (.int .i64 x)) g e n n (l.set j x) := by
  obtain ⟨cur, h1, h2, h3, h4, h5⟩ := h
  refine ⟨_, heap_setCell_same w g j cur e _ h1, by simpa using h2, by rw [List.length_set]; exact h3, h4, fun i hi => ?_⟩
  have hz : intS.sz = 1 := rfl
  refine ⟨fun _ => .int .i64 (gt (l.set j x) i), fun q hq => ?_, rfl⟩
  obtain rfl : q = 0 := by omega
  obtain ⟨f, hf1, he⟩ := h5 i hi
  have hf0 := hf1 0 hq
  rw [show f 0 = _ from he] at hf0
  rw [hz, Nat.mul_one, Nat.add_zero] at hf0 ⊢
  rw [gt_set (by omega), Array.getElem?_setIfInBounds]
  by_cases hij : i = j
  · subst hij
    rw [if_pos rfl, if_pos rfl, if_pos (by rw [hz] at h2; omega)]
  · rw [if_neg (Ne.symm hij), if_neg hij]
    exact hf0
theorem Filled.setT {l : List Tok} (h : Filled tokS lo hi w g e n n l) {j : Nat} (hj : j < n) (t : Tok) :
    Filled tokS lo hi (((w.setCell ⟨g, j * 3, none⟩ (.int .i64 t.k)).setCell ⟨g, j * 3 + 1, none⟩ (.int .i64 t.wd)).setCell ⟨g, j * 3 + 2, none⟩ (.int .i64 t.co)) g e n n (l.set j t) := by
  obtain ⟨cur, h1, h2, h3, h4, h5⟩ := h
  have hz : tokS.sz = 3 := rfl
  rw [hz] at h2
  refine ⟨_, heap_setCell_same _ g _ _ e _ (heap_setCell_same _ g _ _ e _ (heap_setCell_same w g _ cur e _ h1)), by rw [hz]; simpa using h2, by rw [List.length_set]; exact h3, h4, fun i hi => ?_⟩
  by_cases hij : i = j
  · subst hij
    rw [gt_set (by omega), if_pos rfl]
    refine ⟨fun q => if q = 0 then .int .i64 t.k else if q = 1 then .int .i64 t.wd else .int .i64 t.co, fun q hq => ?_, rfl, rfl, rfl⟩
    rw [hz] at hq ⊢
    have hq3 : q = 0 ∨ q = 1 ∨ q = 2 := by omega
    rcases hq3 with rfl | rfl | rfl
    · simp [show i * 3 < cur.size by omega]
    · simp [show i * 3 + 1 < cur.size by omega]
    · simp [show i * 3 + 2 < cur.size by omega]
  · obtain ⟨f, hf1, he⟩ := h5 i hi
    rw [gt_set (by omega), if_neg hij]
    refine ⟨f, fun q hq => ?_, he⟩
    have hf0 := hf1 q hq
    rw [hz] at hf0 hq ⊢
    rw [Array.getElem?_setIfInBounds, if_neg (by omega), Array.getElem?_setIfInBounds, if_neg (by omega), Array.getElem?_setIfInBounds, if_neg (by omega)]
    exact hf0
end
/-- What least keeps. -/
structure LsJ (w0 : World) (B0 F G fb gb vb wf n : Nat) (fs : List Tok) (gs : List Int) (W : World) : Prop where
  bl : Below w0.heap.size w0 W
  sz : B0 ≤ W.heap.size
  hF : Filled tokS 0 0 W F 68 n n fs
  hG : Filled intS 0 0 W G 3 (n + 1) (n + 1) gs
  cf : W.heap[fb]? = some (.cells #[.slice (some ⟨F, 0, none⟩) n n] 65 (0, 0))
  cg : W.heap[gb]? = some (.cells #[.slice (some ⟨G, 0, none⟩) (n + 1) (n + 1)] 28 (0, 0))
  cv : W.heap[vb]? = some (.cells #[.func (.func wf) #[] #[]] 73 (0, 0))
  bd : ∀ j : Nat, j ≤ n → 0 ≤ gt gs j ∧ gt gs j + 12 * j ≤ 12 * n
theorem LsJ.keep {w0 : World} {B0 F G fb gb vb wf n : Nat} {fs : List Tok} {gs : List Int} {W W' : World} (h : LsJ w0 B0 F G fb gb vb wf n fs gs W) (hb : Below W.heap.size W W') : LsJ w0 B0 F G fb gb vb wf n fs gs W' :=
  ⟨h.bl.trans (hb.mono h.bl.size), Nat.le_trans h.sz hb.size, h.hF.same tokS_flat (hb.block _ h.hF.lt), h.hG.same intS_flat (hb.block _ h.hG.lt), (hb.block _ (Array.getElem?_eq_some_iff.1 h.cf).1).trans h.cf, (hb.block _ (Array.getElem?_eq_some_iff.1 h.cg).1).trans h.cg, (hb.block _ (Array.getElem?_eq_some_iff.1 h.cv).1).trans h.cv, h.bd⟩
/-- One event. -/
def stepS (wt : Tok → Int) (s : List Tok × List Int) (e : Nat × Tok) : List Tok × List Int :=
  if (gt s.1 e.1).wd = 0 ∨ wt e.2 + gt s.2 (e.1 + e.2.wd) < gt s.2 e.1 then (s.1.set e.1 e.2, s.2.set e.1 (wt e.2 + gt s.2 (e.1 + e.2.wd))) else s
theorem Filled.tokAt {w : World} {g e n : Nat} {l : List Tok} (h : Filled tokS 0 0 w g e n n l) {k : Nat} (hk : k < n) :
    w.cell? ⟨g, k * 3, none⟩ = some (.int .i64 (gt l k).k) ∧ w.cell? ⟨g, k * 3 + 1, none⟩ = some (.int .i64 (gt l k).wd) ∧ w.cell? ⟨g, k * 3 + 2, none⟩ = some (.int .i64 (gt l k).co) ∧ w.frozen? ⟨g, k * 3, none⟩ = false ∧ w.frozen? ⟨g, k * 3 + 1, none⟩ = false ∧ w.frozen? ⟨g, k * 3 + 2, none⟩ = false := by
  obtain ⟨b, off, he, _, _, hr⟩ := (h.done (lo' := 0) (hi' := w.heap.size) (Nat.zero_le _) h.lt (Nat.le_refl _) (Nat.zero_le _)).2.2 (by omega)
  injection he with he
  injection he with e1 e2 _
  subst e1 e2
  obtain ⟨a0, a1, a2⟩ := hr.tok hk
  rw [Nat.zero_add] at a0 a1 a2
  exact ⟨a0, a1, a2, (h.at_ (i := k * 3) (by show k * 3 < n * 3; omega)).2, (h.at_ (i := k * 3 + 1) (by show k * 3 + 1 < n * 3; omega)).2, (h.at_ (i := k * 3 + 2) (by show k * 3 + 2 < n * 3; omega)).2⟩
theorem Filled.intAt {w : World} {g e n : Nat} {l : List Int} (h : Filled intS 0 0 w g e n n l) {k : Nat} (hk : k < n) : w.cell? ⟨g, k, none⟩ = some (.int .i64 (gt l k)) ∧ w.frozen? ⟨g, k, none⟩ = false := by
  obtain ⟨b, off, he, _, _, hr⟩ := (h.done (lo' := 0) (hi' := w.heap.size) (Nat.zero_le _) h.lt (Nat.le_refl _) (Nat.zero_le _)).2.2 (by omega)
  injection he with he
  injection he with e1 e2 _
  subst e1 e2
  have a0 := hr.int hk
  rw [Nat.zero_add] at a0
  exact ⟨a0, (h.at_ (i := k) (by show k < n * 1; omega)).2⟩
theorem cell_one {w : World} {b t : Nat} {v : Value} (h : w.heap[b]? = some (.cells #[v] t (0, 0))) : w.cell? ⟨b, 0, none⟩ = some v := by rw [cell_of_row w _ _ _ _ (0, 0) h]; rfl
/-- The update keeps the rest. -/
theorem LsJ.put {w0 : World} {B0 F G fb gb vb wf n p : Nat} {fs : List Tok} {gs : List Int} {W : World} (h : LsJ w0 B0 F G fb gb vb wf n fs gs W) (hp : p < n) (t : Tok) (x : Int) (hx : 0 ≤ x ∧ x + 12 * p ≤ 12 * n)
    (hF : w0.heap.size ≤ F) (hG : w0.heap.size ≤ G) (hne : F ≠ G) (h1 : fb ≠ F ∧ fb ≠ G) (h2 : gb ≠ F ∧ gb ≠ G) (h3 : vb ≠ F ∧ vb ≠ G) {W' : World}
    (hW : W' = (((W.setCell ⟨F, p * 3, none⟩ (.int .i64 t.k)).setCell ⟨F, p * 3 + 1, none⟩ (.int .i64 t.wd)).setCell ⟨F, p * 3 + 2, none⟩ (.int .i64 t.co)).setCell ⟨G, p, none⟩ (.int .i64 x)) :
    LsJ w0 B0 F G fb gb vb wf n (fs.set p t) (gs.set p x) W' ∧ Chg (fun k => k = F ∨ k = G) W W' := by
  have hc : Chg (fun k => k = F ∨ k = G) W W' := by
    rw [hW]
    exact ((((Chg.refl _ W).set (.inl rfl) _).set (.inl rfl) _).set (.inl rfl) _).set (.inr rfl) _
  have hblk : ∀ b, b < W.heap.size → b ≠ F ∧ b ≠ G → W'.heap[b]? = W.heap[b]? := fun b hb hn => hc.block b hb (by rintro (e | e); exact hn.1 e; exact hn.2 e)
  refine ⟨⟨h.bl.trans (hc.below h.bl.size (by rintro k (e | e) <;> omega)), Nat.le_trans h.sz hc.size, ?_, ?_, (hblk _ (Array.getElem?_eq_some_iff.1 h.cf).1 h1).trans h.cf, (hblk _ (Array.getElem?_eq_some_iff.1 h.cg).1 h2).trans h.cg, (hblk _ (Array.getElem?_eq_some_iff.1 h.cv).1 h3).trans h.cv, fun j hj => ?_⟩, hc⟩
  · refine (h.hF.setT hp t).same tokS_flat ?_
    rw [hW]
    exact Below.heap_setCell _ _ _ _ (fun e => by dsimp only at e; omega)
  · rw [hW]
    refine Filled.setI (Filled.same h.hG intS_flat ?_) (by omega) x
    rw [Below.heap_setCell _ _ _ _ (fun e => by dsimp only at e; omega), Below.heap_setCell _ _ _ _ (fun e => by dsimp only at e; omega), Below.heap_setCell _ _ _ _ (fun e => by dsimp only at e; omega)]
  · have hgl : gs.length = n + 1 := by
      obtain ⟨_, _, _, h3, _⟩ := h.hG
      omega
    rw [gt_set (by omega)]
    split
    · rename_i e; subst e; exact hx
    · exact h.bd j hj
set_option maxRecDepth 100000 in
set_option maxHeartbeats 2000000 in
theorem least1_any {w0 : World} {B0 F G fb gb vb wf n p : Nat} {fs : List Tok} {gs : List Int} {W : World} {wt : Tok → Int} {t : Tok} (eg : ∀ args w, (callFunc wf args).run Try.prog w = .ok (.enter wf args) w)
    (h : LsJ w0 B0 F G fb gb vb wf n fs gs W) (hp : p < n) (hn : n ≤ 20) (ht1 : 1 ≤ t.wd) (ht2 : p + t.wd ≤ n) (hwt : 0 ≤ wt t ∧ wt t ≤ 12)
    (hw : ∀ W', Calls Try.prog wf #[tokV t] W' fun e W'' => e = .returned (.int .i64 (wt t)) ∧ Below W'.heap.size W' W'')
    (hF : w0.heap.size ≤ F) (hG : w0.heap.size ≤ G) (hne : F ≠ G) (h1 : fb ≠ F ∧ fb ≠ G) (h2 : gb ≠ F ∧ gb ≠ G) (h3 : vb ≠ F ∧ vb ≠ G) (hFB : F < B0) (hGB : G < B0) (_hfb : fb < B0) (hgb : gb < B0) (hvb : vb < B0) :
    Calls Try.prog 86 #[.int .i64 p, tokV t, .pointer (some ⟨vb, 0, none⟩), .pointer (some ⟨gb, 0, none⟩), .pointer (some ⟨fb, 0, none⟩)] W fun e W' =>
      e = .returned (.tuple #[]) ∧ LsJ w0 B0 F G fb gb vb wf n (stepS wt (fs, gs) (p, t)).1 (stepS wt (fs, gs) (p, t)).2 W' ∧ Chg (fun k => k = F ∨ k = G) W W' := by
  have hb1 := bnew W (.cells #[.int .i64 t.k, .int .i64 t.wd, .int .i64 t.co] 68)
  have hn1 := heap_alloc_new W (.cells #[.int .i64 t.k, .int .i64 t.wd, .int .i64 t.co] 68)
  have z1 := World.size_alloc W (.cells #[.int .i64 t.k, .int .i64 t.wd, .int .i64 t.co] 68)
  obtain ⟨W1, hW1⟩ : ∃ W1, W.alloc (.cells #[.int .i64 t.k, .int .i64 t.wd, .int .i64 t.co] 68) = W1 := ⟨_, rfl⟩
  rw [hW1] at hb1 hn1 z1
  have hL1 := h.keep hb1
  have hbd1 := h.bd p (by omega)
  have hbd2 := h.bd (p + t.wd) ht2
  have hsz := h.sz
  obtain ⟨y, hy⟩ : ∃ y, wt t = y := ⟨_, rfl⟩
  obtain ⟨x0, hx0⟩ : ∃ x0, gt gs p = x0 := ⟨_, rfl⟩
  obtain ⟨x1, hx1⟩ : ∃ x1, gt gs (p + t.wd) = x1 := ⟨_, rfl⟩
  rw [hx0] at hbd1
  rw [hx1] at hbd2
  rw [hy] at hwt
  obtain ⟨s, hs⟩ : ∃ s, p + t.wd = s := ⟨_, rfl⟩
  have hwp : IntKind.i64.wrap ((p : Int) + (t.wd : Int)) = (s : Int) := by
    rw [show (p : Int) + (t.wd : Int) = (s : Int) by omega]
    exact IntWalk.i64_in _ (by omega)
  have hsn : s < n + 1 := by omega
  have hsni : (s : Int) < (n : Int) + 1 := by omega
  rw [hs] at hx1
  have cG := (hL1.hG.intAt (k := s) (by omega)).1
  rw [hx1] at cG
  have aG := aft_cell (B := W1.heap.size) (w0 := W1) (by omega) cG
  have ag := aft_cell (B := W1.heap.size) (w0 := W1) (by omega) (cell_one hL1.cg)
  have av := aft_cell (B := W1.heap.size) (w0 := W1) (by omega) (cell_one hL1.cv)
  have a0 := aft_cell (b := W.heap.size) (o := 0) (v := .int .i64 t.k) (B := W1.heap.size) (w0 := W1) (by omega) (by rw [cell_of_row _ _ _ _ _ (0, 0) hn1]; rfl)
  have a1 := aft_cell (b := W.heap.size) (o := 1) (v := .int .i64 t.wd) (B := W1.heap.size) (w0 := W1) (by omega) (by rw [cell_of_row _ _ _ _ _ (0, 0) hn1]; rfl)
  have a2 := aft_cell (b := W.heap.size) (o := 2) (v := .int .i64 t.co) (B := W1.heap.size) (w0 := W1) (by omega) (by rw [cell_of_row _ _ _ _ _ (0, 0) hn1]; rfl)
  have call : ∀ q : Aft W1.heap.size W1, Calls Try.prog wf #[.agg #[.int .i64 t.k, .int .i64 t.wd, .int .i64 t.co]] q.val fun e w'' => e = .returned (.int .i64 y) ∧ ∃ r : Aft W1.heap.size W1, w'' = r.val := fun q => by
    have h9 := hw q.val
    rw [hy] at h9
    exact aft_call h9 (Nat.le_refl _)
  have Hcall := hid call
  have HN1 := hid hn1
  have HL1 := hid hL1
  have HB1 := hid hb1
  have Z1 := hid z1
  have HW1 := hid hW1
  have HX := hid (And.intro hy (And.intro hx0 hx1))
  have HSZ := hid hsz
  have hyx : IntKind.i64.wrap (y + x1) = y + x1 := IntWalk.i64_in _ (by omega)
  have HS := hid hs
  clear hs
  clear hw call hn1 hL1 hb1 z1 hW1 hy hx0 hx1 h hsz
  unfold tokV
  go_enter Try.func86, Try.ntmps86
  go_wp2_with fail
  rw [HW1.out]
  refine wp_region_aft (B := W1.heap.size) (w0 := W1) (Below.refl _ _) (by kernel_rfl) (by kernel_rfl) ?_
  repeat (go_big_quiet_step ((go_at_fn wf; exact Hcall.out _)))
  refine wpQuiet_nil ?_
  rintro w2 ⟨⟨w3, hb2⟩, hw3⟩
  have hw4 : w2 = w3 := hw3
  clear hw3
  subst hw4
  clear aG ag av a0 a1 a2
  have hL2 := HL1.out.keep hb2
  have hn2 := (hb2.block W.heap.size (by have := Z1.out; omega)).trans HN1.out
  obtain ⟨f0, f1, f2, f3, f4, f5⟩ := hL2.hF.tokAt hp
  obtain ⟨g0, g1⟩ := hL2.hG.intAt (k := p) (by omega)
  rw [HX.out.2.1] at g0
  have cf := cell_one hL2.cf
  have cg := cell_one hL2.cg
  have b0 : w2.cell? ⟨W.heap.size, 0, none⟩ = some (.int .i64 t.k) := by rw [cell_of_row _ _ _ _ _ (0, 0) hn2]; rfl
  have b1 : w2.cell? ⟨W.heap.size, 1, none⟩ = some (.int .i64 t.wd) := by rw [cell_of_row _ _ _ _ _ (0, 0) hn2]; rfl
  have b2 : w2.cell? ⟨W.heap.size, 2, none⟩ = some (.int .i64 t.co) := by rw [cell_of_row _ _ _ _ _ (0, 0) hn2]; rfl
  have HL2 := hid hL2
  have HB2 := hid hb2
  clear hb2 hn2 hL2
  have HNE := hid (And.intro hne (And.intro h1 (And.intro h2 h3)))
  have e1 : fb ≠ F := h1.1
  have e2 : fb ≠ G := h1.2
  have e3 : gb ≠ F := h2.1
  have e4 : gb ≠ G := h2.2
  have e5 : W.heap.size ≠ F := by have := HSZ.out; omega
  have e6 : W.heap.size ≠ G := by have := HSZ.out; omega
  have e7 : G ≠ F := Ne.symm hne
  have e8 : F ≠ fb := Ne.symm e1
  have e9 : G ≠ fb := Ne.symm e2
  have e10 : F ≠ gb := Ne.symm e3
  have e11 : G ≠ gb := Ne.symm e4
  have e12 : F ≠ W.heap.size := Ne.symm e5
  have e13 : G ≠ W.heap.size := Ne.symm e6
  clear h1 h2 h3
  have hst := stepS wt (fs, gs) (p, t)
  have HST := hid (show stepS wt (fs, gs) (p, t) = if (gt fs p).wd = 0 ∨ y + x1 < x0 then (fs.set p t, gs.set p (y + x1)) else (fs, gs) by
    unfold stepS
    dsimp only
    rw [HX.out.1, HX.out.2.1, HS.out, HX.out.2.2])
  clear hst
  by_cases hz : (gt fs p).wd = 0
  · have hzi : (((gt fs p).wd : Int) == 0) = true := by simp [hz]
    have HZ := hid hz
    clear hz
    go_wp2_with fail
    go_region
    go_end0
    obtain ⟨q1, q2⟩ := HL2.out.put (W' := (((w2.setCell ⟨F, p * 3, none⟩ (.int .i64 t.k)).setCell ⟨F, p * 3 + 1, none⟩ (.int .i64 t.wd)).setCell ⟨F, p * 3 + 2, none⟩ (.int .i64 t.co)).setCell ⟨G, p, none⟩ (.int .i64 (y + x1))) hp t (y + x1) (by omega) hF hG HNE.out.1 HNE.out.2.1 HNE.out.2.2.1 HNE.out.2.2.2 rfl
    refine ⟨rfl, ?_, (chgB HB1.out).trans ((chgB HB2.out).trans q2.drew)⟩
    rw [HST.out, if_pos (.inl HZ.out)]
    exact q1.keep (bdr _)
  · have hzi : (((gt fs p).wd : Int) == 0) = false := by rw [beq_eq_false_iff_ne]; omega
    have HZ := hid hz
    clear hz
    by_cases hlt : y + x1 < x0
    · have HLT := hid hlt
      go_wp2_with fail
      go_region
      go_end0
      obtain ⟨q1, q2⟩ := HL2.out.put (W' := (((w2.setCell ⟨F, p * 3, none⟩ (.int .i64 t.k)).setCell ⟨F, p * 3 + 1, none⟩ (.int .i64 t.wd)).setCell ⟨F, p * 3 + 2, none⟩ (.int .i64 t.co)).setCell ⟨G, p, none⟩ (.int .i64 (y + x1))) hp t (y + x1) (by omega) hF hG HNE.out.1 HNE.out.2.1 HNE.out.2.2.1 HNE.out.2.2.2 rfl
      refine ⟨rfl, ?_, (chgB HB1.out).trans ((chgB HB2.out).trans q2.drew)⟩
      rw [HST.out, if_pos (.inr HLT.out)]
      exact q1.keep (bdr _)
    · have HLT := hid hlt
      go_wp2_with fail
      go_end0
      refine ⟨rfl, ?_, (chgB HB1.out).trans (chgB HB2.out)⟩
      rw [HST.out, if_neg (by rintro (h | h); exact HZ.out h; have := HLT.out; omega)]
      exact HL2.out
end Go.Proofs.Ythijnojefeeaoaa
