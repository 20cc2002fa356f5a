/- ReadingsMany: what the program's function returns. -/
import Derived.Test.YtfjoininagdlcaaIter2
import Derived.Test.YtfjoininagdlcaaForcePure
namespace Go.Proofs.Ytfjoininagdlcaa
open Go.RowKit Go.Shelf
attribute [local go_sem] Oper.semAt_some
theorem sum_le {f : Int → Nat} {b : Nat} : ∀ p : List Int, (∀ x ∈ p, f x ≤ b) → (p.map f).sum ≤ p.length * b
  | [], _ => by simp
  | x :: p, h => by
    have h1 := h x (List.mem_cons_self ..)
    have h2 := sum_le p fun y hy => h y (List.mem_cons_of_mem _ hy)
    rw [List.map_cons, List.sum_cons, List.length_cons, Nat.add_mul, Nat.one_mul]
    omega
theorem many_le (l : List Int) (r : List (List Int)) : ∀ (ps : List (List Int)) (b : Int), (∀ p ∈ ps, p.length ≤ 6) → manyOf l r ps b ≤ 6 ^ ps.length
  | [], b, _ => by simp [manyOf]
  | p :: ps, b, h => by
    rw [manyOf, List.length_cons, Nat.pow_succ]
    have h1 := h p (List.mem_cons_self ..)
    have h2 := sum_le (f := fun x => if 0 < wgt l r b x then manyOf l r ps x else 0) (b := 6 ^ ps.length) p fun x _ => by
      have := many_le l r ps x fun q hq => h q (List.mem_cons_of_mem _ hq)
      split <;> omega
    calc _ ≤ p.length * 6 ^ ps.length := h2
      _ ≤ 6 * 6 ^ ps.length := Nat.mul_le_mul_right _ h1
      _ = _ := Nat.mul_comm _ _
theorem many_max (l : List Int) (r page : List (List Int)) (b : Int) (h : bothOk l r page = true) : manyOf l r page b ≤ 1679616 := by
  have h1 := (bothOk_yes h).2
  have h2 := (pageOk_yes h1).1
  have h3 := many_le l r page b (pageOk_len h1)
  have h4 : 6 ^ page.length ≤ 6 ^ 8 := Nat.pow_le_pow_right (by omega) h2
  have h5 : (6 : Nat) ^ 8 = 1679616 := rfl
  omega
theorem readsLen {l : List Int} {r page : List (List Int)} : (readsOf l r page []).length = manyOf l r page (-1) := reads_many l r page []
/-- What ReadingsMany returns. -/
def manyV (l : List Int) (r page : List (List Int)) : Int := if bothOk l r page then (manyOf l r page (-1) : Int) else -1
set_option maxRecDepth 100000 in
set_option maxHeartbeats 2000000 in
theorem implReadingsMany_any (A B C : Option Addr) (n c m e0 q d _lo : Nat) (l : List Int) (r page : List (List Int)) (w : World) (hl : Rd intS 0 w.heap.size w A n l) (hr : Rd (sliceS intS) 0 w.heap.size w B m r) (hp : Rd (sliceS intS) 0 w.heap.size w C q page) :
    Calls Try.prog 14 #[.agg #[.slice A n c, .slice B m e0], .slice C q d] w fun e w' => e = .returned (.int .i64 (manyV l r page)) ∧ Below w.heap.size w w' := by
  have L := hid hl
  have R := hid hr
  have PG := hid hp
  clear hl hr hp
  have b0 := bnew w (.cells #[.slice A n c, .slice B m e0] 26)
  have c0 := heap_alloc_new w (.cells #[.slice A n c, .slice B m e0] 26)
  have z0 : (w.alloc (.cells #[.slice A n c, .slice B m e0] 26)).heap.size = w.heap.size + 1 := by simp
  have B0 := hid b0
  have C0 := hid c0
  have Z0 := hid z0
  clear b0 c0 z0
  refine (callsIn_wide (n := 9)).1 (callsIn_of_wp_marks Try.func14 rfl trivial (wpIn_wide.2 ?_) rfl)
  simp only [Try.ntmps14, List.size_toArray, List.length_cons, List.length_nil, Nat.reduceAdd, Nat.reduceSub, Array.replicate_succ, Array.replicate_zero, List.push_toArray, List.append_toArray, List.nil_append, List.cons_append]
  go_wp2_with fail
  refine (modelAndPage_any A B C n c m e0 q d 0 l r page _ (L.out.bl B0.out) (R.out.bl B0.out) (PG.out.bl B0.out)).mono ?_
  rintro e w1 ⟨rfl, hb1⟩
  have B1 := hid (btr B0.out hb1)
  have cc := (hb1.block w.heap.size (by rw [Z0.out]; omega)).trans C0.out
  have hz1 := hb1.size
  rw [Z0.out] at hz1
  have hz2 : w.heap.size < w1.heap.size := by omega
  have CC := hid cc
  obtain ⟨k1, k2, _, _⟩ := at_get' cc
  clear hb1 cc
  by_cases hok : bothOk l r page = true
  case neg =>
    have hok' : bothOk l r page = false := by simpa using hok
    have HF := hid (show manyV l r page = -1 by simp [manyV, hok'])
    rw [hok']
    clear hok
    go_wp2_with fail
    exact ⟨.int .i64 (-1), results_one rfl rfl, ret_int HF.out.symm, B1.out⟩
  case pos =>
  rw [hok]
  have HOK := hid hok
  clear hok
  go_wp2_with fail
  refine (readings_any _ _ _ _ _ _ _ _ _ _).mono ?_
  rintro e w4 ⟨rfl, rfl⟩
  go_wp2_with fail
  have HF := hid (show manyV l r page = ((readsOf l r page []).length : Int) by simp only [manyV, HOK.out, if_true, readsLen])
  have HMX := hid (show (readsOf l r page []).length ≤ 1679616 by rw [readsLen]; exact many_max l r page (-1) HOK.out)
  have x0 := heap_alloc_new w1 (.cells #[.int .i64 0] 3)
  have x1 := heap_alloc_new (w1.alloc (.cells #[.int .i64 0] 3)) (.cells #[.slice A n c, .slice B m e0] 26)
  have x2 := heap_alloc_new ((w1.alloc (.cells #[.int .i64 0] 3)).alloc (.cells #[.slice A n c, .slice B m e0] 26)) (.cells #[.slice C q d] 24)
  have y0 := (btr (bnew (w1.alloc (.cells #[.int .i64 0] 3)) (.cells #[.slice A n c, .slice B m e0] 26)) (bnew _ (.cells #[.slice C q d] 24))).block w1.heap.size (by simp)
  have y1 := (bnew ((w1.alloc (.cells #[.int .i64 0] 3)).alloc (.cells #[.slice A n c, .slice B m e0] 26)) (.cells #[.slice C q d] 24)).block (w1.heap.size + 1) (by simp)
  have y5 := btr (btr (btr B1.out (((bnew w1 (.cells #[.int .i64 0] 3))))) (bnew _ (.cells #[.slice A n c, .slice B m e0] 26))) (bnew _ (.cells #[.slice C q d] 24))
  rw [x0] at y0
  simp only [World.size_alloc] at x1 x2
  rw [x1] at y1
  have zz : (((w1.alloc (.cells #[.int .i64 0] 3)).alloc (.cells #[.slice A n c, .slice B m e0] 26)).alloc (.cells #[.slice C q d] 24)).heap.size = w1.heap.size + 3 := by simp
  generalize (((w1.alloc (.cells #[.int .i64 0] 3)).alloc (.cells #[.slice A n c, .slice B m e0] 26)).alloc (.cells #[.slice C q d] 24)) = w5 at *
  obtain ⟨g, hg⟩ : ∃ g, w1.heap.size = g := ⟨_, rfl⟩
  rw [hg] at x1 x2 y0 y1 zz hz1 hz2 ⊢
  have Y0 := hid y0
  have Y5 := hid y5
  have hgi : ∀ (b : Nat) (k : Nat), w5.heap.size + 2 ≤ b → notMine w5.heap.size b k → g < k := fun b k hb hk => by
    rcases hk with hk | hk | hk <;> omega
  have HGI := hid hgi
  have HZZ := hid zz
  clear y5 x0 y0 hgi zz
  refine wp_rangeFunc_chg (gf := 77) (lb := #[.pointer (some ⟨g + 1 + 1, 0, none⟩), .pointer (some ⟨g + 1, 0, none⟩)]) rfl (enters_of Try.func77 (by kernel_rfl) rfl)
    (readings_seq w.heap.size (g + 1) (g + 1) (g + 1 + 1) A n c B m e0 C q d l r page w5 (L.out.below Y5.out (Nat.le_refl _)) (R.out.below Y5.out (Nat.le_refl _)) (PG.out.below Y5.out (Nat.le_refl _)) y1 x2 HOK.out (by omega) (Nat.le_refl _) (by omega)) (by rw [HZZ.out]; omega)
    (fun b x X X' hb h hc => ⟨h.1.kept (hc.block b h.1.lt (by omega)), h.2⟩)
    (fun _ pre W => W.heap[g]? = some (.cells #[.int .i64 (pre.length : Int)] 3 (0, 0)) ∧ Below w.heap.size w W) (fun _ _ _ _ => False)
    (fun b s X X' hb h hc => ⟨(hc.block g (Array.getElem?_eq_some_iff.1 h.1).1 (fun hk => by have := HGI.out b g hb hk; omega)).trans h.1, h.2.trans (hc.below h.2.size (fun k hk => by have := HGI.out b k hb hk; omega))⟩)
    (fun _ _ _ _ _ _ h _ => h) (fun b hb => ⟨Y0.out, Y5.out⟩)
    (fun b => { tmps := #[.agg #[.slice A n c, .slice B m e0], .slice C q d, .pointer (some ⟨w.heap.size, 0, none⟩), undef, .int .i64 0, .pointer (some ⟨g, 0, none⟩), .agg #[.slice A n c, .slice B m e0], .slice C q d, .bool true, .bool false, .agg #[.slice A n c, .slice B m e0], .slice C q d, .func (.func 77) #[] #[.pointer (some ⟨g + 1 + 1, 0, none⟩), .pointer (some ⟨g + 1, 0, none⟩)], .slice (some ⟨b, 0, none⟩) q q, undef, undef, undef], defers := [] }) ?assign ?body ?done ?stop
  case assign =>
    intro l' b W K hK
    gi_wp2_with fail
    exact hK
  case body =>
    rintro l' b pre x W hb - ⟨hW1, hW2⟩ hr hpre
    have k0 : W.cell? ⟨g, 0, none⟩ = some (.int .i64 (pre.length : Int)) := by rw [cell_of_row W _ _ _ _ (0, 0) hW1]; rfl
    have f0 := frozen_of_row W g 0 _ _ hW1
    have hlen : pre.length ≤ 1679616 := by have h1 := hpre.length_le; have h2 := HMX.out; simp at h1; omega
    have hset := heap_setCell_same W g 0 _ 3 (.int .i64 ((pre.length : Int) + 1)) hW1
    have HS := hid hset
    have HW := hid (And.intro hW1 hW2)
    clear hW1 hW2 hr hpre hset
    gi_wp2_with fail
    refine ⟨(Chg.refl _ _).set (p := ⟨g, 0, none⟩) (show rng w.heap.size (g + 1) g from ⟨by omega, by omega⟩) _, ?_, HW.out.2.setCell (p := ⟨g, 0, none⟩) (by show w.heap.size ≤ g; omega) _⟩
    rw [HS.out]
    simp
  case done =>
    rintro b W hb ⟨hW1, hW2⟩ hK
    have k0 : W.cell? ⟨g, 0, none⟩ = some (.int .i64 ((readsOf l r page []).length : Int)) := by rw [cell_of_row W _ _ _ _ (0, 0) hW1]; rfl
    have HW := hid (And.intro hW2 hK)
    clear hW1 hW2 hK
    go_wp2_with fail
    refine ⟨by simp, .inl ⟨_, _, rfl, run_takeDeferred HW.out.2, ?_⟩⟩
    exact ⟨.int .i64 ((readsOf l r page []).length : Int), results_one rfl rfl, ret_int HF.out.symm, below_putObj _ HW.out.1 (by have := HZZ.out; omega)⟩
  case stop =>
    rintro _ b pre W _ _ h _
    exact h.elim
end Go.Proofs.Ytfjoininagdlcaa
