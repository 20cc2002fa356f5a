/- Briefs of the call's own: copies. -/
import Derived.Test.YthijnojefeeaoaaMarkS2
namespace Go.Proofs.Ythijnojefeeaoaa
open Go.RowKit
theorem brv_open {base : Nat} {w : World} {e : TypeId} {g n c : Nat} {l : List (ByteArray × Value)} (h : OwnR brvS base w e (.slice (some ⟨g, 0, none⟩) n c) l) :
    n = l.length ∧ base ≤ g ∧ n ≤ c ∧ c ≤ maxLen ∧ ∃ cur : Array Value, w.heap[g]? = some (.cells cur e (0, 0)) ∧ cur.size = c * 2 ∧
      ∀ i, i < n → cur[i * 2]? = some (.string (gt l i).1) ∧ (gt l i).1.size ≤ 9223372036854775807 ∧ cur[i * 2 + 1]? = some (gt l i).2 := by
  obtain ⟨xs, ⟨hl, h2⟩, hx⟩ := h
  rcases h2 with ⟨h3, h0⟩ | ⟨g', cap, cur, h3, hg, hh, hc, hcm, hcs, htake⟩
  · injection h3 with a1 a2 a3
    cases a1
  · injection h3 with a1 a2 a3
    injection a1 with a1
    injection a1 with a1
    subst a1 a2 a3
    have hcs' : cur.size = c * 2 := hcs
    have htake' : List.take (l.length * 2) cur.toList = xs := htake
    refine ⟨rfl, hg, hc, hcm, cur, hh, hcs', fun i hi => ?_⟩
    obtain ⟨f, hf, e0, e9, e1⟩ := hx i hi
    have f0 := hf 0 (by show 0 < 2; omega)
    have f1 := hf 1 (by show 1 < 2; omega)
    have s0 : i * brvS.sz + 0 = i * 2 := rfl
    have s1 : i * brvS.sz + 1 = i * 2 + 1 := rfl
    rw [s0, e0, ← htake', List.getElem?_take] at f0
    rw [s1, e1, ← htake', List.getElem?_take] at f1
    rw [if_pos (by omega)] at f0 f1
    exact ⟨by simpa using f0, e9, by simpa using f1⟩
theorem brv_shut {base : Nat} {w : World} {e : TypeId} {g n c : Nat} {l : List (ByteArray × Value)} (hn : n = l.length) (hg : base ≤ g) (hc : n ≤ c) (hm : c ≤ maxLen) {cur : Array Value} (hh : w.heap[g]? = some (.cells cur e (0, 0))) (hs : cur.size = c * 2)
    (hx : ∀ i, i < n → cur[i * 2]? = some (.string (gt l i).1) ∧ (gt l i).1.size ≤ 9223372036854775807 ∧ cur[i * 2 + 1]? = some (gt l i).2) : OwnR brvS base w e (.slice (some ⟨g, 0, none⟩) n c) l := by
  subst hn
  refine ⟨cur.toList.take (l.length * 2), ⟨?_, .inr ⟨g, c, cur, rfl, hg, hh, hc, hm, hs, rfl⟩⟩, fun i hi => ?_⟩
  · show (cur.toList.take (l.length * 2)).length = l.length * 2
    have hcl : cur.toList.length = c * 2 := by simpa using hs
    rw [List.length_take]
    omega
  · obtain ⟨h0, h9, h1⟩ := hx i hi
    refine ⟨fun t => if t = 0 then .string (gt l i).1 else (gt l i).2, fun t ht => ?_, rfl, h9, rfl⟩
    have ht' : t < 2 := ht
    have s : i * brvS.sz + t = i * 2 + t := rfl
    rw [s, List.getElem?_take, if_pos (by omega)]
    match t, ht' with
    | 0, _ => simpa using h0
    | 1, _ => simpa using h1
set_option maxHeartbeats 400000 in
theorem toBrief_row (A : Option Addr) (n c lo : Nat) (s : ByteArray) (xs : List ByteArray) (w : World) (hx : Rd strS lo w.heap.size w A n xs) (hn : n ≤ 1048576) :
    Calls Try.prog 36 #[.agg #[.string s, .slice A n c]] w fun e w' => ∃ g, e = .returned (.agg #[.string s, .slice (some ⟨g, 0, none⟩) n n]) ∧ RowS w' (g, n, xs) ∧ w.heap.size ≤ g ∧ Below w.heap.size w w' := by
  have hB3 : ∀ (x y z : Obj), Below w.heap.size w (((w.alloc x).alloc y).alloc z) := fun x y z => bal (bal (bnew _ _) _) _
  have HX := hid (fun x y z => hx.bl (hB3 x y z)); clear hx
  have HB := hid hB3; clear hB3
  have hC : ∀ x y z : Obj, (((w.alloc x).alloc y).alloc z).heap[w.heap.size + 2]? = some z := fun x y z => by
    have := heap_alloc_new ((w.alloc x).alloc y) z
    rw [World.size_alloc, World.size_alloc] at this
    exact this
  have hR : ∀ x y z : Obj, (((w.alloc x).alloc y).alloc z).heap[w.heap.size + 1]? = some y := fun x y z => by
    have h1 := heap_alloc_new (w.alloc x) y
    rw [World.size_alloc] at h1
    exact ((bnew ((w.alloc x).alloc y) z).block (w.heap.size + 1) (by rw [World.size_alloc, World.size_alloc]; omega)).trans h1
  have HC := hid hC; clear hC
  have HR := hid hR; clear hR
  go_enter Try.func36, Try.ntmps36
  go_wp2_with fail
  refine (toStringS_row _ _ _ _ _ _ (HX.out _ _ _) hn).mono ?_
  rintro e w1 ⟨g1, rfl, rx2, hg1, hb1⟩
  have hc1 := (hb1.block (w.heap.size + 2) (by simp)).trans (HC.out _ _ _)
  have hr1 := (hb1.block (w.heap.size + 1) (by simp)).trans (HR.out _ _ _)
  obtain ⟨a0, a1, a2, a3⟩ := at_get hc1
  obtain ⟨r0, r1, r2, r3⟩ := at_get hr1
  have hb2 := hid (btr (HB.out _ _ _) hb1)
  have hz := hb1.size
  rw [World.size_alloc, World.size_alloc, World.size_alloc] at hz hg1
  have RX := hid rx2
  clear hb1 rx2 hc1 hr1
  go_wp2_with fail
  refine bodyPost_ret (v := .agg #[.string s, .slice (some ⟨g1, 0, none⟩) n n]) (by simp [results, Try.results36, go_sem, r0, r1]) rfl ?_
  refine ⟨g1, rfl, ?_, by omega, bsc (bsc (bsc hb2.out (by show w.heap.size ≤ w.heap.size + 2; omega) _) (by show w.heap.size ≤ w.heap.size + 1; omega) _) (by show w.heap.size ≤ w.heap.size + 1; omega) _⟩
  refine RX.out.kept ?_
  rw [Below.heap_setCell _ _ _ _ (fun e => by dsimp only at e; omega), Below.heap_setCell _ _ _ _ (fun e => by dsimp only at e; omega), Below.heap_setCell _ _ _ _ (fun e => by dsimp only at e; omega)]
/-- A block of briefs that has been filled up to k. -/
structure NestFB (g n : Nat) (w : World) (k : Nat) (ds : List BrD) : Prop where
  cur : ∃ cur : Array Value, w.heap[g]? = some (.cells cur 31 (0, 0)) ∧ cur.size = n * 2 ∧ ∀ i, i < k → cur[i * 2]? = some (.string (gt ds i).1) ∧ (gt ds i).1.size ≤ 9223372036854775807 ∧ cur[i * 2 + 1]? = some (rowTV (gt ds i).2)
  len : ds.length = k
  row : ∀ d ∈ ds, g < d.2.1 ∧ d.2.1 < w.heap.size ∧ RowS w d.2
  one : (ds.map (·.2.1)).Nodup
theorem NestFB.done {g n : Nat} {w : World} {ds : List BrD} (h : NestFB g n w n ds) (hn : n ≤ 1048576) {base : Nat} (hb : base ≤ g) : NestB base w.heap.size w (.slice (some ⟨g, 0, none⟩) n n) ds := by
  obtain ⟨cur, h1, h2, h3⟩ := h.cur
  refine ⟨brv_shut (by rw [List.length_map, h.len]) hb (Nat.le_refl _) (by simp only [maxLen]; omega) h1 h2 fun i hi => ?_, fun d hd => ?_, h.one⟩
  · rw [gt_map (by rw [h.len]; exact hi)]
    exact h3 i hi
  · obtain ⟨r1, r2, r3⟩ := h.row d hd
    exact ⟨by omega, r2, fun e => by have e' : some g = some d.2.1 := e; injection e' with e'; omega, r3⟩
theorem NestFB.snoc {g n k : Nat} {w w1 : World} {ds : List BrD} {d : BrD} (h : NestFB g n w k ds) (hk : k < n) (hb : Below w.heap.size w w1) (hr : RowS w1 d.2) (h1 : w.heap.size ≤ d.2.1) (hs : d.1.size ≤ 9223372036854775807) (hg : g < w.heap.size) :
    NestFB g n ((w1.setCell ⟨g, k * 2, none⟩ (.string d.1)).setCell ⟨g, k * 2 + 1, none⟩ (rowTV d.2)) (k + 1) (ds ++ [d]) := by
  obtain ⟨cur, c1, c2, c3⟩ := h.cur
  have c1' := (hb.block g hg).trans c1
  have hset := heap_setCell_same _ g (k * 2 + 1) _ 31 (rowTV d.2) (heap_setCell_same w1 g (k * 2) cur 31 (.string d.1) c1')
  have hother : ∀ i, i ≠ g → ((w1.setCell ⟨g, k * 2, none⟩ (.string d.1)).setCell ⟨g, k * 2 + 1, none⟩ (rowTV d.2)).heap[i]? = w1.heap[i]? := fun i hi => (Below.heap_setCell _ ⟨g, k * 2 + 1, none⟩ (rowTV d.2) i hi).trans (Below.heap_setCell w1 ⟨g, k * 2, none⟩ (.string d.1) i hi)
  refine ⟨⟨_, hset, by simpa using c2, fun i hi => ?_⟩, by simp [h.len], fun q hq => ?_, ?_⟩
  · by_cases e : k = i
    · subst e
      have hl := gt_last (l := ds) (x := d)
      rw [h.len] at hl
      rw [hl]
      refine ⟨?_, hs, ?_⟩
      · rw [Array.getElem?_setIfInBounds, if_neg (by omega), Array.getElem?_setIfInBounds, if_pos rfl, if_pos (by omega)]
      · rw [Array.getElem?_setIfInBounds, if_pos rfl, if_pos (by simp; omega)]
    · obtain ⟨g0, g9, g1⟩ := c3 i (by omega)
      rw [gt_append (by rw [h.len]; omega)]
      refine ⟨?_, g9, ?_⟩
      · rw [Array.getElem?_setIfInBounds, if_neg (by omega), Array.getElem?_setIfInBounds, if_neg (by omega)]
        exact g0
      · rw [Array.getElem?_setIfInBounds, if_neg (by omega), Array.getElem?_setIfInBounds, if_neg (by omega)]
        exact g1
  · rcases List.mem_append.1 hq with hq | hq
    · obtain ⟨q1, q2, q3⟩ := h.row q hq
      have q2' := Nat.lt_of_lt_of_le q2 hb.size
      exact ⟨q1, by simpa using q2', q3.kept ((hother _ (by omega)).trans (hb.block _ q2))⟩
    · rw [List.mem_singleton] at hq
      subst hq
      exact ⟨by omega, by have := hr.lt; simpa using this, hr.kept (hother _ (by omega))⟩
  · rw [List.map_append]
    refine List.nodup_append.2 ⟨h.one, by simp, fun a ha b hb' => ?_⟩
    obtain ⟨q, hq, rfl⟩ := List.mem_map.1 ha
    simp only [List.map_cons, List.map_nil, List.mem_singleton] at hb'
    have := (h.row q hq).2.1
    omega
set_option maxHeartbeats 1000000 in
theorem toBriefS_nest (A : Option Addr) (n c lo : Nat) (xs : List BriefT) (w : World) (hx : Rd briefS lo w.heap.size w A n xs) (hn : n ≤ 1048576) (hr : ∀ b ∈ xs, b.2.length ≤ 1048576) :
    Calls Try.prog 25 #[.slice A n c] w fun e w' => ∃ g ds, e = .returned (.slice (some ⟨g, 0, none⟩) n n) ∧ NestB w.heap.size w'.heap.size w' (.slice (some ⟨g, 0, none⟩) n n) ds ∧ ds.map brT = xs ∧ Below w.heap.size w w' := by
  obtain ⟨i0, hi, hz0, hz1, hz2⟩ := info_parts (show (Try.prog.info? 31).map (fun i => (i.zero, i.size, i.bytes)) = some (some (.agg #[.string ⟨#[]⟩, .slice none 0 0]), 2, 40) by kernel_rfl)
  have hmk := fun w => make_rule (P := Try.prog) Try.underlying23 hi hz0 hz1 hz2 (n := n) (by omega) (by omega) w
  have F0 := hid (show NestFB w.heap.size n (w.alloc (.cells (madeCells (Value.agg #[.string ⟨#[]⟩, .slice none 0 0]).cells (n * 2)) 31)) 0 [] from ⟨⟨_, heap_alloc_new w _, by rw [size_madeCells], fun i hi => absurd hi (by omega)⟩, rfl, (fun r hr => by cases hr), List.nodup_nil⟩)
  obtain ⟨e1, e2, e3⟩ := hx
  have E1 := hid e1; clear e1
  have E3 := hid e3; clear e3
  have HR := hid hr; clear hr
  have hb0 := bnew w (.cells (madeCells (Value.agg #[.string ⟨#[]⟩, .slice none 0 0]).cells (n * 2)) 31)
  have HB0 := hid hb0
  clear hi hz0 hz1 hz2 hb0
  go_enter Try.func25, Try.ntmps25
  go_wp2
  clear hmk
  go_loopg [4] n (fun gk i wr => ∃ (k : Nat) (ds : List BrD), k + gk = n ∧ i = .int .i64 k ∧ NestFB w.heap.size n wr k ds ∧ ds.map brT = xs.take k ∧ Below w.heap.size w wr)
  case atStart => exact ⟨0, [], Nat.zero_add _, rfl, F0.out, by simp, HB0.out⟩
  case round =>
    clear F0
    obtain ⟨k, ds, hkg, rfl, hF, hds, hb⟩ := hrel
    have HKG := hid hkg
    have HF := hid hF
    have HDS := hid hds
    have HB := hid hb
    have hk : k ≤ n := by omega
    have hwz := hb.size
    clear hkg hF hds hb
    by_cases hlt : k < n
    · have hki : (k : Int) < (n : Int) := by omega
      have hkx : k < xs.length := by rw [← E1.out]; exact hlt
      obtain ⟨b, off, rfl, _, hbb, hcx⟩ := E3.out (by omega)
      obtain ⟨Ax, cx', x0, x1, x2, _, rx⟩ := hcx.brief hlt
      have cx0 := bcl HB.out x0
      have cx1 := bcl HB.out x1
      have RX := hid (rx.bl HB.out)
      have hl : (gt xs k).2.length ≤ 1048576 := HR.out _ (gt_mem hkx)
      have HTK := hid (take_gt hkx)
      obtain ⟨B1, hB1⟩ : ∃ B1, gt xs k = B1 := ⟨_, rfl⟩
      rw [hB1] at cx0 cx1 RX hl HTK x2
      obtain ⟨s1, ys⟩ := B1
      dsimp only at cx0 cx1 RX hl x2
      obtain ⟨q, hq⟩ : ∃ q, ys.length = q := ⟨_, rfl⟩
      have HQ := hid hq
      rw [hq] at cx1 RX hl
      obtain ⟨cur, hc1, hc2, _⟩ := HF.out.cur
      have hgl := (Array.getElem?_eq_some_iff.1 hc1).1
      have HC1 := hid hc1
      clear hcx x0 x1 rx hB1 hq hc1
      go_wp2_with fail
      refine (toBrief_row _ _ _ lo _ _ _ RX.out hl).mono ?_
      rintro e w1 ⟨g1, rfl, rx2, hg1, hb1⟩
      have hcc := (hb1.block w.heap.size hgl).trans HC1.out
      have c1 : w1.cell? ⟨w.heap.size, k * 2, none⟩ = some (cur[k * 2]'(by omega)) := by rw [cell_of_row w1 _ _ cur _ (0, 0) hcc]; exact Array.getElem?_eq_getElem (by omega)
      have c2 : w1.cell? ⟨w.heap.size, k * 2 + 1, none⟩ = some (cur[k * 2 + 1]'(by omega)) := by rw [cell_of_row w1 _ _ cur _ (0, 0) hcc]; exact Array.getElem?_eq_getElem (by omega)
      have f1 := frozen_of_row w1 w.heap.size (k * 2) cur _ hcc
      have f2 := frozen_of_row w1 w.heap.size (k * 2 + 1) cur _ hcc
      obtain ⟨u1, hu1⟩ : ∃ u, cur[k * 2]'(by omega) = u := ⟨_, rfl⟩
      obtain ⟨u2, hu2⟩ : ∃ u, cur[k * 2 + 1]'(by omega) = u := ⟨_, rfl⟩
      rw [hu1] at c1
      rw [hu2] at c2
      have HR2 := hid rx2
      have HB1 := hid hb1
      have hz1 := hb1.size
      clear cx0 cx1 hu1 hu2 hcc rx2 hb1
      go_wp2_with fail
      go_roundg (gk - 1)
      case measure => have := HKG.out; omega
      case rel =>
        have hsn := HF.out.snoc (d := (s1, g1, q, ys)) hlt HB1.out HR2.out hg1 x2 hgl
        have hrv : rowTV (g1, q, ys) = .slice (some ⟨g1, 0, none⟩) q q := by unfold rowTV; rw [← HQ.out]
        rw [hrv] at hsn
        refine ⟨k + 1, ds ++ [(s1, g1, q, ys)], by have := HKG.out; omega, by go_num, hsn, ?_, bsc (bsc (btr HB.out HB1.out) (Nat.le_refl _) _) (Nat.le_refl _) _⟩
        rw [List.map_append, HDS.out, HTK.out]
        rfl
    · obtain rfl : k = n := by omega
      go_wp2_with fail
      go_ret
      refine ⟨_, ds, rfl, HF.out.done hn (Nat.le_refl _), ?_, HB.out⟩
      rw [HDS.out]
      exact List.take_of_length_le (by rw [← E1.out]; exact Nat.le_refl _)
end Go.Proofs.Ythijnojefeeaoaa
