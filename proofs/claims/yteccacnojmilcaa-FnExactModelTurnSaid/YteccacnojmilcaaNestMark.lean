/- Marks of rows of rows of the call's own, and fresh copies. -/
import Derived.Test.YteccacnojmilcaaNestFns
namespace Go.Proofs.Yteccacnojmilcaa
open Go.RowKit
def markR : Int → List RowD → List RowD
  | _, [] => []
  | k, (b, c, l) :: r => (b, c, marksI k l.length) :: markR (k + l.length) r
def lensR (rs : List RowD) : List Nat := rs.map fun r => r.2.2.length
theorem markR_len (k : Int) (rs : List RowD) : (markR k rs).length = rs.length := by
  induction rs generalizing k with
  | nil => rfl
  | cons x r ih => obtain ⟨b, c, l⟩ := x; simp [markR, ih]
theorem markR_vals (k : Int) (rs : List RowD) : (markR k rs).map rowV = rs.map rowV := by
  induction rs generalizing k with
  | nil => rfl
  | cons x r ih => obtain ⟨b, c, l⟩ := x; simp [markR, ih, rowV, marksI_len]
theorem markR_blocks (k : Int) (rs : List RowD) : (markR k rs).map (·.1) = rs.map (·.1) := by
  induction rs generalizing k with
  | nil => rfl
  | cons x r ih => obtain ⟨b, c, l⟩ := x; simp [markR, ih]
theorem markR_lists (k : Int) (rs : List RowD) : (markR k rs).map (·.2.2) = marksSS k (lensR rs) := by
  induction rs generalizing k with
  | nil => rfl
  | cons x r ih => obtain ⟨b, c, l⟩ := x; simp [markR, marksSS, lensR, ih]
theorem markR_gt {rs : List RowD} {j : Nat} (h : j < rs.length) (k : Int) : gt (markR k rs) j = ((gt rs j).1, (gt rs j).2.1, marksI (k + sumLen ((lensR rs).take j)) (gt rs j).2.2.length) := by
  induction rs generalizing k j with
  | nil => simp at h
  | cons x r ih =>
    obtain ⟨b, c, l⟩ := x
    cases j with
    | zero => simp [markR, gt, sumLen]
    | succ j =>
      have := ih (j := j) (by simpa using h) (k + l.length)
      have e1 : gt (markR k ((b, c, l) :: r)) (j + 1) = gt (markR (k + l.length) r) j := by simp [markR, gt]
      have e2 : gt ((b, c, l) :: r) (j + 1) = gt r j := by simp [gt]
      have e3 : (lensR ((b, c, l) :: r)).take (j + 1) = l.length :: (lensR r).take j := by simp [lensR]
      rw [e1, e2, this, e3, sumLen]
      have e4 : k + (l.length : Int) + (sumLen ((lensR r).take j) : Int) = k + ((l.length + sumLen ((lensR r).take j) : Nat) : Int) := by omega
      rw [e4]
theorem nodup_gt {l : List Nat} (h : l.Nodup) {i j : Nat} (hi : i < l.length) (hj : j < l.length) (hne : i ≠ j) : gt l i ≠ gt l j := by
  rw [gt_eq hi, gt_eq hj]
  rcases Nat.lt_or_gt_of_ne hne with h1 | h1
  · exact List.pairwise_iff_getElem.1 h i j hi hj h1
  · exact (List.pairwise_iff_getElem.1 h j i hj hi h1).symm
set_option maxHeartbeats 1000000 in
theorem markIntSS_any (A : Option Addr) (n c lo hi : Nat) (et ei : TypeId) (rs : List RowD) (k0 : Int) (w : World) (h : NestR lo hi w et ei (.slice A n c) rs) (hrs : rs.length ≤ 1048576) (hs : sumLen (lensR rs) ≤ 4194304) (hns : ∀ r ∈ rs, r.2.2.length ≤ 1048576) (h0 : 0 ≤ k0) (h1 : k0 ≤ 4194304) :
    Calls Try.prog 13 #[.slice A n c, .int .i64 k0] w fun r w' => r = .returned (.int .i64 (k0 + sumLen (lensR rs))) ∧ NestR lo hi w' et ei (.slice A n c) (markR k0 rs) ∧ Chg (rng lo hi) w w' := by
  have hnr := (h.rd (by omega)).1
  have HN := hid hnr
  have hn20 : n ≤ 1048576 := by omega
  have NE := hid h
  have HNS := hid hns
  have E3 := hid (h.own.rd (by rw [List.length_map]; omega)).2.2.2
  clear h hns hnr
  go_enter Try.func13, Try.ntmps13
  go_wp2_with fail
  go_loopg [1, 5] n (fun gk k i wr => ∃ (j : Nat) (m : Int), j + gk = n ∧ i = .int .i64 j ∧ k = .int .i64 m ∧ m = k0 + sumLen ((lensR rs).take j) ∧ (∀ i, i < rs.length → RowAt wr ei (if i < j then gt (markR k0 rs) i else gt rs i)) ∧ Chg (fun b => ∃ r, r ∈ rs ∧ r.1 = b) w wr)
  case atStart => exact ⟨0, k0, Nat.zero_add _, rfl, rfl, by simp [sumLen], fun i hi => by rw [if_neg (by omega)]; exact (NE.out.row _ (gt_mem hi)).2.2.2, Chg.refl _ _⟩
  case round =>
    obtain ⟨j, m, hjg, rfl, rfl, hm, hrows, hch⟩ := hrel
    have HJG := hid hjg
    have HM := hid hm
    have HROWS := hid hrows
    have HCH := hid hch
    have hsl := sumLen_le (lensR rs) j
    have hm1 : m ≤ 16777216 := by omega
    have hm0 : 0 ≤ m := by omega
    have hj : j ≤ n := by omega
    clear hjg hm hsl hrows hch
    by_cases hlt : j < n
    case pos =>
      have hji : (j : Int) < (n : Int) := by omega
      have hjl : j < rs.length := by rw [← HN.out]; exact hlt
      have hjl2 : j < (lensR rs).length := by simpa [lensR] using hjl
      have hst := hid (sumLen_take hjl2)
      have hgl := hid (show gt (lensR rs) j = (gt rs j).2.2.length from gt_map hjl)
      obtain ⟨b, off, rfl, hb1, hb2, hcx⟩ := E3.out (by omega)
      obtain ⟨f, hf, he⟩ := hcx j hlt
      have hown := NE.out.row _ (gt_mem hjl)
      have hmg := hid (markR_gt hjl k0)
      have hrow := HROWS.out j hjl
      rw [if_neg (by omega)] at hrow
      have hlb := HNS.out _ (gt_mem hjl)
      obtain ⟨rb, rc, rl, hre⟩ : ∃ rb rc rl, gt rs j = (rb, rc, rl) := ⟨_, _, _, rfl⟩
      have HRE := hid hre
      rw [hre] at hrow hlb hown
      have f0 : w.cell? ⟨b, off + j, none⟩ = some (.slice (some ⟨rb, 0, none⟩) rl.length rc) := by
        have h2 := hf 0 (by show 0 < 1; omega)
        have h3 : f 0 = gt (rs.map rowV) j := he
        rw [h3, gt_map hjl, hre] at h2
        have s0 : off + j * valS.sz + 0 = off + j := by show off + j * 1 + 0 = off + j; omega
        rw [s0] at h2
        exact h2
      have hbD : ¬ ∃ r, r ∈ rs ∧ r.1 = b := by
        rintro ⟨r, hr, e⟩
        exact (NE.out.row r hr).2.2.1 (by rw [e]; rfl)
      have cx := (World.cell?_of_block (HCH.out.block b (block_lt_of_cell f0) hbD)).trans f0
      have HROW := hid hrow
      have hlb' : rl.length ≤ 1048576 := hlb
      clear hcx hf he f0 hrow hown hre hlb hbD
      go_wp2_with fail
      refine (markIntS_row rb rl.length rc ei rl m _ HROW.out rfl hlb' hm0 (by omega)).mono ?_
      rintro e w2 ⟨rfl, hr2, hc2⟩
      have HR2 := hid hr2
      have HC2 := hid hc2
      clear hr2 hc2 cx
      go_wp2_with fail
      go_roundg (gk - 1)
      case measure => have := HJG.out; omega
      case rel =>
        refine ⟨j + 1, m + rl.length, by have := HJG.out; omega, by go_num, rfl, by rw [HM.out, hst.out, hgl.out, HRE.out]; simp only []; omega, fun i hi => ?_, HCH.out.trans (HC2.out.wide fun k hk => ⟨gt rs j, gt_mem hjl, by rw [HRE.out]; exact hk.symm⟩)⟩
        by_cases hij : i = j
        · subst hij
          rw [if_pos (by omega), hmg.out, HRE.out, ← HM.out]
          exact HR2.out
        · have hne : (gt rs i).1 ≠ rb := by
            have := nodup_gt NE.out.one (i := i) (j := j) (by rw [List.length_map]; exact hi) (by rw [List.length_map]; exact hjl) hij
            rw [gt_map hi, gt_map hjl, HRE.out] at this
            exact this
          have hold := HROWS.out i hi
          by_cases hlt2 : i < j
          · rw [if_pos (by omega)]
            rw [if_pos hlt2] at hold
            refine hold.kept (HC2.out.block _ hold.lt ?_)
            rw [markR_gt hi]
            exact hne
          · rw [if_neg (by omega)]
            rw [if_neg hlt2] at hold
            exact hold.kept (HC2.out.block _ hold.lt hne)
    case neg =>
      obtain rfl : j = n := by omega
      have HF := hid (show k0 + (sumLen (lensR rs) : Int) = m by rw [HM.out, List.take_of_length_le (by simp only [lensR, List.length_map]; rw [← HN.out]; omega)])
      go_wp2_with fail
      go_ret
      refine ⟨ret_int HF.out.symm, ⟨?_, fun r hr => ?_, by rw [markR_blocks]; exact NE.out.one⟩, HCH.out.wide fun k hk => ?_⟩
      · rw [markR_vals]
        refine NE.out.own.flat valS_flat HCH.out fun k hk hD => ?_
        obtain ⟨r, hr, rfl⟩ := hD
        exact (NE.out.row r hr).2.2.1 hk
      · obtain ⟨i, hi, rfl⟩ := List.getElem_of_mem hr
        have hil : i < rs.length := by rw [markR_len] at hi; exact hi
        have hg : (markR k0 rs)[i] = gt (markR k0 rs) i := (gt_eq hi).symm
        have h3 := HROWS.out i hil
        rw [if_pos (by have := HN.out; omega)] at h3
        obtain ⟨q1, q2, q3, _⟩ := NE.out.row _ (gt_mem hil)
        rw [hg]
        have hb := markR_gt hil k0
        refine ⟨by rw [hb]; exact q1, by rw [hb]; exact q2, by rw [hb]; exact q3, h3⟩
      · obtain ⟨r, hr, rfl⟩ := hk
        exact ⟨(NE.out.row r hr).1, (NE.out.row r hr).2.1⟩
theorem Filled.rowAt {lo hi : Nat} {w : World} {g e n : Nat} {l : List Int} (h : Filled intS lo hi w g e n n l) : RowAt w e (g, n, l) := by
  obtain ⟨cur, h1, h2, h3, h4, h5⟩ := h
  have h2' : n * 1 ≤ cur.size := h2
  refine ⟨cur, h1, Nat.le_of_eq h3.symm, by show l.length ≤ cur.size; omega, by show l.length ≤ _; omega, fun j hj => ?_⟩
  obtain ⟨f, hf, he⟩ := h5 j (by rw [h3]; exact hj)
  have f0 := hf 0 (by show 0 < 1; omega)
  have e0 : f 0 = .int .i64 (gt l j) := he
  have s0 : j * intS.sz + 0 = j := by show j * 1 + 0 = j; omega
  rw [s0, e0] at f0
  exact f0
set_option maxHeartbeats 400000 in
theorem toIntS_row (A : Option Addr) (n c lo : Nat) (xs : List Int) (w : World) (hx : Rd intS lo w.heap.size w A n xs) (hn : n ≤ 1048576) :
    Calls Try.prog 29 #[.slice A n c] w fun e w' => ∃ g, e = .returned (.slice (some ⟨g, 0, none⟩) n n) ∧ RowAt w' 3 (g, n, xs) ∧ w.heap.size ≤ g ∧ Below w.heap.size w w' := by
  obtain ⟨i0, hi, hz0, hz1, hz2⟩ := info_parts (show (Try.prog.info? 3).map (fun i => (i.zero, i.size, i.bytes)) = some (some (.int .i64 0), 1, 8) by kernel_rfl)
  have hmk := fun w => make_rule (P := Try.prog) Try.underlying34 hi hz0 hz1 hz2 (n := n) (by omega) (by omega) w
  have F0 := fun w => Filled.new intS w.heap.size w.heap.size w 3 (madeCells #[Value.int .i64 0] n) xs (by rw [size_madeCells, ← hx.1]; show n = n * 1; omega) (by have := hx.1; omega)
  obtain ⟨e1, e2, e3⟩ := hx
  have E1 := hid e1; clear e1
  have E3 := hid e3; clear e3
  clear hi hz0 hz1 hz2
  go_enter Try.func29, Try.ntmps29
  go_wp2
  clear hmk
  go_loopw [4] (fun i wr => ∃ k : Nat, k ≤ n ∧ i = .int .i64 k ∧ Filled intS w.heap.size w.heap.size wr w.heap.size 3 n k xs ∧ Below w.heap.size w wr) (fun i _ => n - (intOf i).toNat)
  case atStart => exact ⟨0, Nat.zero_le _, rfl, by have := F0 w; rw [← E1.out] at this; exact this, (Below.refl _ _).alloc (Nat.le_refl _) _⟩
  case round =>
    obtain ⟨k, hk, rfl, hF, hb⟩ := hrel
    clear F0
    by_cases hlt : k < n
    · obtain ⟨b, off, rfl, _, hbb, hcx⟩ := E3.out (by omega)
      have cx := (hb.cell (p := ⟨b, off + k, none⟩) hbb).trans (hcx.int hlt)
      obtain ⟨⟨v, c1⟩, f1⟩ := hF.at_ (i := k) (by show k < n * 1; omega)
      clear hcx
      go_wp2
      go_roundw
      case rel => exact ⟨k + 1, by omega, by go_num, hF.set1 rfl hlt rfl (by omega), hb.setCell (by simp) _⟩
      case measure => simp [intOf]; omega
    · obtain rfl : k = n := by omega
      go_wp2
      go_ret
      exact ⟨_, rfl, hF.rowAt, Nat.le_refl _, hb⟩
/-- A block of slices that has been filled up to k. -/
structure NestF (g n : Nat) (w : World) (et ei : TypeId) (k : Nat) (rs : List RowD) : Prop where
  cur : ∃ cur : Array Value, w.heap[g]? = some (.cells cur et (0, 0)) ∧ cur.size = n ∧ ∀ i, i < k → cur[i]? = some (rowV (gt rs i))
  len : rs.length = k
  row : ∀ r ∈ rs, g < r.1 ∧ r.1 < w.heap.size ∧ RowAt w ei r
  one : (rs.map (·.1)).Nodup
theorem NestF.done {g n : Nat} {w : World} {et ei : TypeId} {rs : List RowD} (h : NestF g n w et ei n rs) (hn : n ≤ 1048576) {base : Nat} (hb : base ≤ g) : NestR base w.heap.size w et ei (.slice (some ⟨g, 0, none⟩) n n) rs := by
  obtain ⟨cur, h1, h2, h3⟩ := h.cur
  refine ⟨⟨cur.toList, ⟨by rw [Array.length_toList, h2, List.length_map, h.len]; exact (Nat.mul_one n).symm, .inr ⟨g, n, cur, by rw [List.length_map, h.len], hb, h1, by rw [List.length_map, h.len]; omega, by simp only [maxLen]; omega, by rw [h2]; exact (Nat.mul_one n).symm, ?_⟩⟩, fun k hk => ?_⟩, fun r hr => ?_, h.one⟩
  · rw [List.length_map, h.len]
    exact List.take_of_length_le (by rw [Array.length_toList, h2]; show n ≤ n * 1; omega)
  · rw [List.length_map, h.len] at hk
    have hkr : k < rs.length := by rw [h.len]; exact hk
    refine ⟨fun _ => rowV (gt rs k), fun j hj => ?_, (gt_map hkr).symm⟩
    have hj' : j < 1 := hj
    obtain rfl : j = 0 := by omega
    have s0 : k * valS.sz + 0 = k := by show k * 1 + 0 = k; omega
    rw [s0]
    simpa using h3 k hk
  · obtain ⟨r1, r2, r3⟩ := h.row r hr
    exact ⟨by omega, r2, fun e => by have e' : some g = some r.1 := e; injection e' with e'; omega, r3⟩
theorem NestF.snoc {g n k : Nat} {w w1 : World} {et ei : TypeId} {rs : List RowD} {r : RowD} (h : NestF g n w et ei k rs) (hk : k < n) (hb : Below w.heap.size w w1) (hr : RowAt w1 ei r) (h1 : w.heap.size ≤ r.1) (hg : g < w.heap.size) :
    NestF g n (w1.setCell ⟨g, k, none⟩ (rowV r)) et ei (k + 1) (rs ++ [r]) := by
  obtain ⟨cur, c1, c2, c3⟩ := h.cur
  have c1' := (hb.block g hg).trans c1
  have hset := heap_setCell_same w1 g k cur et (rowV r) c1'
  have hother : ∀ i, i ≠ g → (w1.setCell ⟨g, k, none⟩ (rowV r)).heap[i]? = w1.heap[i]? := fun i hi => Below.heap_setCell w1 ⟨g, k, none⟩ (rowV r) i hi
  refine ⟨⟨_, hset, by simpa using c2, fun i hi => ?_⟩, by simp [h.len], fun q hq => ?_, ?_⟩
  · rw [Array.getElem?_setIfInBounds]
    by_cases e : k = i
    · subst e
      rw [if_pos rfl, if_pos (by omega)]
      have := gt_last (l := rs) (x := r)
      rw [h.len] at this
      rw [this]
    · rw [if_neg e, c3 i (by omega), gt_append (by rw [h.len]; omega)]
  · rcases List.mem_append.1 hq with hq | hq
    · obtain ⟨q1, q2, q3⟩ := h.row q hq
      have q2' := Nat.lt_of_lt_of_le q2 hb.size
      exact ⟨q1, by simpa using q2', q3.kept ((hother _ (by omega)).trans (hb.block _ q2))⟩
    · rw [List.mem_singleton] at hq
      subst hq
      exact ⟨by omega, by have := hr.lt; simpa using this, hr.kept (hother _ (by omega))⟩
  · rw [List.map_append]
    refine List.nodup_append.2 ⟨h.one, by simp, fun a ha b hb' => ?_⟩
    obtain ⟨q, hq, rfl⟩ := List.mem_map.1 ha
    simp only [List.map_cons, List.map_nil, List.mem_singleton] at hb'
    have := (h.row q hq).2.1
    omega
set_option maxHeartbeats 1000000 in
theorem toIntSS_nest (A : Option Addr) (n c lo : Nat) (xs : List (List Int)) (w : World) (hx : Rd (sliceS intS) lo w.heap.size w A n xs) (hn : n ≤ 1048576) (hr : ∀ r ∈ xs, r.length ≤ 1048576) :
    Calls Try.prog 10 #[.slice A n c] w fun e w' => ∃ g rs, e = .returned (.slice (some ⟨g, 0, none⟩) n n) ∧ NestR w.heap.size w'.heap.size w' 34 3 (.slice (some ⟨g, 0, none⟩) n n) rs ∧ rs.map (·.2.2) = xs ∧ Below w.heap.size w w' := by
  obtain ⟨i0, hi, hz0, hz1, hz2⟩ := info_parts (show (Try.prog.info? 34).map (fun i => (i.zero, i.size, i.bytes)) = some (some (.slice none 0 0), 1, 24) by kernel_rfl)
  have hmk := fun w => make_rule (P := Try.prog) Try.underlying22 hi hz0 hz1 hz2 (n := n) (by omega) (by omega) w
  have F0 := hid (show NestF w.heap.size n (w.alloc (.cells (madeCells #[Value.slice none 0 0] n) 34)) 34 3 0 [] from ⟨⟨_, heap_alloc_new w _, by rw [size_madeCells], fun i hi => absurd hi (by omega)⟩, rfl, (fun r hr => by cases hr), List.nodup_nil⟩)
  have E1 := hid hx.1
  have E3 := hid hx.2.2
  have HR := hid hr
  clear hi hz0 hz1 hz2 hx hr
  go_enter Try.func10, Try.ntmps10
  go_wp2
  clear hmk
  go_loopg [4] n (fun gk i wr => ∃ (k : Nat) (rs : List RowD), k + gk = n ∧ i = .int .i64 k ∧ NestF w.heap.size n wr 34 3 k rs ∧ rs.map (·.2.2) = xs.take k ∧ Below w.heap.size w wr)
  case atStart => exact ⟨0, [], Nat.zero_add _, rfl, F0.out, rfl, bnew _ _⟩
  case round =>
    obtain ⟨k, rs, hkg, rfl, hF, hls, hb⟩ := hrel
    have HKG := hid hkg
    have HF := hid hF
    have HLS := hid hls
    have hk : k ≤ n := by omega
    clear hkg hF hls
    by_cases hlt : k < n
    · have hki : (k : Int) < (n : Int) := by omega
      obtain ⟨b, off, rfl, _, hbb, hcx⟩ := E3.out (by omega)
      obtain ⟨Ax, cx', cx0, _, rx⟩ := hcx.row hlt
      have cx := (hb.cell (p := ⟨b, off + k, none⟩) hbb).trans cx0
      have rx1 := hid (rx.bl hb)
      have hl : (gt xs k).length ≤ 1048576 := HR.out _ (gt_mem (by rw [← E1.out]; exact hlt))
      have ht := hid (take_gt (l := xs) (k := k) (by rw [← E1.out]; exact hlt))
      clear hcx cx0 rx
      go_wp2_with fail
      refine (toIntS_row _ _ _ lo _ _ rx1.out hl).mono ?_
      rintro e w1 ⟨g1, rfl, hr1, hg1, hb1⟩
      obtain ⟨cur, c1, c2, c3⟩ := HF.out.cur
      have hgl := (Array.getElem?_eq_some_iff.1 c1).1
      have c1' := (hb1.block _ hgl).trans c1
      have k1 : w1.cell? ⟨w.heap.size, k, none⟩ = some (cur[k]'(by omega)) := by rw [cell_of_row w1 _ k cur _ (0, 0) c1']; exact Array.getElem?_eq_getElem (by omega)
      have f1 := frozen_of_row w1 w.heap.size k cur _ c1'
      obtain ⟨u, hu⟩ : ∃ u, cur[k]'(by omega) = u := ⟨_, rfl⟩
      rw [hu] at k1
      have HR1 := hid hr1
      have HB1 := hid hb1
      have HG := hid (And.intro hg1 hgl)
      clear hu c1 c1' c2 c3 cx hr1 hb1 hg1 hgl
      go_wp2
      go_roundg (gk - 1)
      case measure => have := HKG.out; omega
      case rel => exact ⟨k + 1, rs ++ [(g1, (gt xs k).length, gt xs k)], by have := HKG.out; omega, by go_num, HF.out.snoc hlt HB1.out HR1.out HG.out.1 HG.out.2, by rw [List.map_append, HLS.out, ht.out]; rfl, (hb.trans (HB1.out.mono hb.size)).setCell (Nat.le_refl _) _⟩
    · obtain rfl : k = n := by omega
      go_wp2
      go_ret
      exact ⟨_, rs, rfl, HF.out.done hn (Nat.le_refl _), by rw [HLS.out, List.take_of_length_le (by rw [E1.out]; omega)], hb⟩
end Go.Proofs.Yteccacnojmilcaa
