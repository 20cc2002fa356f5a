/- Briefs of the call's own: marks. -/
import Derived.Test.YthijnojefeeaoaaMarkB
namespace Go.Proofs.Ythijnojefeeaoaa
open Go.RowKit
attribute [local go_sem] Oper.semAt_some
def lensB (ds : List BrD) : List Nat := ds.map fun d => d.2.2.2.length
def sumB : List Nat → Nat
  | [] => 0
  | n :: r => (1 + n) + sumB r
theorem sumB_le (ns : List Nat) (j : Nat) : sumB (ns.take j) ≤ sumB ns := by
  induction ns generalizing j with
  | nil => simp [sumB]
  | cons n r ih =>
    cases j with
    | zero => simp [sumB]
    | succ j => have := ih j; rw [List.take_succ_cons, sumB, sumB]; omega
theorem sumB_take {ns : List Nat} {j : Nat} (h : j < ns.length) : sumB (ns.take (j + 1)) = sumB (ns.take j) + (1 + gt ns j) := by
  induction ns generalizing j with
  | nil => simp at h
  | cons n r ih =>
    cases j with
    | zero => simp [sumB, gt]
    | succ j =>
      have := ih (j := j) (by simpa using h)
      have e : gt (n :: r) (j + 1) = gt r j := by simp [gt]
      rw [List.take_succ_cons, List.take_succ_cons, sumB, sumB, this, e]
      omega
/-- The briefs as they read once marked. -/
def markBD : Int → List BrD → List BrD
  | _, [] => []
  | k, (_, b, c, l) :: r => (mtV k, b, c, marksT (k + 1) l.length) :: markBD (k + 1 + l.length) r
def marksB : Int → List Nat → List BriefT
  | _, [] => []
  | k, n :: r => (mtV k, marksT (k + 1) n) :: marksB (k + 1 + n) r
theorem marksB_len (k : Int) (ns : List Nat) : (marksB k ns).length = ns.length := by
  induction ns generalizing k with
  | nil => rfl
  | cons n r ih => simp [marksB, ih]
theorem markBD_len (k : Int) (ds : List BrD) : (markBD k ds).length = ds.length := by
  induction ds generalizing k with
  | nil => rfl
  | cons x r ih => obtain ⟨s, b, c, l⟩ := x; simp [markBD, ih]
theorem markBD_blocks (k : Int) (ds : List BrD) : (markBD k ds).map (·.2.1) = ds.map (·.2.1) := by
  induction ds generalizing k with
  | nil => rfl
  | cons x r ih => obtain ⟨s, b, c, l⟩ := x; simp [markBD, ih]
theorem markBD_lists (k : Int) (ds : List BrD) : (markBD k ds).map brT = marksB k (lensB ds) := by
  induction ds generalizing k with
  | nil => rfl
  | cons x r ih => obtain ⟨s, b, c, l⟩ := x; simp [markBD, marksB, lensB, brT, ih]
theorem markBD_gt {ds : List BrD} {j : Nat} (h : j < ds.length) (k : Int) : gt (markBD k ds) j = (mtV (k + sumB ((lensB ds).take j)), (gt ds j).2.1, (gt ds j).2.2.1, marksT (k + sumB ((lensB ds).take j) + 1) (gt ds j).2.2.2.length) := by
  induction ds generalizing k j with
  | nil => simp at h
  | cons x r ih =>
    obtain ⟨s, b, c, l⟩ := x
    cases j with
    | zero => simp [markBD, gt, sumB]
    | succ j =>
      have := ih (j := j) (by simpa using h) (k + 1 + l.length)
      have e1 : gt (markBD k ((s, b, c, l) :: r)) (j + 1) = gt (markBD (k + 1 + l.length) r) j := by simp [markBD, gt]
      have e2 : gt ((s, b, c, l) :: r) (j + 1) = gt r j := by simp [gt]
      have e3 : (lensB ((s, b, c, l) :: r)).take (j + 1) = l.length :: (lensB r).take j := by simp [lensB]
      rw [e1, e2, this, e3, sumB]
      have e4 : k + 1 + (l.length : Int) + (sumB ((lensB r).take j) : Int) = k + ((1 + l.length + sumB ((lensB r).take j) : Nat) : Int) := by omega
      rw [e4]
theorem nodup_gt' {l : List Nat} (h : l.Nodup) {i j : Nat} (hi : i < l.length) (hj : j < l.length) (hne : i ≠ j) : gt l i ≠ gt l j := by
  rw [gt_eq hi, gt_eq hj]
  rcases Nat.lt_or_gt_of_ne hne with h1 | h1
  · exact List.pairwise_iff_getElem.1 h i j hi hj h1
  · exact (List.pairwise_iff_getElem.1 h j i hj hi h1).symm
theorem gt_map' {α β : Type} [Inhabited α] [Inhabited β] {f : α → β} {l : List α} {k : Nat} (h : k < l.length) : gt (l.map f) k = f (gt l k) := gt_map h
theorem lensB_of {ds : List BrD} {l : List BriefT} (h : ds.map brT = l) : lensB ds = l.map fun b => b.2.length := by
  subst h
  simp [lensB, brT]
theorem dRows_le {ds : List BrD} {l : List BriefT} {N : Nat} (h : ds.map brT = l) (hs : ∀ b ∈ l, b.2.length ≤ N) : ∀ d ∈ ds, d.2.2.2.length ≤ N := by
  subst h
  intro d hd
  exact hs _ (List.mem_map_of_mem hd)
theorem szBG_sum : ∀ (bs : List BriefT) (l : Int), 0 ≤ l → 0 ≤ szBG bs l → (sumB (bs.map fun b => b.2.length) : Int) ≤ l + bs.length
  | [], l, h, _ => by show (0 : Int) ≤ l + 0; omega
  | x :: r, l, h0, h => by
    rw [szBG] at h
    split at h
    · omega
    · rename_i h1
      have h2 : (x.2.length : Int) + szB x l ≤ l := by
        unfold szB at h1 ⊢
        split at h1
        · omega
        · rename_i h3
          rw [if_neg h3]
          unfold szStr at h1 ⊢
          split at h1
          · omega
          · rename_i h4
            rw [if_neg h4]
            have := (szT_ub x.2 (l - x.1.size - x.2.length) (by omega)).1
            omega
      have := szBG_sum r (szB x l) (by omega) h
      rw [List.map_cons, sumB, List.length_cons]
      omega
theorem szBS_sum {bs : List BriefT} {l : Int} (h0 : 0 ≤ l) (h : 0 ≤ szBS bs l) : (sumB (bs.map fun b => b.2.length) : Int) ≤ l := by
  unfold szBS at h
  split at h
  · omega
  · have := szBG_sum bs (l - bs.length) (by omega) h
    omega
set_option maxHeartbeats 2000000 in
theorem markBriefS_some (g n c lo hi : Nat) (ds : List BrD) (k0 : Int) (w : World) (h : NestB lo hi w (.slice (some ⟨g, 0, none⟩) n c) ds) (hgh : g < hi) (hds : ds.length ≤ 1048576) (hs : sumB (lensB ds) ≤ 4194304) (hns : ∀ d ∈ ds, d.2.2.2.length ≤ 1048576) (h0 : 0 ≤ k0) (h1 : k0 ≤ 4194304) :
    Calls Try.prog 30 #[.slice (some ⟨g, 0, none⟩) n c, .int .i64 k0] w fun r w' => r = .returned (.int .i64 (k0 + sumB (lensB ds))) ∧ NestB lo hi w' (.slice (some ⟨g, 0, none⟩) n c) (markBD k0 ds) ∧ Chg (rng lo hi) w w' := by
  obtain ⟨hnl, hlg, hnc, hcm, cur0, hcur0, hcs0, hel0⟩ := brv_open h.own
  rw [List.length_map] at hnl
  have HN := hid hnl
  have hn20 : n ≤ 1048576 := by omega
  have NE := hid h
  have HNS := hid hns
  have hgw : g < w.heap.size := (Array.getElem?_eq_some_iff.1 hcur0).1
  have H0 := hid (show ∃ cur : Array Value, w.heap[g]? = some (.cells cur 31 (0, 0)) ∧ cur.size = c * 2 ∧ ∀ i, i < n → cur[i * 2]? = some (.string (if i < 0 then (gt (markBD k0 ds) i).1 else (gt ds i).1)) ∧ cur[i * 2 + 1]? = some (rowTV (gt ds i).2) from ⟨cur0, hcur0, hcs0, fun i hi => by
    obtain ⟨a0, _, a1⟩ := hel0 i hi
    rw [gt_map (by omega)] at a0 a1
    rw [if_neg (by omega)]
    exact ⟨a0, a1⟩⟩)
  clear h hns hnl hcur0 hel0 hcs0
  go_enter Try.func30, Try.ntmps30
  go_wp2_with fail
  go_loopg [1, 5] n (fun gk k i wr => ∃ (j : Nat) (m : Int), j + gk = n ∧ i = .int .i64 j ∧ k = .int .i64 m ∧ m = k0 + sumB ((lensB ds).take j) ∧
    (∃ cur : Array Value, wr.heap[g]? = some (.cells cur 31 (0, 0)) ∧ cur.size = c * 2 ∧ ∀ i, i < n → cur[i * 2]? = some (.string (if i < j then (gt (markBD k0 ds) i).1 else (gt ds i).1)) ∧ cur[i * 2 + 1]? = some (rowTV (gt ds i).2)) ∧
    (∀ i, i < ds.length → RowS wr (if i < j then (gt (markBD k0 ds) i).2 else (gt ds i).2)) ∧ Chg (fun b => b = g ∨ ∃ d, d ∈ ds ∧ d.2.1 = b) w wr)
  case atStart => exact ⟨0, k0, Nat.zero_add _, rfl, rfl, by simp [sumB], H0.out, fun i hi => by rw [if_neg (by omega)]; exact (NE.out.row _ (gt_mem hi)).2.2.2, Chg.refl _ _⟩
  case round =>
    clear H0
    obtain ⟨j, m, hjg, rfl, rfl, hm, hhdr, hrows, hch⟩ := hrel
    have HJG := hid hjg
    have HM := hid hm
    have HHDR := hid hhdr
    have HROWS := hid hrows
    have HCH := hid hch
    have hsl := sumB_le (lensB ds) j
    have hm1 : m ≤ 8388608 := by omega
    have hm0 : 0 ≤ m := by omega
    have hj : j ≤ n := by omega
    have hwz := hch.size
    clear hjg hm hsl hrows hch hhdr
    by_cases hlt : j < n
    case pos =>
      have hji : (j : Int) < (n : Int) := by omega
      have hjl : j < ds.length := by rw [← HN.out]; exact hlt
      have hjl2 : j < (lensB ds).length := by simpa [lensB] using hjl
      have hst := hid (sumB_take hjl2)
      have hgl := hid (show gt (lensB ds) j = (gt ds j).2.2.2.length from gt_map' hjl)
      obtain ⟨cur, hcur, hcs, hel⟩ := HHDR.out
      obtain ⟨a0, a1⟩ := hel j hlt
      obtain ⟨s0, a0⟩ : ∃ s0, cur[j * 2]? = some (.string s0) := ⟨_, a0⟩
      have hown := NE.out.row _ (gt_mem hjl)
      have hmg := hid (markBD_gt hjl k0)
      have hrow := HROWS.out j hjl
      rw [if_neg (by omega)] at hrow
      have hlb := HNS.out _ (gt_mem hjl)
      obtain ⟨s, rb, rc, rl, hre⟩ : ∃ s rb rc rl, gt ds j = (s, rb, rc, rl) := ⟨_, _, _, _, rfl⟩
      have HRE := hid hre
      rw [hre] at hrow hlb hown a1
      have hne : rb ≠ g := fun e => hown.2.2.1 (by rw [e]; rfl)
      have hrv : rowTV (rb, rc, rl) = .slice (some ⟨rb, 0, none⟩) rl.length rc := rfl
      dsimp only at a1
      rw [hrv] at a1
      have HA := hid (And.intro a0 a1)
      have HCUR := hid hcur
      have HEL := hid hel
      have HROW := hid hrow
      have hlb' : rl.length ≤ 1048576 := hlb
      have hgz : g < wr.heap.size := Nat.lt_of_lt_of_le hgw hwz
      clear a0 a1 hcur hel hrow hown hre hlb hrv
      go_wp2_with fail
      refine (markText_any m wr (by omega)).mono ?_
      rintro e w3 ⟨rfl, hb3⟩
      have hcur3 := (hb3.block g hgz).trans HCUR.out
      have c1 : w3.cell? ⟨g, j * 2, none⟩ = some (.string s0) := by rw [cell_of_row w3 g _ cur _ (0, 0) hcur3]; exact HA.out.1
      have c2 : w3.cell? ⟨g, j * 2 + 1, none⟩ = some (.slice (some ⟨rb, 0, none⟩) rl.length rc) := by rw [cell_of_row w3 g _ cur _ (0, 0) hcur3]; exact HA.out.2
      have f1 := frozen_of_row w3 g (j * 2) cur _ hcur3
      have hset := heap_setCell_same w3 g (j * 2) cur _ (.string (mtV m)) hcur3
      have HSET := hid hset
      have HROW3 := hid ((HROW.out.kept (hb3.block rb HROW.out.lt)).kept (w' := w3.setCell ⟨g, j * 2, none⟩ (.string (mtV m))) (Below.heap_setCell _ _ _ _ (fun e => by dsimp only at e; omega)))
      have HC3 := hid (show Chg (fun b => b = g ∨ ∃ d, d ∈ ds ∧ d.2.1 = b) w (w3.setCell ⟨g, j * 2, none⟩ (.string (mtV m))) from (HCH.out.trans (chgW hb3)).set (.inl rfl) _)
      have HB3 := hid hb3
      have hw1 : IntKind.i64.wrap (m + 1) = m + 1 := IntWalk.i64_in _ (by omega)
      clear hcur3 hset hb3
      go_wp2_with fail
      obtain ⟨w4, hw4⟩ : ∃ w4, w3.setCell ⟨g, j * 2, none⟩ (.string (mtV m)) = w4 := ⟨_, rfl⟩
      have hset := HSET.out
      have hrow3 := HROW3.out
      have hc3 := HC3.out
      rw [hw4] at hset hrow3 hc3
      refine (markStringS_row rb rl.length rc rl (m + 1) _ HROW3.out rfl hlb' (by omega) (by omega)).mono ?_
      rw [hw4]
      rintro e w5 ⟨rfl, hr5, hc5⟩
      have HR5 := hid hr5
      have HC5 := hid hc5
      have HSET4 := hid hset
      have HC4 := hid hc3
      have HW4 := hid hw4
      clear hr5 hc5 c1 c2 f1 hset hrow3 hc3 HSET HROW3 HC3
      go_wp2_with fail
      go_roundg (gk - 1)
      case measure => have := HJG.out; omega
      case rel =>
        refine ⟨j + 1, m + 1 + rl.length, by have := HJG.out; omega, by go_num, by rfl, by rw [HM.out, hst.out, hgl.out, HRE.out]; simp only []; omega, ?_, fun i hi => ?_, HC4.out.trans (HC5.out.wide fun k hk => .inr ⟨gt ds j, gt_mem hjl, by rw [HRE.out]; exact hk.symm⟩)⟩
        · refine ⟨_, (HC5.out.block g (Array.getElem?_eq_some_iff.1 HSET4.out).1 (Ne.symm hne)).trans HSET4.out, by rw [Array.size_setIfInBounds]; exact hcs, fun i hi => ?_⟩
          obtain ⟨e0, e1⟩ := HEL.out i hi
          refine ⟨?_, ?_⟩
          · rw [Array.getElem?_setIfInBounds]
            by_cases hij : i = j
            · subst hij
              rw [if_pos rfl, if_pos (by omega), if_pos (by omega), hmg.out, ← HM.out]
            · rw [if_neg (by omega), e0]
              by_cases hlt2 : i < j
              · rw [if_pos hlt2, if_pos (by omega)]
              · rw [if_neg hlt2, if_neg (by omega)]
          · rw [Array.getElem?_setIfInBounds, if_neg (by omega)]
            exact e1
        · by_cases hij : i = j
          · subst hij
            rw [if_pos (by omega), hmg.out, HRE.out, ← HM.out]
            exact HR5.out
          · have hne2 : (gt ds i).2.1 ≠ rb := by
              have := nodup_gt' NE.out.one (i := i) (j := j) (by rw [List.length_map]; exact hi) (by rw [List.length_map]; exact hjl) hij
              rw [gt_map' hi, gt_map' hjl, HRE.out] at this
              exact this
            have hgi : (gt ds i).2.1 ≠ g := fun e => (NE.out.row _ (gt_mem hi)).2.2.1 (by rw [e]; rfl)
            have hold := HROWS.out i hi
            have hk : ∀ r : RowT, r.1 = (gt ds i).2.1 → RowS wr r → RowS w5 r := fun r hr h => by
              have h3 := (h.kept (HB3.out.block _ h.lt)).kept (w' := w3.setCell ⟨g, j * 2, none⟩ (.string (mtV m))) (Below.heap_setCell _ _ _ _ (fun e => by dsimp only at e; omega))
              rw [HW4.out] at h3
              exact h3.kept (HC5.out.block _ h3.lt (by omega))
            by_cases hlt2 : i < j
            · rw [if_pos (by omega)]
              rw [if_pos hlt2] at hold
              exact hk _ (by rw [markBD_gt hi]) hold
            · rw [if_neg (by omega)]
              rw [if_neg hlt2] at hold
              exact hk _ rfl hold
    case neg =>
      obtain rfl : j = n := by omega
      have HF := hid (show k0 + (sumB (lensB ds) : Int) = m by rw [HM.out, List.take_of_length_le (by simp only [lensB, List.length_map]; rw [← HN.out]; omega)])
      go_wp2_with fail
      go_ret
      refine ⟨ret_int HF.out.symm, ⟨?_, fun d hd => ?_, by rw [markBD_blocks]; exact NE.out.one⟩, HCH.out.wide fun k hk => ?_⟩
      · obtain ⟨cur, hcur, hcs, hel⟩ := HHDR.out
        refine brv_shut (by rw [List.length_map, markBD_len]; exact HN.out) hlg hnc hcm hcur hcs fun i hi => ?_
        obtain ⟨e0, e1⟩ := hel i hi
        have hil : i < ds.length := by rw [← HN.out]; exact hi
        have hsl := sumB_le (lensB ds) i
        rw [if_pos hi] at e0
        rw [gt_map' (by rw [markBD_len]; exact hil)]
        refine ⟨e0, ?_, ?_⟩
        · show (gt (markBD k0 ds) i).1.size ≤ _
          rw [markBD_gt hil]
          exact mtV_size _ (by omega)
        · rw [e1]
          show _ = some (rowTV (gt (markBD k0 ds) i).2)
          rw [markBD_gt hil]
          unfold rowTV
          simp only [marksT_len]
      · obtain ⟨i, hi, rfl⟩ := List.getElem_of_mem hd
        have hil : i < ds.length := by rw [markBD_len] at hi; exact hi
        have hg : (markBD k0 ds)[i] = gt (markBD k0 ds) i := (gt_eq hi).symm
        have h3 := HROWS.out i hil
        rw [if_pos (by have := HN.out; omega)] at h3
        obtain ⟨q1, q2, q3, _⟩ := NE.out.row _ (gt_mem hil)
        rw [hg]
        have hb := markBD_gt hil k0
        refine ⟨by rw [hb]; exact q1, by rw [hb]; exact q2, by rw [hb]; exact q3, h3⟩
      · rcases hk with rfl | ⟨d, hd, rfl⟩
        · exact ⟨hlg, hgh⟩
        · exact ⟨(NE.out.row d hd).1, (NE.out.row d hd).2.1⟩
end Go.Proofs.Ythijnojefeeaoaa
