/- Copies, marks and looks of rows of rows: what the functions return. -/
import Derived.Test.YteccacnojmilcaaNest
import Derived.Test.YteccacnojmilcaaInts
import Derived.Deep.LoopGhost
namespace Go.Proofs.Yteccacnojmilcaa
open Go.RowKit
/-- k, k + 1, .. -/
def marksI (k : Int) (n : Nat) : List Int := (List.range n).map fun (j : Nat) => k + (j : Int)
theorem marksI_len (k : Int) (n : Nat) : (marksI k n).length = n := by simp [marksI]
theorem marksI_gt {k : Int} {n j : Nat} (h : j < n) : gt (marksI k n) j = k + j := by simp [gt, marksI, h]
def sumLen : List Nat → Nat
  | [] => 0
  | n :: r => n + sumLen r
/-- The marks of rows of these lengths. -/
def marksSS (k : Int) : List Nat → List (List Int)
  | [] => []
  | n :: r => marksI k n :: marksSS (k + n) r
theorem marksSS_len (k : Int) (ns : List Nat) : (marksSS k ns).map List.length = ns := by
  induction ns generalizing k with
  | nil => rfl
  | cons n r ih => rw [marksSS, List.map_cons, ih, marksI_len]
set_option maxRecDepth 100000 in
set_option maxHeartbeats 1000000 in
/-- A row in a block of its own. -/
theorem clone_any (b off n c lo : Nat) (l : List Int) (w : World) (hx : Rd intS lo w.heap.size w (some ⟨b, off, none⟩) n l) (h0 : 0 < n) (hn : n ≤ 1048576) :
    Calls Try.prog 35 #[.slice (some ⟨b, off, none⟩) n c] w fun e w' => ∃ g d, e = .returned (.slice (some ⟨g, 0, none⟩) n d) ∧ RowAt w' 3 (g, d, l) ∧ w.heap.size ≤ g ∧ Below w.heap.size w w' := by
  obtain ⟨i0, hi1, hz0, hz1, hz2⟩ := info_parts (show (Try.prog.info? 3).map (fun i => (i.zero, i.size, i.bytes)) = some (some (.int .i64 0), 1, 8) by kernel_rfl)
  have HI := hid (And.intro hi1 (And.intro hz0 (And.intro hz1 hz2)))
  clear hi1 hz0 hz1 hz2
  have hnl := hid hx.1
  obtain ⟨b', off', he, _, hbb, hcx⟩ := hx.2.2 h0
  injection he with he
  injection he with he1 he2 _
  subst he1 he2
  have CX := hid fun k (hk : k < n) => hcx.int hk
  clear hcx hx
  have hnil : ∀ w' : World, (binOp .eql 34 (.slice (some ⟨b, off, none⟩) n c) (.slice none 0 0)).run Try.prog w' = .ok (.bool false) w' := fun w' => Lib.run_eql_slice_nil w' 34 3 _ _ _ _ _ Try.underlying34
  go_enter Try.func35, Try.ntmps35
  go_wp2_with (at_builtin; refine wpList_append_ints rfl (.tmp 5) (.tmp 6) _ rfl Try.underlying34 HI.out rfl (v := .slice (some ⟨w.heap.size, 0, none⟩) 0 0) (l := []) rfl (OwnR.nil (base := w.heap.size) (Nat.le_refl _) _ rfl) rfl hnl.out.symm (fun k hk => bcl (bnew _ _) (CX.out k hk)) (by simp; omega) (by simp) ?_; intro A2 c2 w2 hO hc hv)
  go_ret
  rw [List.nil_append, List.length_nil, Nat.zero_add] at hO
  obtain ⟨g, rfl, hg, hgl, _⟩ := hO.blk h0
  have hr := (hO.rowAt (by have := hnl.out; omega)).2.1
  exact ⟨g, c2, rfl, hr, hg, (bnew w _).trans (hc.below (by simp) (fun k hk => by have e : some w.heap.size = some k := hk; injection e with e; omega))⟩
set_option maxHeartbeats 1000000 in
theorem markIntS_row (b n c : Nat) (e : TypeId) (l : List Int) (k0 : Int) (w : World) (hr : RowAt w e (b, c, l)) (hnl : n = l.length) (hn : n ≤ 1048576) (h0 : 0 ≤ k0) (h1 : k0 ≤ 1099511627776) :
    Calls Try.prog 36 #[.slice (some ⟨b, 0, none⟩) n c, .int .i64 k0] w fun r w' => r = .returned (.int .i64 (k0 + n)) ∧ RowAt w' e (b, c, marksI k0 n) ∧ Chg (fun k => k = b) w w' := by
  obtain ⟨cur, hc, hcap, hsz, h63, _⟩ := hr
  have hcap' : n ≤ c := by rw [hnl]; exact hcap
  have hsz' : n ≤ cur.size := by rw [hnl]; exact hsz
  have HF := hid (show ∃ cur : Array Value, w.heap[b]? = some (.cells cur e (0, 0)) ∧ n ≤ cur.size ∧ ∀ j, j < 0 → cur[j]? = some (.int .i64 (k0 + j)) from ⟨cur, hc, hsz', fun j hj => absurd hj (by omega)⟩)
  clear hc hsz hsz' hcap h63 hnl
  go_enter Try.func36, Try.ntmps36
  go_wp2_with fail
  go_loopg [1, 5] n (fun gk k i wr => ∃ (j : Nat) (m : Int), j + gk = n ∧ i = .int .i64 j ∧ k = .int .i64 m ∧ m = k0 + j ∧ (∃ cur : Array Value, wr.heap[b]? = some (.cells cur e (0, 0)) ∧ n ≤ cur.size ∧ ∀ q, q < j → cur[q]? = some (.int .i64 (k0 + q))) ∧ Chg (fun k => k = b) w wr)
  case atStart => exact ⟨0, k0, Nat.zero_add _, rfl, rfl, by simp, HF.out, Chg.refl _ _⟩
  case round =>
    obtain ⟨j, m, hjg, rfl, rfl, hm, ⟨cur, hcur, hsz, hel⟩, hch⟩ := hrel
    have HJG := hid hjg
    have HM := hid hm
    have hm1 : m ≤ 2199023255552 := by omega
    have hm0 : 0 ≤ m := by omega
    have hj : j ≤ n := by omega
    clear hjg hm
    by_cases hlt : j < n
    case pos =>
      have hji : (j : Int) < (n : Int) := by omega
      have c1 : wr.cell? ⟨b, j, none⟩ = some (cur[j]'(by omega)) := by rw [cell_of_row wr b j cur e (0, 0) hcur]; exact Array.getElem?_eq_getElem (by omega)
      have f1 := frozen_of_row wr b j cur e hcur
      have h2 := heap_setCell_same wr b j cur e (.int .i64 m) hcur
      have HC := hid (And.intro hcur h2)
      clear hcur h2
      obtain ⟨u, hu⟩ : ∃ u, cur[j]'(by omega) = u := ⟨_, rfl⟩
      rw [hu] at c1
      clear hu
      go_wp2_with fail
      go_roundg (gk - 1)
      case measure => have := HJG.out; omega
      case rel =>
        refine ⟨j + 1, m + 1, by have := HJG.out; omega, by go_num, rfl, by rw [HM.out]; omega, ⟨_, HC.out.2, by simpa using hsz, fun q hq => ?_⟩, hch.set rfl _⟩
        rw [Array.getElem?_setIfInBounds]
        by_cases e1 : j = q
        · subst e1
          rw [if_pos rfl, if_pos (by omega), HM.out]
        · rw [if_neg e1]
          exact hel q (by omega)
    case neg =>
      obtain rfl : j = n := by omega
      go_wp2_with fail
      go_ret
      exact ⟨ret_int HM.out, ⟨cur, hcur, by rw [marksI_len]; exact hcap', by rw [marksI_len]; exact hsz, by rw [marksI_len]; omega, fun q hq => by rw [marksI_len] at hq; rw [marksI_gt hq]; exact hel q hq⟩, hch⟩
set_option maxHeartbeats 1000000 in
theorem heldIntS_any (A : Option Addr) (n c lo : Nat) (k0 : Int) (w : World) (hx : Rd intS lo w.heap.size w A n (marksI k0 n)) (hn : n ≤ 1048576) (h0 : 0 ≤ k0) (h1 : k0 ≤ 1099511627776) :
    Calls Try.prog 37 #[.slice A n c, .int .i64 k0] w fun r w' => r = .returned (.int .i64 (k0 + n)) ∧ w = w' := by
  have E3 := hid hx.2.2
  clear hx
  go_enter Try.func37, Try.ntmps37
  go_wp2_with fail
  go_loopg [1, 5] n (fun gk k i wr => ∃ (j : Nat) (m : Int), j + gk = n ∧ i = .int .i64 j ∧ k = .int .i64 m ∧ m = k0 + j ∧ w = wr)
  case atStart => exact ⟨0, k0, Nat.zero_add _, rfl, rfl, by simp, rfl⟩
  case round =>
    obtain ⟨j, m, hjg, rfl, rfl, hm, rfl⟩ := hrel
    have HJG := hid hjg
    have HM := hid hm
    have hm1 : m ≤ 2199023255552 := by omega
    have hm0 : 0 ≤ m := by omega
    have hj : j ≤ n := by omega
    clear hjg hm
    by_cases hlt : j < n
    case pos =>
      have hji : (j : Int) < (n : Int) := by omega
      obtain ⟨b, off, rfl, _, hbb, hcx⟩ := E3.out (by omega)
      have cx := hcx.int hlt
      rw [marksI_gt hlt, ← HM.out] at cx
      have t1 : (m != m) = false := by simp
      clear hcx
      go_wp2_with fail
      go_roundg (gk - 1)
      case measure => have := HJG.out; omega
      case rel => exact ⟨j + 1, m + 1, by have := HJG.out; omega, by go_num, rfl, by rw [HM.out]; omega, rfl⟩
    case neg =>
      obtain rfl : j = n := by omega
      go_wp2_with fail
      go_ret
      exact ⟨ret_int HM.out, rfl⟩
theorem marksSS_gt {ns : List Nat} {j : Nat} (h : j < ns.length) (k : Int) : gt (marksSS k ns) j = marksI (k + sumLen (ns.take j)) (gt ns j) := by
  induction ns generalizing k j with
  | nil => simp at h
  | cons n r ih =>
    cases j with
    | zero => simp [marksSS, gt, sumLen]
    | succ j =>
      have := ih (j := j) (by simpa using h) (k + n)
      have e1 : gt (marksSS k (n :: r)) (j + 1) = gt (marksSS (k + n) r) j := by simp [marksSS, gt]
      have e2 : gt (n :: r) (j + 1) = gt r j := by simp [gt]
      rw [e1, e2, this, List.take_succ_cons, sumLen]
      congr 1
      omega
theorem sumLen_take {ns : List Nat} {j : Nat} (h : j < ns.length) : sumLen (ns.take (j + 1)) = sumLen (ns.take j) + gt ns j := by
  induction ns generalizing j with
  | nil => simp at h
  | cons n r ih =>
    cases j with
    | zero => simp [sumLen, gt]
    | succ j =>
      have := ih (j := j) (by simpa using h)
      rw [List.take_succ_cons, sumLen, this, List.take_succ_cons, sumLen]
      simp [gt]
      omega
theorem sumLen_le (ns : List Nat) (j : Nat) : sumLen (ns.take j) ≤ sumLen ns := by
  induction ns generalizing j with
  | nil => simp
  | cons n r ih =>
    cases j with
    | zero => simp [sumLen]
    | succ j =>
      have := ih j
      rw [List.take_succ_cons, sumLen, sumLen]
      omega
set_option maxHeartbeats 1000000 in
theorem heldIntSS_any (A : Option Addr) (n c lo : Nat) (ns : List Nat) (k0 : Int) (w : World) (hx : Rd (sliceS intS) lo w.heap.size w A n (marksSS k0 ns)) (hs : sumLen ns ≤ 4194304) (hns : ∀ x ∈ ns, x ≤ 1048576) (h0 : 0 ≤ k0) (h1 : k0 ≤ 4194304) :
    Calls Try.prog 14 #[.slice A n c, .int .i64 k0] w fun r w' => r = .returned (.int .i64 (k0 + sumLen ns)) ∧ w = w' := by
  have E1 := hid (show n = ns.length by have := hx.1; rw [this, ← List.length_map (f := List.length), marksSS_len])
  have E3 := hid hx.2.2
  have h63 := hx.2.1
  have HNS := hid hns
  clear hx hns
  go_enter Try.func14, Try.ntmps14
  go_wp2_with fail
  go_loopg [1, 5] n (fun gk k i wr => ∃ (j : Nat) (m : Int), j + gk = n ∧ i = .int .i64 j ∧ k = .int .i64 m ∧ m = k0 + sumLen (ns.take j) ∧ w = wr)
  case atStart => exact ⟨0, k0, Nat.zero_add _, rfl, rfl, by simp [sumLen], rfl⟩
  case round =>
    obtain ⟨j, m, hjg, rfl, rfl, hm, rfl⟩ := hrel
    have HJG := hid hjg
    have HM := hid hm
    have hsl := sumLen_le ns j
    have hm1 : m ≤ 16777216 := by omega
    have hm0 : 0 ≤ m := by omega
    have hj : j ≤ n := by omega
    clear hjg hm hsl
    by_cases hlt : j < n
    case pos =>
      have hji : (j : Int) < (n : Int) := by omega
      obtain ⟨b, off, rfl, _, hbb, hcx⟩ := E3.out (by omega)
      obtain ⟨C, cc, ce, _, hrow⟩ := hcx.row hlt
      have hjl : j < ns.length := by rw [← E1.out]; exact hlt
      rw [marksSS_gt hjl, marksI_len] at ce hrow
      rw [← HM.out] at hrow
      have hst := hid (sumLen_take hjl)
      have hb1 := HNS.out _ (gt_mem hjl)
      obtain ⟨q, hq⟩ : ∃ q, gt ns j = q := ⟨_, rfl⟩
      rw [hq] at ce hrow hb1
      have HQ := hid hq
      have ROW := hid hrow
      clear hcx hrow hq
      go_wp2_with fail
      refine (heldIntS_any _ _ _ _ _ _ ROW.out hb1 hm0 (by omega)).mono ?_
      rintro e w' ⟨rfl, rfl⟩
      have hnn : ¬ m + (q : Int) < 0 := by omega
      go_wp2_with fail
      go_roundg (gk - 1)
      case measure => have := HJG.out; omega
      case rel => exact ⟨j + 1, m + q, by have := HJG.out; omega, by go_num, rfl, by rw [HM.out, hst.out, HQ.out]; omega, rfl⟩
    case neg =>
      obtain rfl : j = n := by omega
      have HF := hid (show k0 + (sumLen ns : Int) = m by rw [HM.out, List.take_of_length_le (by rw [E1.out]; omega)])
      go_wp2_with fail
      go_ret
      exact ⟨ret_int HF.out.symm, rfl⟩
end Go.Proofs.Yteccacnojmilcaa
