/- What the functions that weigh readings return. -/
import Derived.Test.YteccacnojmilcaaReadPure
import Derived.Deep.LoopGhost
import Derived.IntWalk
namespace Go.Proofs.Yteccacnojmilcaa
open Go.RowKit
theorem at_get' {w : World} {b e : Nat} {x y : Value} (h : w.heap[b]? = some (.cells #[x, y] e (0, 0))) : w.cell? ⟨b, 0, none⟩ = some x ∧ w.cell? ⟨b, 1, none⟩ = some y ∧ w.frozen? ⟨b, 0, none⟩ = false ∧ w.frozen? ⟨b, 1, none⟩ = false :=
  ⟨by rw [cell_of_row w _ _ _ _ (0, 0) h]; rfl, by rw [cell_of_row w _ _ _ _ (0, 0) h]; rfl, frozen_of_row _ _ _ _ _ h, frozen_of_row _ _ _ _ _ h⟩
set_option maxHeartbeats 400000 in
theorem l5Has_any (A : Option Addr) (n c lo : Nat) (l : List Int) (x : Int) (w : World) (hx : Rd intS lo w.heap.size w A n l) :
    Calls Try.prog 44 #[.slice A n c, .int .i64 x] w fun e w' => e = .returned (.bool (hasI l x)) ∧ w = w' := by
  have E1 := hid hx.1
  have E3 := hid hx.2.2
  have h63 := hx.2.1
  clear hx
  go_enter Try.func44, Try.ntmps44
  go_wp2
  go_loopg [5] n (fun gk i wr => ∃ k : Nat, k + gk = n ∧ i = .int .i64 k ∧ hasI l x = hasI (l.drop k) x ∧ w = wr)
  case atStart => exact ⟨0, Nat.zero_add _, rfl, by simp, rfl⟩
  case round =>
    obtain ⟨k, hkg, rfl, hh, rfl⟩ := hrel
    have HKG := hid hkg
    have HH := hid hh
    have hk : k ≤ n := by omega
    clear hkg hh
    by_cases hlt : k < n
    case neg =>
      obtain rfl : k = n := by omega
      have HF := hid (show hasI l x = false by rw [HH.out, List.drop_eq_nil_of_le (by rw [E1.out]; omega)]; rfl)
      go_wp2
      go_ret
      exact ⟨ret_bool HF.out.symm, rfl⟩
    case pos =>
      have hki : (k : Int) < (n : Int) := by omega
      obtain ⟨b, off, rfl, _, hbb, hcx⟩ := E3.out (by omega)
      have cx := hcx.int hlt
      have hs := hid (hasI_drop (l := l) (k := k) (by rw [← E1.out]; exact hlt) x)
      clear hcx
      obtain ⟨y, hy⟩ : ∃ y, gt l k = y := ⟨_, rfl⟩
      rw [hy] at cx
      have HY := hid hy
      clear hy
      by_cases e1 : y = x
      case pos =>
        have HF := hid (show hasI l x = true by rw [HH.out, hs.out, HY.out, e1, eqD_self]; rfl)
        subst e1
        go_wp2
        go_ret
        exact ⟨ret_bool HF.out.symm, rfl⟩
      case neg =>
        have t1 : (y == x) = false := by simpa using e1
        have HF := hid (show hasI l x = hasI (l.drop (k + 1)) x by rw [HH.out, hs.out, HY.out, eqD_no e1]; rfl)
        clear e1
        go_wp2
        go_roundg (gk - 1)
        case measure => have := HKG.out; omega
        case rel => exact ⟨k + 1, by have := HKG.out; omega, by go_num, HF.out, rfl⟩
/-- The first place of x, or -1. -/
def idxI (x : Int) : List Int → Int → Int
  | [], _ => -1
  | y :: r, i => if y = x then i else idxI x r (i + 1)
theorem idxI_has (x : Int) : ∀ (l : List Int) (i : Int), 0 ≤ i → decide (0 ≤ idxI x l i) = hasI l x
  | [], i, h => by simp [idxI, hasI]
  | y :: r, i, h => by
    by_cases e : y = x
    · simp [idxI, hasI, e, eqD_self, h]
    · rw [idxI, if_neg e, idxI_has x r (i + 1) (by omega)]
      simp [hasI, eqD_no e]
theorem idxI_bd (x : Int) : ∀ (l : List Int) (i : Int), 0 ≤ i → -1 ≤ idxI x l i ∧ idxI x l i ≤ i + l.length
  | [], i, h => by simp [idxI]; omega
  | y :: r, i, h => by
    by_cases e : y = x
    · simp [idxI, e]; omega
    · have := idxI_bd x r (i + 1) (by omega)
      rw [idxI, if_neg e, List.length_cons]
      omega
set_option maxHeartbeats 400000 in
theorem index_any (A : Option Addr) (n c lo : Nat) (l : List Int) (x : Int) (w : World) (hx : Rd intS lo w.heap.size w A n l) :
    Calls Try.prog 53 #[.slice A n c, .int .i64 x] w fun e w' => e = .returned (.int .i64 (idxI x l 0)) ∧ w = w' := by
  have E1 := hid hx.1
  have E3 := hid hx.2.2
  have h63 := hx.2.1
  clear hx
  go_enter Try.func53, Try.ntmps53
  go_wp2
  go_loopg [8] n (fun gk i wr => ∃ k : Nat, k + gk = n ∧ i = .int .i64 k ∧ idxI x l 0 = idxI x (l.drop k) k ∧ w = wr)
  case atStart => exact ⟨0, Nat.zero_add _, rfl, by simp, rfl⟩
  case round =>
    obtain ⟨k, hkg, rfl, hh, rfl⟩ := hrel
    have HKG := hid hkg
    have HH := hid hh
    have hk : k ≤ n := by omega
    clear hkg hh
    by_cases hlt : k < n
    case neg =>
      obtain rfl : k = n := by omega
      have HF := hid (show idxI x l 0 = -1 by rw [HH.out, List.drop_eq_nil_of_le (by rw [E1.out]; omega)]; rfl)
      go_wp2
      go_ret
      exact ⟨ret_int HF.out.symm, rfl⟩
    case pos =>
      have hki : (k : Int) < (n : Int) := by omega
      obtain ⟨b, off, rfl, _, hbb, hcx⟩ := E3.out (by omega)
      have cx := hcx.int hlt
      have hs := hid (drop_gt (l := l) (k := k) (by rw [← E1.out]; exact hlt))
      clear hcx
      obtain ⟨y, hy⟩ : ∃ y, gt l k = y := ⟨_, rfl⟩
      rw [hy] at cx
      have HY := hid hy
      clear hy
      by_cases e1 : y = x
      case pos =>
        have HF := hid (show idxI x l 0 = k by rw [HH.out, hs.out, HY.out, e1, idxI, if_pos rfl])
        subst e1
        go_wp2
        go_ret
        exact ⟨ret_int HF.out.symm, rfl⟩
      case neg =>
        have t1 : (x == y) = false := by simpa using (fun h => e1 h.symm)
        have HF := hid (show idxI x l 0 = idxI x (l.drop (k + 1)) ((k + 1 : Nat) : Int) by rw [HH.out, hs.out, HY.out, idxI, if_neg e1]; rfl)
        clear e1
        go_wp2
        go_roundg (gk - 1)
        case measure => have := HKG.out; omega
        case rel => exact ⟨k + 1, by have := HKG.out; omega, by go_num, HF.out, rfl⟩
theorem contains_any (A : Option Addr) (n c lo : Nat) (l : List Int) (x : Int) (w : World) (hx : Rd intS lo w.heap.size w A n l) :
    Calls Try.prog 42 #[.slice A n c, .int .i64 x] w fun e w' => e = .returned (.bool (hasI l x)) ∧ w = w' := by
  have HX := hid hx
  clear hx
  have hd := hid (idxI_has x l 0 (by omega))
  go_enter Try.func42, Try.ntmps42
  go_wp2_with fail
  refine (index_any _ _ _ _ _ _ _ HX.out).mono ?_
  rintro e w' ⟨rfl, rfl⟩
  go_wp2_with fail
  go_ret
  exact ⟨ret_bool hd.out, rfl⟩
set_option maxHeartbeats 400000 in
theorem l5Both_any (A B C : Option Addr) (n c m e0 q d lo : Nat) (l : List Int) (r page : List (List Int)) (w : World) (hl : Rd intS lo w.heap.size w A n l) (hr : Rd (sliceS intS) lo w.heap.size w B m r) (hp : Rd (sliceS intS) lo w.heap.size w C q page) :
    Calls Try.prog 49 #[.agg #[.slice A n c, .slice B m e0], .slice C q d] w fun e w' => e = .returned (.bool (bothOk l r page)) ∧ Below w.heap.size w w' := by
  have L := hid hl
  have R := hid hr
  have P := hid hp
  have hn := hid hl.1
  have h63 := hl.2.1
  clear hl hr hp
  go_enter Try.func49, Try.ntmps49
  go_wp2_with fail
  refine (specModelValid_any _ _ _ _ _ _ _ _ _ _ (L.out.bl (bnew _ _)) (R.out.bl (bnew _ _))).mono ?_
  rintro e w1 ⟨rfl, hb1⟩
  have B1 := hid (btr (bnew w (.cells #[.slice A n c, .slice B m e0] 41)) hb1)
  have cc := (hb1.block w.heap.size (by simp)).trans (heap_alloc_new w (.cells #[.slice A n c, .slice B m e0] 41))
  obtain ⟨k0, k1, _, _⟩ := at_get' cc
  clear hb1 cc
  by_cases hm : modelOk l r = true
  case neg =>
    have hm' : modelOk l r = false := by simpa using hm
    rw [hm']
    clear hm
    go_wp2_with fail
    go_ret
    exact ⟨ret_bool (by simp [bothOk, hm']), B1.out⟩
  case pos =>
    rw [hm]
    have HM := hid hm
    clear hm
    go_wp2_with fail
    refine (specPageValid_any _ _ _ _ _ _ _ (P.out.bl B1.out)).mono ?_
    rintro e w' ⟨rfl, rfl⟩
    go_wp2_with fail
    go_ret
    exact ⟨ret_bool (by rw [bothOk, HM.out, ← hn.out, Bool.true_and]), B1.out⟩
set_option maxHeartbeats 400000 in
theorem modelAndPage_any (A B C : Option Addr) (n c m e0 q d lo : Nat) (l : List Int) (r page : List (List Int)) (w : World) (hl : Rd intS lo w.heap.size w A n l) (hr : Rd (sliceS intS) lo w.heap.size w B m r) (hp : Rd (sliceS intS) lo w.heap.size w C q page) :
    Calls Try.prog 51 #[.agg #[.slice A n c, .slice B m e0], .slice C q d] w fun e w' => e = .returned (.bool (bothOk l r page)) ∧ Below w.heap.size w w' := by
  have L := hid hl
  have R := hid hr
  have P := hid hp
  have hn := hid hl.1
  have h63 := hl.2.1
  clear hl hr hp
  go_enter Try.func51, Try.ntmps51
  go_wp2_with fail
  refine (implModelValid_any _ _ _ _ _ _ _ _ _ _ (L.out.bl (bnew _ _)) (R.out.bl (bnew _ _))).mono ?_
  rintro e w1 ⟨rfl, hb1⟩
  have B1 := hid (btr (bnew w (.cells #[.slice A n c, .slice B m e0] 41)) hb1)
  have cc := (hb1.block w.heap.size (by simp)).trans (heap_alloc_new w (.cells #[.slice A n c, .slice B m e0] 41))
  obtain ⟨k0, k1, _, _⟩ := at_get' cc
  clear hb1 cc
  by_cases hm : modelOk l r = true
  case neg =>
    have hm' : modelOk l r = false := by simpa using hm
    rw [hm']
    clear hm
    go_wp2_with fail
    go_ret
    exact ⟨ret_bool (by simp [bothOk, hm']), B1.out⟩
  case pos =>
    rw [hm]
    have HM := hid hm
    clear hm
    go_wp2_with fail
    refine (modelSize_any _ _ _ _ _ _ _).mono ?_
    rintro e w2 ⟨rfl, hb2⟩
    have B2 := hid (btr B1.out hb2)
    clear hb2
    go_wp2_with fail
    refine (implPageValid_any _ _ _ _ _ _ _ (P.out.bl B2.out)).mono ?_
    rintro e w' ⟨rfl, rfl⟩
    go_wp2_with fail
    go_ret
    exact ⟨ret_bool (by rw [bothOk, HM.out, ← hn.out, Bool.true_and]), B2.out⟩
set_option maxHeartbeats 400000 in
theorem l5Weight_any (A B : Option Addr) (n c m e0 lo : Nat) (l : List Int) (r : List (List Int)) (b x : Int) (w : World) (hl : Rd intS lo w.heap.size w A n l) (hr : Rd (sliceS intS) lo w.heap.size w B m r) (hm : modelOk l r = true) (hb : b < n) (hx0 : 0 ≤ x) (hxn : x < n) :
    Calls Try.prog 50 #[.agg #[.slice A n c, .slice B m e0], .int .i64 b, .int .i64 x] w fun e w' => e = .returned (.int .i64 (wgt l r b x)) ∧ Below w.heap.size w w' := by
  obtain ⟨m1, m2, m3, m4, m5⟩ := modelOk_yes hm
  have hn := hl.1
  have hmm := hr.1
  obtain ⟨j, rfl⟩ := Int.eq_ofNat_of_zero_le hx0
  have hj : j < n := by omega
  by_cases hb0 : b < 0
  case pos =>
    have hd : decide (b < 0) = true := by simpa using hb0
    have HF := hid (show wgt l r b (j : Int) = gt l j by unfold wgt; rw [if_pos hb0, Int.toNat_natCast])
    have hl3 := hl.2.2
    obtain ⟨bb, off, rfl, _, hbb, hcx⟩ := hl3 (by omega)
    have cx := hcx.int hj
    clear hcx hl3 hl hr hm m3 m4 m5 hn hmm hb0 m1 m2
    go_enter Try.func50, Try.ntmps50
    go_wp2
    go_ret
    exact ⟨ret_int HF.out.symm, bnew _ _⟩
  case neg =>
    have hd : decide (b < 0) = false := by simpa using hb0
    obtain ⟨i, rfl⟩ := Int.eq_ofNat_of_zero_le (show 0 ≤ b by omega)
    have hi : i < m := by omega
    have hii : (i : Int) < (m : Int) := by omega
    have HF := hid (show wgt l r (i : Int) (j : Int) = gt (gt r i) j by unfold wgt; rw [if_neg hb0, Int.toNat_natCast, Int.toNat_natCast])
    have hr3 := hr.2.2
    obtain ⟨bb, off, rfl, _, hbb, hcx⟩ := hr3 (by omega)
    obtain ⟨C, cc, ce, _, hrow⟩ := hcx.row hi
    have hlen : (gt r i).length = n := by have := (m5 _ (gt_mem (l := r) (k := i) (by omega))).1; omega
    rw [hlen] at ce hrow
    have hw3 := hrow.2.2
    obtain ⟨b2, off2, rfl, _, hb2, hcy⟩ := hw3 (by omega)
    have cy := hcy.int hj
    clear hcx hcy hr3 hw3 hrow hl hr hm m3 m4 m5 hn hmm hb0 m1 m2 hlen
    go_enter Try.func50, Try.ntmps50
    go_wp2
    go_ret
    exact ⟨ret_int HF.out.symm, bnew _ _⟩
end Go.Proofs.Yteccacnojmilcaa
