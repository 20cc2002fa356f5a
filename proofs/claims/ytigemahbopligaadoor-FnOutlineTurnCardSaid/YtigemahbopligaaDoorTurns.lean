/- OutlineTurn, OutlineMirror, OutlineBack: the program's and the reference's. -/
import Derived.Test.YtigemahbopligaaDoorPens
namespace Go.Proofs.YtigemahbopligaaDoor
open Go.RowKit

def turnF (k : Int) (o : List (Int × Int)) : List (Int × Int) := if outOk o && inB k 0 7 then o.map (chg 1 k) else []
def mirF (o : List (Int × Int)) : List (Int × Int) := if outOk o then o.map (chg 7 0) else []
def backF (o : List (Int × Int)) : List (Int × Int) := if outOk o then (o.map (chg 1 4)).reverse else []
theorem strokeN_pen {p : Int × Int} (h : strokeOk p = true) : strokeN (penN p) = p := by unfold strokeN; rw [penN_dir h, penN_size h]
theorem turnP_pen {k : Int} {p : Int × Int} (h : strokeOk p = true) : strokeN (turnP k (penN p)) = chg 1 k p := by
  unfold turnP
  rw [penN_dir h, penN_size h, strokeN_pen (by rw [strokeOk_yes] at h ⊢; simp only []; omega), chg, Int.one_mul]
theorem mirP_pen {p : Int × Int} (h : strokeOk p = true) : strokeN (mirP (penN p)) = chg 7 0 p := by
  unfold mirP
  rw [penN_dir h, penN_size h, strokeN_pen (by rw [strokeOk_yes] at h ⊢; simp only []; omega), chg]
  rw [strokeOk_yes] at h
  congr 1
  omega
theorem map_turnP {k : Int} {o : List (Int × Int)} (h : ∀ p ∈ o, strokeOk p = true) : (o.map penN).map (fun x => strokeN (turnP k x)) = o.map (chg 1 k) := by
  rw [List.map_map]
  exact List.map_congr_left fun p hp => turnP_pen (h p hp)
theorem map_mirP {o : List (Int × Int)} (h : ∀ p ∈ o, strokeOk p = true) : (o.map penN).map (fun x => strokeN (mirP x)) = o.map (chg 7 0) := by
  rw [List.map_map]
  exact List.map_congr_left fun p hp => mirP_pen (h p hp)
theorem ret_sb {A : Option Addr} {n n' c : Nat} {a b : Bool} (h : n = n') (h2 : a = b) : Ending.returned (.tuple #[.slice A n c, .bool a]) = .returned (.tuple #[.slice A n' c, .bool b]) := by rw [h, h2]

set_option maxHeartbeats 1000000 in
theorem specOutlineTurn_any (A : Option Addr) (n c lo : Nat) (o : List (Int × Int)) (k : Int) (w : World) (hx : Rd strokeS lo w.heap.size w A n o) :
    Calls Tryd.prog 22 #[.slice A n c, .int .i64 k] w fun e w' => ∃ A' c', e = .returned (.tuple #[.slice A' (turnF k o).length c', .bool (outOk o && inB k 0 7)]) ∧ OwnR strokeS w.heap.size w' 46 (.slice A' (turnF k o).length c') (turnF k o) ∧ Below w.heap.size w w' := by
  have HX := hid hx
  have HN := hid hx.1
  clear hx
  by_cases h1 : outOk o = true
  case neg =>
    have h1' : outOk o = false := by simpa using h1
    have HT := hid (show turnF k o = [] by simp [turnF, h1'])
    clear h1
    go_enter Tryd.func22, Tryd.ntmps22
    go_wp2_with fail
    refine (specOutlineValid_any _ _ _ _ _ _ HX.out).mono ?_
    rintro e w1 ⟨rfl, b1⟩
    go_wp2_with fail
    go_ret2
    rw [HT.out]
    exact ⟨_, _, ret_sb rfl (by rw [h1', Bool.false_and]), OwnR.nil b1.size _ rfl, bal b1 _⟩
  by_cases h2 : inB k 0 7 = true
  case neg =>
    have h2' : inB k 0 7 = false := by simpa using h2
    have HT := hid (show turnF k o = [] by simp [turnF, h2'])
    clear h2
    go_enter Tryd.func22, Tryd.ntmps22
    go_wp2_with fail
    refine (specOutlineValid_any _ _ _ _ _ _ HX.out).mono ?_
    rintro e w1 ⟨rfl, b1⟩
    go_wp2_with (go_at_call 49; refine (l6In_any _ _ _ _).mono ?_; rintro e w' ⟨rfl, rfl⟩)
    go_ret2
    rw [HT.out]
    exact ⟨_, _, ret_sb rfl (by rw [h2', Bool.and_false]), OwnR.nil b1.size _ rfl, bal b1 _⟩
  obtain ⟨k0, k7⟩ := inB_yes.1 h2
  obtain ⟨hl, h8⟩ := outOk_yes h1
  have HT := hid (show turnF k o = o.map (chg 1 k) by simp [turnF, h1, h2])
  have HO := hid (linked_ok hl)
  clear hl
  go_enter Tryd.func22, Tryd.ntmps22
  go_wp2_with fail
  refine (specOutlineValid_any _ _ _ _ _ _ HX.out).mono ?_
  rintro e w1 ⟨rfl, b1⟩
  go_wp2_with (first | (go_at_call 49; refine (l6In_any _ _ _ _).mono ?_; rintro e w' ⟨rfl, rfl⟩) | (go_at_call 50; refine (l1Change1_any _ _ _ _ _ _ (HX.out.bl b1) HO.out (by rw [HN.out]; exact h8) k k0 k7).mono ?_; rintro e w2 ⟨A2, c2, rfl, o2, b2⟩))
  go_ret2
  rw [HT.out]
  have e1 : n = (o.map (chg 1 k)).length := by rw [List.length_map, HN.out]
  rw [e1] at o2
  obtain ⟨xs, ho, hx⟩ := o2
  exact ⟨_, _, ret_sb e1 (by rw [h1, h2]; rfl), OwnR.low ⟨xs, ho, hx⟩ b1.size, btr b1 b2⟩
set_option maxHeartbeats 1000000 in
theorem implOutlineTurn_any (A : Option Addr) (n c lo : Nat) (o : List (Int × Int)) (k : Int) (w : World) (hx : Rd strokeS lo w.heap.size w A n o) :
    Calls Tryd.prog 21 #[.slice A n c, .int .i64 k] w fun e w' => ∃ A' c', e = .returned (.tuple #[.slice A' (turnF k o).length c', .bool (outOk o && inB k 0 7)]) ∧ OwnR strokeS w.heap.size w' 46 (.slice A' (turnF k o).length c') (turnF k o) ∧ Below w.heap.size w w' := by
  have HX := hid (fun o => hx.bl (bnew w o))
  have HN := hid hx.1
  clear hx
  by_cases h1 : outOk o = true
  case neg =>
    have h1' : outOk o = false := by simpa using h1
    have HT := hid (show turnF k o = [] by simp [turnF, h1'])
    clear h1
    go_enter Tryd.func21, Tryd.ntmps21
    go_wp2_with fail
    refine (chainOf_any _ _ _ _ _ _ (HX.out _)).mono ?_
    rintro e w1 ⟨p, rfl, b1, _⟩
    have B1 := hid (btr (bnew _ _) b1)
    go_wp2_with fail
    go_ret2
    rw [HT.out]
    exact ⟨_, _, ret_sb rfl (by rw [h1', Bool.false_and]), OwnR.nil0, B1.out⟩
  obtain ⟨hl, h8⟩ := outOk_yes h1
  have HO := hid (linked_ok hl)
  clear hl
  by_cases k0 : 0 ≤ k
  case neg =>
    have HT := hid (show turnF k o = [] by simp [turnF, inB, k0])
    have H2 := hid (inB_no.2 (show ¬ (0 ≤ k ∧ k ≤ 7) by omega))
    go_enter Tryd.func21, Tryd.ntmps21
    go_wp2_with fail
    refine (chainOf_any _ _ _ _ _ _ (HX.out _)).mono ?_
    rintro e w1 ⟨p, rfl, b1, _⟩
    have B1 := hid (btr (bnew _ _) b1)
    have x1 := bcl b1 (cell_new w #[.int .i64 k] 3 0)
    go_wp2_with fail
    go_ret2
    rw [HT.out]
    exact ⟨_, _, ret_sb rfl (by rw [H2.out, Bool.and_false]), OwnR.nil0, B1.out⟩
  by_cases k7 : k ≤ 7
  case neg =>
    have HT := hid (show turnF k o = [] by simp [turnF, inB, k7])
    have H2 := hid (inB_no.2 (show ¬ (0 ≤ k ∧ k ≤ 7) by omega))
    go_enter Tryd.func21, Tryd.ntmps21
    go_wp2_with fail
    refine (chainOf_any _ _ _ _ _ _ (HX.out _)).mono ?_
    rintro e w1 ⟨p, rfl, b1, _⟩
    have B1 := hid (btr (bnew _ _) b1)
    have x1 := bcl b1 (cell_new w #[.int .i64 k] 3 0)
    go_wp2_with fail
    go_ret2
    rw [HT.out]
    exact ⟨_, _, ret_sb rfl (by rw [H2.out, Bool.and_false]), OwnR.nil0, B1.out⟩
  have H2 := hid (inB_yes.2 (And.intro k0 k7))
  have HT := hid (show turnF k o = o.map (chg 1 k) by simp [turnF, h1, H2.out])
  have HB := hid (show ∀ x ∈ o.map penN, 0 ≤ x ∧ x ≤ 23 from fun x hx => by
    obtain ⟨y, hy, rfl⟩ := List.mem_map.1 hx
    exact penN_bd (HO.out y hy))
  go_enter Tryd.func21, Tryd.ntmps21
  go_wp2_with fail
  refine (chainOf_any _ _ _ _ _ _ (HX.out _)).mono ?_
  rintro e w1 ⟨p, rfl, b1, hC⟩
  have B1 := hid (btr (bnew _ _) b1)
  have x1 := bcl b1 (cell_new w #[.int .i64 k] 3 0)
  have X1 := hid x1
  have HC := hid (hC h1)
  clear hC b1
  go_wp2_with fail
  refine (strokesTurn_any k _ k0 k7 _ _ _ _ _ HC.out (by rw [List.length_map]; exact h8) HB.out X1.out).mono ?_
  rintro e w2 ⟨A2, c2, rfl, o2, b2⟩
  go_wp2_with fail
  go_ret2
  rw [HT.out]
  rw [map_turnP HO.out, List.length_map] at o2
  refine ⟨_, _, ret_sb (by simp) (by rw [h1, H2.out]; rfl), ?_, btr B1.out b2⟩
  rw [List.length_map]
  exact OwnR.low o2 B1.out.size
set_option maxHeartbeats 1000000 in
theorem specOutlineMirror_any (A : Option Addr) (n c lo : Nat) (o : List (Int × Int)) (w : World) (hx : Rd strokeS lo w.heap.size w A n o) :
    Calls Tryd.prog 30 #[.slice A n c] w fun e w' => ∃ A' c', e = .returned (.tuple #[.slice A' (mirF o).length c', .bool (outOk o)]) ∧ OwnR strokeS w.heap.size w' 46 (.slice A' (mirF o).length c') (mirF o) ∧ Below w.heap.size w w' := by
  have HX := hid hx
  have HN := hid hx.1
  clear hx
  by_cases h1 : outOk o = true
  case neg =>
    have h1' : outOk o = false := by simpa using h1
    have HT := hid (show mirF o = [] by simp [mirF, h1'])
    clear h1
    go_enter Tryd.func30, Tryd.ntmps30
    go_wp2_with fail
    refine (specOutlineValid_any _ _ _ _ _ _ HX.out).mono ?_
    rintro e w1 ⟨rfl, b1⟩
    go_wp2_with fail
    go_ret2
    rw [HT.out]
    exact ⟨_, _, ret_sb rfl (by rw [h1']), OwnR.nil b1.size _ rfl, bal b1 _⟩
  obtain ⟨hl, h8⟩ := outOk_yes h1
  have HT := hid (show mirF o = o.map (chg 7 0) by simp [mirF, h1])
  have HO := hid (linked_ok hl)
  clear hl
  go_enter Tryd.func30, Tryd.ntmps30
  go_wp2_with fail
  refine (specOutlineValid_any _ _ _ _ _ _ HX.out).mono ?_
  rintro e w1 ⟨rfl, b1⟩
  go_wp2_with fail
  refine (l1Change7_any _ _ _ _ _ _ (HX.out.bl b1) HO.out (by rw [HN.out]; exact h8)).mono ?_
  rintro e w2 ⟨A2, c2, rfl, o2, b2⟩
  go_wp2_with fail
  go_ret2
  rw [HT.out]
  have e1 : n = (o.map (chg 7 0)).length := by rw [List.length_map, HN.out]
  rw [e1] at o2
  exact ⟨_, _, ret_sb e1 (by rw [h1]), OwnR.low o2 b1.size, btr b1 b2⟩
set_option maxHeartbeats 1000000 in
theorem implOutlineMirror_any (A : Option Addr) (n c lo : Nat) (o : List (Int × Int)) (w : World) (hx : Rd strokeS lo w.heap.size w A n o) :
    Calls Tryd.prog 28 #[.slice A n c] w fun e w' => ∃ A' c', e = .returned (.tuple #[.slice A' (mirF o).length c', .bool (outOk o)]) ∧ OwnR strokeS w.heap.size w' 46 (.slice A' (mirF o).length c') (mirF o) ∧ Below w.heap.size w w' := by
  have HX := hid hx
  have HN := hid hx.1
  clear hx
  by_cases h1 : outOk o = true
  case neg =>
    have h1' : outOk o = false := by simpa using h1
    have HT := hid (show mirF o = [] by simp [mirF, h1'])
    clear h1
    go_enter Tryd.func28, Tryd.ntmps28
    go_wp2_with fail
    refine (chainOf_any _ _ _ _ _ _ HX.out).mono ?_
    rintro e w1 ⟨p, rfl, b1, _⟩
    go_wp2_with fail
    go_ret2
    rw [HT.out]
    exact ⟨_, _, ret_sb rfl (by rw [h1']), OwnR.nil0, b1⟩
  obtain ⟨hl, h8⟩ := outOk_yes h1
  have HO := hid (linked_ok hl)
  clear hl
  have HT := hid (show mirF o = o.map (chg 7 0) by simp [mirF, h1])
  have HB := hid (show ∀ x ∈ o.map penN, 0 ≤ x ∧ x ≤ 23 from fun x hx => by
    obtain ⟨y, hy, rfl⟩ := List.mem_map.1 hx
    exact penN_bd (HO.out y hy))
  go_enter Tryd.func28, Tryd.ntmps28
  go_wp2_with fail
  refine (chainOf_any _ _ _ _ _ _ HX.out).mono ?_
  rintro e w1 ⟨p, rfl, b1, hC⟩
  have HC := hid (hC h1)
  clear hC
  go_wp2_with fail
  refine (strokesMir_any _ _ _ _ _ HC.out (by rw [List.length_map]; exact h8) HB.out).mono ?_
  rintro e w2 ⟨A2, c2, rfl, o2, b2⟩
  go_wp2_with fail
  go_ret2
  rw [HT.out]
  rw [map_mirP HO.out, List.length_map] at o2
  refine ⟨_, _, ret_sb (by simp) (by rw [h1]), ?_, btr b1 b2⟩
  rw [List.length_map]
  exact OwnR.low o2 b1.size
set_option maxRecDepth 100000 in
set_option maxHeartbeats 1000000 in
theorem specOutlineBack_any (A : Option Addr) (n c lo : Nat) (o : List (Int × Int)) (w : World) (hx : Rd strokeS lo w.heap.size w A n o) :
    Calls Tryd.prog 33 #[.slice A n c] w fun e w' => ∃ A' c', e = .returned (.tuple #[.slice A' (backF o).length c', .bool (outOk o)]) ∧ OwnR strokeS w.heap.size w' 46 (.slice A' (backF o).length c') (backF o) ∧ Below w.heap.size w w' := by
  obtain ⟨i0, hi, hz0, hz1, hz2⟩ := info_parts (show (Tryd.prog.info? 46).map (fun i => (i.zero, i.size, i.bytes)) = some (some (.agg #[.int .i64 0, .int .i64 0]), 2, 16) by kernel_rfl)
  have HI := hid (And.intro hi (And.intro hz0 (And.intro hz1 hz2)))
  clear hi hz0 hz1 hz2
  have HX := hid hx
  have HN := hid hx.1
  clear hx
  by_cases h1 : outOk o = true
  case neg =>
    have h1' : outOk o = false := by simpa using h1
    have HT := hid (show backF o = [] by simp [backF, h1'])
    clear h1
    go_enter Tryd.func33, Tryd.ntmps33
    go_wp2_with fail
    refine (specOutlineValid_any _ _ _ _ _ _ HX.out).mono ?_
    rintro e w1 ⟨rfl, b1⟩
    go_wp2_with fail
    go_ret2
    rw [HT.out]
    exact ⟨_, _, ret_sb rfl (by rw [h1']), OwnR.nil b1.size _ rfl, bal b1 _⟩
  obtain ⟨hl, h8⟩ := outOk_yes h1
  have hn8 : n ≤ 8 := by have := HN.out; omega
  have HT := hid (show backF o = (o.map (chg 1 4)).reverse by simp [backF, h1])
  have HO := hid (linked_ok hl)
  clear hl
  go_enter Tryd.func33, Tryd.ntmps33
  go_wp2_with fail
  refine (specOutlineValid_any _ _ _ _ _ _ HX.out).mono ?_
  rintro e w1 ⟨rfl, b1⟩
  go_wp2_with fail
  refine (l1Change1_any _ _ _ _ _ _ (HX.out.bl b1) HO.out (by rw [HN.out]; exact h8) 4 (by omega) (by omega)).mono ?_
  rintro e w2 ⟨A2, c2, rfl, o2, b2⟩
  have hO1 := hid h1
  obtain ⟨hq, r2⟩ := o2.rd (by rw [List.length_map]; omega)
  clear hq
  have B2 := hid (btr b1 b2)
  obtain ⟨e1, e2, e3⟩ := r2
  have E1 := hid e1; clear e1
  have E3 := hid e3; clear e3
  clear h1 b1 b2 o2
  go_wp2_with fail
  go_loopw [5, 6] (fun out i wr => ∃ (j : Nat) (z : Int) (m : List (Int × Int)) (A' : Option Addr) (c' : Nat), j ≤ n ∧ i = .int .i64 z ∧ z = (j : Int) - 1 ∧ m = ((o.map (chg 1 4)).drop j).reverse ∧ m.length = n - j ∧ out = .slice A' m.length c' ∧ OwnR strokeS w2.heap.size wr 46 (.slice A' m.length c') m ∧ Below w2.heap.size w2 wr) (fun _ i _ => (intOf i + 1).toNat)
  case atStart => exact ⟨n, _, [], _, _, Nat.le_refl _, rfl, rfl, by rw [List.drop_eq_nil_of_le (by rw [E1.out]; omega)]; rfl, by simp, rfl, OwnR.nil (Nat.le_refl _) _ rfl, bnew _ _⟩
  case round =>
    obtain ⟨j, z, m, A', c', hj, rfl, hz, hm, hml, rfl, hO, hb⟩ := hrel
    have HM := hid hm; clear hm
    have HML := hid hml
    have hm8 : m.length ≤ 8 := by omega
    clear hml
    by_cases hj0 : j = 0
    · have hz0 : z < 0 := by omega
      have HJ := hid hj0
      clear hz hj0
      go_wp2
      go_ret2
      rw [HT.out]
      have em : m = (o.map (chg 1 4)).reverse := by rw [HM.out, HJ.out, List.drop_zero]
      rw [← em]
      exact ⟨_, _, ret_sb rfl (by rw [hO1.out]), OwnR.low hO B2.out.size, btr B2.out hb⟩
    · obtain ⟨i, rfl⟩ : ∃ i, j = i + 1 := ⟨j - 1, by omega⟩
      obtain rfl : z = (i : Int) := by omega
      clear hz hj0
      have hlt : i < n := by omega
      obtain ⟨b, off, rfl, _, hbb, hcx⟩ := E3.out (by omega)
      have cx := bcl hb (hcx.stroke hlt).1
      have cy := bcl hb (hcx.stroke hlt).2
      have hd := hid (drop_gt (l := o.map (chg 1 4)) (by rw [← E1.out]; exact hlt))
      clear hcx
      go_wp2_with (at_builtin; refine wpList_append_R rfl (.tmp 21) (.tmp 26) _ rfl strokeS Tryd.underlying26 HI.out rfl (by decide) rfl (hO.al _) (y := gt (o.map (chg 1 4)) i) rfl (heap_alloc_new _ _) rfl (by simp [Value.oneCell']) ⟨rfl, rfl⟩ (by omega) (by omega) (Nat.le_trans hb.size (by simp)) ?_; intro A4 c4 w3 hO3 hb3; have hb4 : Below w2.heap.size w2 w3 := (bal hb _).trans hb3)
      go_roundw
      case rel =>
        refine ⟨i, _, m ++ [gt (o.map (chg 1 4)) i], A4, c4, by omega, rfl, by omega, by rw [hd.out, List.reverse_cons, ← HM.out], by rw [List.length_append, HML.out]; simp; omega, by rw [List.length_append]; rfl, by rw [List.length_append]; exact hO3, hb4⟩
      case measure => simp [intOf]
set_option maxHeartbeats 1000000 in
theorem implOutlineBack_any (A : Option Addr) (n c lo : Nat) (o : List (Int × Int)) (w : World) (hx : Rd strokeS lo w.heap.size w A n o) :
    Calls Tryd.prog 32 #[.slice A n c] w fun e w' => ∃ A' c', e = .returned (.tuple #[.slice A' (backF o).length c', .bool (outOk o)]) ∧ OwnR strokeS w.heap.size w' 46 (.slice A' (backF o).length c') (backF o) ∧ Below w.heap.size w w' := by
  have HX := hid hx
  have HN := hid hx.1
  clear hx
  by_cases h1 : outOk o = true
  case neg =>
    have h1' : outOk o = false := by simpa using h1
    have HT := hid (show backF o = [] by simp [backF, h1'])
    clear h1
    go_enter Tryd.func32, Tryd.ntmps32
    go_wp2_with fail
    refine (chainOf_any _ _ _ _ _ _ HX.out).mono ?_
    rintro e w1 ⟨p, rfl, b1, _⟩
    go_wp2_with fail
    go_ret2
    rw [HT.out]
    exact ⟨_, _, ret_sb rfl (by rw [h1']), OwnR.nil0, b1⟩
  obtain ⟨hl, h8⟩ := outOk_yes h1
  have HO := hid (linked_ok hl)
  clear hl
  have HB := hid (show ∀ x ∈ o.map penN, 0 ≤ x ∧ x ≤ 23 from fun x hx => by
    obtain ⟨y, hy, rfl⟩ := List.mem_map.1 hx
    exact penN_bd (HO.out y hy))
  have HT := hid (show backF o = ((o.map penN).reverse.map fun x => strokeN (turnP 4 x)) by
    rw [List.map_reverse, map_turnP HO.out]
    simp [backF, h1])
  go_enter Tryd.func32, Tryd.ntmps32
  go_wp2_with fail
  refine (chainOf_any _ _ _ _ _ _ HX.out).mono ?_
  rintro e w1 ⟨p, rfl, b1, hC⟩
  have HC := hid (hC h1)
  clear hC
  have B1 := hid b1
  clear b1
  go_wp2_with fail
  have H1 := hid h1
  clear h1
  go_loopw [6, 7] (fun back q wr => ∃ (r d : List Int) (a b : Option Addr) (hi' : Nat), q = .pointer a ∧ back = .pointer b ∧ Chain w.heap.size w1 hi' a r ∧ Chain w1.heap.size wr wr.heap.size b d ∧ (o.map penN).reverse = r.reverse ++ d ∧ Below w1.heap.size w1 wr) (fun _ q _ => ptrNo q)
  case atStart => exact ⟨_, [], _, none, _, rfl, rfl, HC.out, rfl, by simp, Below.refl _ _⟩
  case round =>
    obtain ⟨r, d, a, b, hi', rfl, rfl, hC, hD, hr, hb⟩ := hrel
    have HR := hid hr; clear hr
    have HD := hid hD; clear hD
    cases r with
    | nil =>
      obtain rfl : a = none := hC
      have hd : d = (o.map penN).reverse := by rw [HR.out]; rfl
      have HDD := hid hd
      clear hd
      go_wp2_with fail
      refine (strokesBack_any _ _ _ _ _ HD.out (by rw [HDD.out]; simpa using h8) (by rw [HDD.out]; intro x hx; exact HB.out x (List.mem_reverse.1 hx))).mono ?_
      rintro e w2 ⟨A2, c2, rfl, o2, b2⟩
      go_wp2_with fail
      go_ret2
      have b12 := btr B1.out hb
      rw [HT.out, ← HDD.out]
      refine ⟨_, _, ret_sb (by simp) (by rw [H1.out]), ?_, btr b12 b2⟩
      rw [List.length_map]
      exact OwnR.low o2 b12.size
    | cons x r =>
      obtain ⟨g, q', rfl, g1, g2, c0, c1, hC3⟩ := hC
      have HC3 := hid hC3
      have k0 := bcl hb c0
      have k1 := bcl hb c1
      have hgl : g < wr.heap.size := block_lt_of_cell k0
      have hne : g ≠ wr.heap.size := by omega
      clear hC3 c0 c1
      go_wp2_with fail
      go_roundw
      case rel =>
        refine ⟨r, x :: d, q', _, _, rfl, rfl, HC3.out, ⟨wr.heap.size, b, rfl, hb.size, by simp, cell_new _ _ _ 0, cell_new _ _ _ 1, ?_⟩, by rw [HR.out]; simp, bal hb _⟩
        exact HD.out.keep fun b' o' _ h2 => World.cell?_alloc_lt wr _ ⟨b', o', none⟩ h2
      case measure =>
        cases r with
        | nil => obtain rfl : q' = none := HC3.out; simp [ptrNo]
        | cons y r' => obtain ⟨g', _, rfl, _, g3, _⟩ := HC3.out; simp [ptrNo]; omega
end Go.Proofs.YtigemahbopligaaDoor
