/- OutlineTurn, OutlineMirror, OutlineBack: the program's and the reference's. -/
import Derived.Test.YtldhnljlhbbobaaPens
namespace Go.Proofs.Ytldhnljlhbbobaa
open Go.RowKit

def turnF (k : Int) (o : List (Int × Int)) : List (Int × Int) := if outOk o && inB k 0 7 then o.map (chg 1 k) else []
def mirF (o : List (Int × Int)) : List (Int × Int) := if outOk o then o.map (chg 7 0) else []
def backF (o : List (Int × Int)) : List (Int × Int) := if outOk o then (o.map (chg 1 4)).reverse else []
theorem strokeN_pen {p : Int × Int} (h : strokeOk p = true) : strokeN (penN p) = p := by unfold strokeN; rw [penN_dir h, penN_size h]
theorem turnP_pen {k : Int} {p : Int × Int} (h : strokeOk p = true) : strokeN (turnP k (penN p)) = chg 1 k p := by
  unfold turnP
  rw [penN_dir h, penN_size h, strokeN_pen (by rw [strokeOk_yes] at h ⊢; simp only []; omega), chg, Int.one_mul]
theorem mirP_pen {p : Int × Int} (h : strokeOk p = true) : strokeN (mirP (penN p)) = chg 7 0 p := by
  unfold mirP
  rw [penN_dir h, penN_size h, strokeN_pen (by rw [strokeOk_yes] at h ⊢; simp only []; omega), chg]
  rw [strokeOk_yes] at h
  congr 1
  omega
theorem map_turnP {k : Int} {o : List (Int × Int)} (h : ∀ p ∈ o, strokeOk p = true) : (o.map penN).map (fun x => strokeN (turnP k x)) = o.map (chg 1 k) := by
  rw [List.map_map]
  exact List.map_congr_left fun p hp => turnP_pen (h p hp)
theorem map_mirP {o : List (Int × Int)} (h : ∀ p ∈ o, strokeOk p = true) : (o.map penN).map (fun x => strokeN (mirP x)) = o.map (chg 7 0) := by
  rw [List.map_map]
  exact List.map_congr_left fun p hp => mirP_pen (h p hp)
theorem ret_sb {A : Option Addr} {n n' c : Nat} {a b : Bool} (h : n = n') (h2 : a = b) : Ending.returned (.tuple #[.slice A n c, .bool a]) = .returned (.tuple #[.slice A n' c, .bool b]) := by rw [h, h2]

set_option maxHeartbeats 1000000 in
theorem specOutlineMirror_any (A : Option Addr) (n c lo : Nat) (o : List (Int × Int)) (w : World) (hx : Rd strokeS lo w.heap.size w A n o) :
    Calls Try.prog 27 #[.slice A n c] w fun e w' => ∃ A' c', e = .returned (.tuple #[.slice A' (mirF o).length c', .bool (outOk o)]) ∧ OwnR strokeS w.heap.size w' 55 (.slice A' (mirF o).length c') (mirF o) ∧ Below w.heap.size w w' := by
  have HX := hid hx
  have HN := hid hx.1
  clear hx
  by_cases h1 : outOk o = true
  case neg =>
    have h1' : outOk o = false := by simpa using h1
    have HT := hid (show mirF o = [] by simp [mirF, h1'])
    clear h1
    go_enter Try.func27, Try.ntmps27
    go_wp2_with fail
    refine (specOutlineValid_any _ _ _ _ _ _ HX.out).mono ?_
    rintro e w1 ⟨rfl, b1⟩
    go_wp2_with fail
    go_ret2
    rw [HT.out]
    exact ⟨_, _, ret_sb rfl (by rw [h1']), OwnR.nil b1.size _ rfl, bal b1 _⟩
  obtain ⟨hl, h8⟩ := outOk_yes h1
  have HT := hid (show mirF o = o.map (chg 7 0) by simp [mirF, h1])
  have HO := hid (linked_ok hl)
  clear hl
  go_enter Try.func27, Try.ntmps27
  go_wp2_with fail
  refine (specOutlineValid_any _ _ _ _ _ _ HX.out).mono ?_
  rintro e w1 ⟨rfl, b1⟩
  go_wp2_with fail
  refine (l1Change7_any _ _ _ _ _ _ (HX.out.bl b1) HO.out (by rw [HN.out]; exact h8)).mono ?_
  rintro e w2 ⟨A2, c2, rfl, o2, b2⟩
  go_wp2_with fail
  go_ret2
  rw [HT.out]
  have e1 : n = (o.map (chg 7 0)).length := by rw [List.length_map, HN.out]
  rw [e1] at o2
  exact ⟨_, _, ret_sb e1 (by rw [h1]), OwnR.low o2 b1.size, btr b1 b2⟩
set_option maxHeartbeats 1000000 in
theorem implOutlineMirror_any (A : Option Addr) (n c lo : Nat) (o : List (Int × Int)) (w : World) (hx : Rd strokeS lo w.heap.size w A n o) :
    Calls Try.prog 28 #[.slice A n c] w fun e w' => ∃ A' c', e = .returned (.tuple #[.slice A' (mirF o).length c', .bool (outOk o)]) ∧ OwnR strokeS w.heap.size w' 55 (.slice A' (mirF o).length c') (mirF o) ∧ Below w.heap.size w w' := by
  have HX := hid hx
  have HN := hid hx.1
  clear hx
  by_cases h1 : outOk o = true
  case neg =>
    have h1' : outOk o = false := by simpa using h1
    have HT := hid (show mirF o = [] by simp [mirF, h1'])
    clear h1
    go_enter Try.func28, Try.ntmps28
    go_wp2_with fail
    refine (chainOf_any _ _ _ _ _ _ HX.out).mono ?_
    rintro e w1 ⟨p, rfl, b1, _⟩
    go_wp2_with fail
    go_ret2
    rw [HT.out]
    exact ⟨_, _, ret_sb rfl (by rw [h1']), OwnR.nil0, b1⟩
  obtain ⟨hl, h8⟩ := outOk_yes h1
  have HO := hid (linked_ok hl)
  clear hl
  have HT := hid (show mirF o = o.map (chg 7 0) by simp [mirF, h1])
  have HB := hid (show ∀ x ∈ o.map penN, 0 ≤ x ∧ x ≤ 23 from fun x hx => by
    obtain ⟨y, hy, rfl⟩ := List.mem_map.1 hx
    exact penN_bd (HO.out y hy))
  go_enter Try.func28, Try.ntmps28
  go_wp2_with fail
  refine (chainOf_any _ _ _ _ _ _ HX.out).mono ?_
  rintro e w1 ⟨p, rfl, b1, hC⟩
  have HC := hid (hC h1)
  clear hC
  go_wp2_with fail
  refine (strokesMir_any _ _ _ _ _ HC.out (by rw [List.length_map]; exact h8) HB.out).mono ?_
  rintro e w2 ⟨A2, c2, rfl, o2, b2⟩
  go_wp2_with fail
  go_ret2
  rw [HT.out]
  rw [map_mirP HO.out, List.length_map] at o2
  refine ⟨_, _, ret_sb (by simp) (by rw [h1]), ?_, btr b1 b2⟩
  rw [List.length_map]
  exact OwnR.low o2 b1.size
end Go.Proofs.Ytldhnljlhbbobaa
