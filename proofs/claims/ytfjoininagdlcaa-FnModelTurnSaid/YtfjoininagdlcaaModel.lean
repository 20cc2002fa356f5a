/- Models: the laws' helpers on them, and what the program's and the reference's ModelValid return. -/
import Derived.Test.YtfjoininagdlcaaDigits
namespace Go.Proofs.Ytfjoininagdlcaa
open Go.RowKit

def szModelN (l : List Int) (m : List (List Int)) (left : Int) : Int := if szI l.length left < 0 then -1 else if szRows m (szI l.length left) < 0 then -1 else szRows m (szI l.length left)
def modelOk (l : List Int) (m : List (List Int)) : Bool := inB l.length 1 6 && (weightsOk l l.length && (decide (m.length = l.length) && m.all (weightsOk · l.length)))

set_option maxHeartbeats 400000 in
theorem modelSize_any (A B : Option Addr) (n c m e : Nat) (w : World) :
    Calls Try.prog 70 #[.agg #[.slice A n c, .slice B m e]] w fun e w' => e = .returned (.int .i64 n) ∧ Below w.heap.size w w' := by
  go_enter Try.func70, Try.ntmps70
  go_wp2
  go_ret
  exact ⟨rfl, (Below.refl _ _).alloc (Nat.le_refl _) _⟩
set_option maxHeartbeats 1000000 in
theorem specModelValid_any (A B : Option Addr) (n c m e lo : Nat) (l : List Int) (r : List (List Int)) (w : World) (hl : Rd intS lo w.heap.size w A n l) (hr : Rd (sliceS intS) lo w.heap.size w B m r) :
    Calls Try.prog 71 #[.agg #[.slice A n c, .slice B m e]] w fun e w' => e = .returned (.bool (modelOk l r)) ∧ Below w.heap.size w w' := by
  have hba : ∀ o : Obj, Below w.heap.size w (w.alloc o) := fun o => (Below.refl _ _).alloc (Nat.le_refl _) _
  have HL := hid (fun o => ((hl.below (hba o) (Nat.le_refl _)).wide (hi' := (w.alloc o).heap.size) (Nat.le_refl _) (by simp)))
  have HBA := hid hba; clear hba
  have HN := hid hl.1
  have hn := hl.2.1
  obtain ⟨e1, e2, e3⟩ := hr
  have E1 := hid e1; clear e1
  have E3 := hid e3; clear e3
  clear hl
  by_cases h1 : inB n 1 6 = true
  case neg =>
    have h1' : inB n 1 6 = false := by simpa using h1
    have HH := hid (show modelOk l r = false by rw [modelOk, ← HN.out, h1', Bool.false_and])
    clear h1
    go_enter Try.func71, Try.ntmps71
    go_wp2_with (go_at_call 72; refine (l6In_any _ _ _ _).mono ?_; rintro e w' ⟨rfl, rfl⟩)
    go_ret
    exact ⟨ret_bool HH.out.symm, HBA.out _⟩
  by_cases h2 : weightsOk l n = true
  case neg =>
    have h2' : weightsOk l n = false := by simpa using h2
    have HH := hid (show modelOk l r = false by rw [modelOk, ← HN.out, h2', Bool.false_and, Bool.and_false])
    clear h2
    go_enter Try.func71, Try.ntmps71
    go_wp2_with (first | (go_at_call 72; refine (l6In_any _ _ _ _).mono ?_; rintro e w' ⟨rfl, rfl⟩) | (go_at_call 84; refine (l5Weights_any _ _ _ _ _ _ _ (HL.out _)).mono ?_; rintro e w' ⟨rfl, rfl⟩))
    go_ret
    exact ⟨ret_bool HH.out.symm, HBA.out _⟩
  by_cases h3 : m = n
  case neg =>
    have h3' : ((m : Int) != (n : Int)) = true := by simp; omega
    have HH := hid (show modelOk l r = false by rw [modelOk, ← HN.out, ← E1.out]; simp [h3])
    have H3 := hid h3; clear h3
    go_enter Try.func71, Try.ntmps71
    go_wp2_with (first | (go_at_call 72; refine (l6In_any _ _ _ _).mono ?_; rintro e w' ⟨rfl, rfl⟩) | (go_at_call 84; refine (l5Weights_any _ _ _ _ _ _ _ (HL.out _)).mono ?_; rintro e w' ⟨rfl, rfl⟩))
    go_ret
    exact ⟨ret_bool HH.out.symm, HBA.out _⟩
  subst h3
  have HH := hid (show modelOk l r = (r.drop 0).all (weightsOk · m) by rw [modelOk, ← HN.out, h1, h2, ← E1.out]; simp)
  go_enter Try.func71, Try.ntmps71
  go_wp2_with (first | (go_at_call 72; refine (l6In_any _ _ _ _).mono ?_; rintro e w' ⟨rfl, rfl⟩) | (go_at_call 84; refine (l5Weights_any _ _ _ _ _ _ _ (HL.out _)).mono ?_; rintro e w' ⟨rfl, rfl⟩))
  clear h1 h2
  go_loop [4] (fun i => ∃ k : Nat, k ≤ m ∧ i = .int .i64 k ∧ modelOk l r = (r.drop k).all (weightsOk · m)) (fun i => m - (intOf i).toNat)
  case atStart => exact ⟨0, Nat.zero_le _, rfl, HH.out⟩
  case round =>
    obtain ⟨k, hk, rfl, hr⟩ := hrel
    have HR := hid hr; clear hr HH
    by_cases hlt : k < m
    · obtain ⟨b, off, rfl, _, hbb, hcx⟩ := E3.out (by omega)
      obtain ⟨A', c', cx, _, hrow⟩ := hcx.row hlt
      have HRow := hid (fun o => ((hrow.below (HBA.out o) (Nat.le_refl _)).wide (hi' := (w.alloc o).heap.size) (Nat.le_refl _) (by simp)))
      have hd := hid (drop_gt (l := r) (by rw [← E1.out]; exact hlt))
      have hne : b ≠ w.heap.size := by omega
      clear hcx hrow
      by_cases hp : weightsOk (gt r k) m = true
      · go_wp2_with (go_at_call 84; refine (l5Weights_any _ _ _ _ _ _ _ (HRow.out _)).mono ?_; rintro e w' ⟨rfl, rfl⟩)
        go_round
        case rel => exact ⟨k + 1, by omega, by go_num, by rw [HR.out, hd.out, List.all_cons, hp, Bool.true_and]⟩
        case measure => simp [intOf]; omega
      · have hp' : weightsOk (gt r k) m = false := by simpa using hp
        clear hp
        go_wp2_with (go_at_call 84; refine (l5Weights_any _ _ _ _ _ _ _ (HRow.out _)).mono ?_; rintro e w' ⟨rfl, rfl⟩)
        go_ret
        exact ⟨ret_bool (by rw [HR.out, hd.out, List.all_cons, hp', Bool.false_and]), HBA.out _⟩
    · obtain rfl : k = m := by omega
      go_wp2
      go_ret
      exact ⟨ret_bool (by rw [HR.out, List.drop_eq_nil_of_le (by rw [E1.out]; omega)]; rfl), HBA.out _⟩
set_option maxHeartbeats 1000000 in
theorem implModelValid_any (A B : Option Addr) (n c m e lo : Nat) (l : List Int) (r : List (List Int)) (w : World) (hl : Rd intS lo w.heap.size w A n l) (hr : Rd (sliceS intS) lo w.heap.size w B m r) :
    Calls Try.prog 68 #[.agg #[.slice A n c, .slice B m e]] w fun e w' => e = .returned (.bool (modelOk l r)) ∧ Below w.heap.size w w' := by
  have hba : ∀ (o : Obj) (w1 : World), Below (w.alloc o).heap.size (w.alloc o) w1 → Below w.heap.size w w1 := fun o w1 h => ((Below.refl _ _).alloc (Nat.le_refl _) _).trans (h.mono (by simp))
  have HBA := hid hba; clear hba
  have HL := hid (fun w1 (h : Below w.heap.size w w1) => (hl.below h (Nat.le_refl _)).wide (Nat.le_refl _) h.size)
  have HN := hid hl.1
  have hn := hl.2.1
  obtain ⟨e1, e2, e3⟩ := hr
  have E1 := hid e1; clear e1
  have E3 := hid e3; clear e3
  clear hl
  by_cases h1 : 1 ≤ n
  case neg =>
    have HH := hid (show modelOk l r = false by rw [modelOk, ← HN.out, inB_no.2 (by omega), Bool.false_and])
    go_enter Try.func68, Try.ntmps68
    go_wp2_with fail
    refine (modelSize_any _ _ _ _ _ _ _).mono ?_
    rintro e w1 ⟨rfl, hb1⟩
    have HB1 := HBA.out _ _ hb1
    go_wp2_with fail
    go_ret
    exact ⟨ret_bool HH.out.symm, HB1⟩
  by_cases h2 : n ≤ 6
  case neg =>
    have HH := hid (show modelOk l r = false by rw [modelOk, ← HN.out, inB_no.2 (by omega), Bool.false_and])
    go_enter Try.func68, Try.ntmps68
    go_wp2_with fail
    refine (modelSize_any _ _ _ _ _ _ _).mono ?_
    rintro e w1 ⟨rfl, hb1⟩
    have HB1 := HBA.out _ _ hb1
    go_wp2_with fail
    go_ret
    exact ⟨ret_bool HH.out.symm, HB1⟩
  have hin := inB_yes.2 (⟨by omega, by omega⟩ : (1 : Int) ≤ n ∧ (n : Int) ≤ 6)
  have HIN := hid hin; clear hin
  by_cases h3 : m = n
  case neg =>
    have h3' : ((m : Int) != (n : Int)) = true := by simp; omega
    have HH := hid (show modelOk l r = false by rw [modelOk, ← HN.out, ← E1.out]; simp [h3])
    have H3 := hid h3; clear h3
    go_enter Try.func68, Try.ntmps68
    go_wp2_with fail
    refine (modelSize_any _ _ _ _ _ _ _).mono ?_
    rintro e w1 ⟨rfl, hb1⟩
    have HB1 := hid (HBA.out _ _ hb1)
    obtain ⟨hc, hf⟩ := bcell hb1
    go_wp2_with fail
    go_ret
    exact ⟨ret_bool HH.out.symm, HB1.out⟩
  subst h3
  by_cases h2 : weightsOk l m = true
  case neg =>
    have h2' : weightsOk l m = false := by simpa using h2
    have HH := hid (show modelOk l r = false by rw [modelOk, ← HN.out, h2', Bool.false_and, Bool.and_false])
    clear h2
    go_enter Try.func68, Try.ntmps68
    go_wp2_with fail
    refine (modelSize_any _ _ _ _ _ _ _).mono ?_
    rintro e w1 ⟨rfl, hb1⟩
    have HB1 := hid (HBA.out _ _ hb1)
    obtain ⟨hc, hf⟩ := bcell hb1
    go_wp2_with fail
    refine (weightsValid_any _ _ _ _ _ _ _ (HL.out _ HB1.out)).mono ?_
    rintro e w' ⟨rfl, rfl⟩
    rw [h2']
    go_wp2_with fail
    go_ret
    exact ⟨ret_bool HH.out.symm, HB1.out⟩
  have HH := hid (show modelOk l r = (r.drop 0).all (weightsOk · m) by rw [modelOk, ← HN.out, HIN.out, h2, ← E1.out]; simp)
  go_enter Try.func68, Try.ntmps68
  go_wp2_with fail
  refine (modelSize_any _ _ _ _ _ _ _).mono ?_
  rintro e w1 ⟨rfl, hb1⟩
  have HB1 := hid (HBA.out _ _ hb1)
  obtain ⟨hc, hf⟩ := bcell hb1
  go_wp2_with fail
  refine (weightsValid_any _ _ _ _ _ _ _ (HL.out _ HB1.out)).mono ?_
  rintro e w' ⟨rfl, rfl⟩
  rw [h2]
  clear h2
  go_wp2_with fail
  clear hc hf hb1
  go_loop [31] (fun i => ∃ k : Nat, k ≤ m ∧ i = .int .i64 k ∧ modelOk l r = (r.drop k).all (weightsOk · m)) (fun i => m - (intOf i).toNat)
  case atStart => exact ⟨0, Nat.zero_le _, rfl, HH.out⟩
  case round =>
    obtain ⟨k, hk, rfl, hr⟩ := hrel
    have HR := hid hr; clear hr HH
    by_cases hlt : k < m
    · obtain ⟨b, off, rfl, _, hbb, hcx⟩ := E3.out (by omega)
      obtain ⟨A', c', cx0, _, hrow⟩ := hcx.row hlt
      have cx := (HB1.out.cell (p := ⟨b, off + k, none⟩) hbb).trans cx0
      have HRow := hid ((hrow.below HB1.out (Nat.le_refl _)).wide (Nat.le_refl _) HB1.out.size)
      have hd := hid (drop_gt (l := r) (by rw [← E1.out]; exact hlt))
      clear hcx hrow cx0
      by_cases hp : weightsOk (gt r k) m = true
      · go_wp2_with (go_at_call 83; refine (weightsValid_any _ _ _ _ _ _ _ HRow.out).mono ?_; rintro e w' ⟨rfl, rfl⟩)
        go_round
        case rel => exact ⟨k + 1, by omega, by go_num, by rw [HR.out, hd.out, List.all_cons, hp, Bool.true_and]⟩
        case measure => simp [intOf]; omega
      · have hp' : weightsOk (gt r k) m = false := by simpa using hp
        clear hp
        go_wp2_with (go_at_call 83; refine (weightsValid_any _ _ _ _ _ _ _ HRow.out).mono ?_; rintro e w' ⟨rfl, rfl⟩)
        go_ret
        exact ⟨ret_bool (by rw [HR.out, hd.out, List.all_cons, hp', Bool.false_and]), HB1.out⟩
    · obtain rfl : k = m := by omega
      go_wp2
      go_ret
      exact ⟨ret_bool (by rw [HR.out, List.drop_eq_nil_of_le (by rw [E1.out]; omega)]; rfl), HB1.out⟩
end Go.Proofs.Ytfjoininagdlcaa
