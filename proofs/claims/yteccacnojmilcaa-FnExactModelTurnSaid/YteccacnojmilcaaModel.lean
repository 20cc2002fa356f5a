/- Models: the laws' helpers on them, and what the program's and the reference's ModelValid return. -/
import Derived.Test.YteccacnojmilcaaDigits
namespace Go.Proofs.Yteccacnojmilcaa
open Go.RowKit

def szModelN (l : List Int) (m : List (List Int)) (left : Int) : Int := if szI l.length left < 0 then -1 else if szRows m (szI l.length left) < 0 then -1 else szRows m (szI l.length left)
def modelOk (l : List Int) (m : List (List Int)) : Bool := inB l.length 1 6 && (weightsOk l l.length && (decide (m.length = l.length) && m.all (weightsOk · l.length)))

set_option maxHeartbeats 400000 in
theorem szModel_any (A B : Option Addr) (n c m e lo : Nat) (l : List Int) (r : List (List Int)) (left : Int) (w : World) (hl : Rd intS lo w.heap.size w A n l) (hr : Rd (sliceS intS) lo w.heap.size w B m r) (h0 : 0 ≤ left) (h1 : left ≤ 1048576) :
    Calls Try.prog 21 #[.agg #[.slice A n c, .slice B m e], .int .i64 left] w fun e w' => e = .returned (.int .i64 (szModelN l r left)) ∧ Below w.heap.size w w' := by
  have hn := hl.2.1
  have HN := hid hl.1
  have HR := hid hr
  clear hl hr
  have hle : szI n left ≤ left := by unfold szI; split <;> omega
  by_cases hs : szI n left < 0
  · have HH := hid (show szModelN l r left = -1 by rw [szModelN, ← HN.out, if_pos hs])
    go_enter Try.func21, Try.ntmps21
    go_wp2_with fail
    refine (szIntS_any _ _ _ _ _ hn h0 h1).mono ?_
    rintro e w' ⟨rfl, rfl⟩
    go_wp2_with fail
    go_ret
    exact ⟨ret_int HH.out.symm, (Below.refl _ _).alloc (Nat.le_refl _) _⟩
  · go_enter Try.func21, Try.ntmps21
    go_wp2_with fail
    refine (szIntS_any _ _ _ _ _ hn h0 h1).mono ?_
    rintro e w' ⟨rfl, rfl⟩
    go_wp2_with fail
    refine (szIntSS_any _ _ _ lo _ _ _ ((HR.out.below ((Below.refl w.heap.size w).alloc (Nat.le_refl _) _) (Nat.le_refl _)).wide (Nat.le_refl _) (by simp)) (by omega) (by omega)).mono ?_
    rintro e w' ⟨rfl, rfl⟩
    by_cases hs2 : szRows r (szI n left) < 0
    · go_wp2_with fail
      go_ret
      exact ⟨ret_int (by rw [szModelN, ← HN.out, if_neg (by omega), if_pos hs2]), (Below.refl _ _).alloc (Nat.le_refl _) _⟩
    · go_wp2_with fail
      go_ret
      exact ⟨ret_int (by rw [szModelN, ← HN.out, if_neg (by omega), if_neg (by omega)]), (Below.refl _ _).alloc (Nat.le_refl _) _⟩
set_option maxHeartbeats 400000 in
theorem modelSize_any (A B : Option Addr) (n c m e : Nat) (w : World) :
    Calls Try.prog 48 #[.agg #[.slice A n c, .slice B m e]] w fun e w' => e = .returned (.int .i64 n) ∧ Below w.heap.size w w' := by
  go_enter Try.func48, Try.ntmps48
  go_wp2
  go_ret
  exact ⟨rfl, (Below.refl _ _).alloc (Nat.le_refl _) _⟩
set_option maxHeartbeats 1000000 in
theorem specModelValid_any (A B : Option Addr) (n c m e lo : Nat) (l : List Int) (r : List (List Int)) (w : World) (hl : Rd intS lo w.heap.size w A n l) (hr : Rd (sliceS intS) lo w.heap.size w B m r) :
    Calls Try.prog 45 #[.agg #[.slice A n c, .slice B m e]] w fun e w' => e = .returned (.bool (modelOk l r)) ∧ Below w.heap.size w w' := by
  have hba : ∀ o : Obj, Below w.heap.size w (w.alloc o) := fun o => (Below.refl _ _).alloc (Nat.le_refl _) _
  have HL := hid (fun o => ((hl.below (hba o) (Nat.le_refl _)).wide (hi' := (w.alloc o).heap.size) (Nat.le_refl _) (by simp)))
  have HBA := hid hba; clear hba
  have HN := hid hl.1
  have hn := hl.2.1
  obtain ⟨e1, e2, e3⟩ := hr
  have E1 := hid e1; clear e1
  have E3 := hid e3; clear e3
  clear hl
  by_cases h1 : inB n 1 6 = true
  case neg =>
    have h1' : inB n 1 6 = false := by simpa using h1
    have HH := hid (show modelOk l r = false by rw [modelOk, ← HN.out, h1', Bool.false_and])
    clear h1
    go_enter Try.func45, Try.ntmps45
    go_wp2_with (go_at_call 43; refine (l6In_any _ _ _ _).mono ?_; rintro e w' ⟨rfl, rfl⟩)
    go_ret
    exact ⟨ret_bool HH.out.symm, HBA.out _⟩
  by_cases h2 : weightsOk l n = true
  case neg =>
    have h2' : weightsOk l n = false := by simpa using h2
    have HH := hid (show modelOk l r = false by rw [modelOk, ← HN.out, h2', Bool.false_and, Bool.and_false])
    clear h2
    go_enter Try.func45, Try.ntmps45
    go_wp2_with (first | (go_at_call 43; refine (l6In_any _ _ _ _).mono ?_; rintro e w' ⟨rfl, rfl⟩) | (go_at_call 54; refine (l5Weights_any _ _ _ _ _ _ _ (HL.out _)).mono ?_; rintro e w' ⟨rfl, rfl⟩))
    go_ret
    exact ⟨ret_bool HH.out.symm, HBA.out _⟩
  by_cases h3 : m = n
  case neg =>
    have h3' : ((m : Int) != (n : Int)) = true := by simp; omega
    have HH := hid (show modelOk l r = false by rw [modelOk, ← HN.out, ← E1.out]; simp [h3])
    have H3 := hid h3; clear h3
    go_enter Try.func45, Try.ntmps45
    go_wp2_with (first | (go_at_call 43; refine (l6In_any _ _ _ _).mono ?_; rintro e w' ⟨rfl, rfl⟩) | (go_at_call 54; refine (l5Weights_any _ _ _ _ _ _ _ (HL.out _)).mono ?_; rintro e w' ⟨rfl, rfl⟩))
    go_ret
    exact ⟨ret_bool HH.out.symm, HBA.out _⟩
  subst h3
  have HH := hid (show modelOk l r = (r.drop 0).all (weightsOk · m) by rw [modelOk, ← HN.out, h1, h2, ← E1.out]; simp)
  go_enter Try.func45, Try.ntmps45
  go_wp2_with (first | (go_at_call 43; refine (l6In_any _ _ _ _).mono ?_; rintro e w' ⟨rfl, rfl⟩) | (go_at_call 54; refine (l5Weights_any _ _ _ _ _ _ _ (HL.out _)).mono ?_; rintro e w' ⟨rfl, rfl⟩))
  clear h1 h2
  go_loop [4] (fun i => ∃ k : Nat, k ≤ m ∧ i = .int .i64 k ∧ modelOk l r = (r.drop k).all (weightsOk · m)) (fun i => m - (intOf i).toNat)
  case atStart => exact ⟨0, Nat.zero_le _, rfl, HH.out⟩
  case round =>
    obtain ⟨k, hk, rfl, hr⟩ := hrel
    have HR := hid hr; clear hr HH
    by_cases hlt : k < m
    · obtain ⟨b, off, rfl, _, hbb, hcx⟩ := E3.out (by omega)
      obtain ⟨A', c', cx, _, hrow⟩ := hcx.row hlt
      have HRow := hid (fun o => ((hrow.below (HBA.out o) (Nat.le_refl _)).wide (hi' := (w.alloc o).heap.size) (Nat.le_refl _) (by simp)))
      have hd := hid (drop_gt (l := r) (by rw [← E1.out]; exact hlt))
      have hne : b ≠ w.heap.size := by omega
      clear hcx hrow
      by_cases hp : weightsOk (gt r k) m = true
      · go_wp2_with (go_at_call 54; refine (l5Weights_any _ _ _ _ _ _ _ (HRow.out _)).mono ?_; rintro e w' ⟨rfl, rfl⟩)
        go_round
        case rel => exact ⟨k + 1, by omega, by go_num, by rw [HR.out, hd.out, List.all_cons, hp, Bool.true_and]⟩
        case measure => simp [intOf]; omega
      · have hp' : weightsOk (gt r k) m = false := by simpa using hp
        clear hp
        go_wp2_with (go_at_call 54; refine (l5Weights_any _ _ _ _ _ _ _ (HRow.out _)).mono ?_; rintro e w' ⟨rfl, rfl⟩)
        go_ret
        exact ⟨ret_bool (by rw [HR.out, hd.out, List.all_cons, hp', Bool.false_and]), HBA.out _⟩
    · obtain rfl : k = m := by omega
      go_wp2
      go_ret
      exact ⟨ret_bool (by rw [HR.out, List.drop_eq_nil_of_le (by rw [E1.out]; omega)]; rfl), HBA.out _⟩
set_option maxHeartbeats 1000000 in
theorem implModelValid_any (A B : Option Addr) (n c m e lo : Nat) (l : List Int) (r : List (List Int)) (w : World) (hl : Rd intS lo w.heap.size w A n l) (hr : Rd (sliceS intS) lo w.heap.size w B m r) :
    Calls Try.prog 47 #[.agg #[.slice A n c, .slice B m e]] w fun e w' => e = .returned (.bool (modelOk l r)) ∧ Below w.heap.size w w' := by
  have hba : ∀ (o : Obj) (w1 : World), Below (w.alloc o).heap.size (w.alloc o) w1 → Below w.heap.size w w1 := fun o w1 h => ((Below.refl _ _).alloc (Nat.le_refl _) _).trans (h.mono (by simp))
  have HBA := hid hba; clear hba
  have HL := hid (fun w1 (h : Below w.heap.size w w1) => (hl.below h (Nat.le_refl _)).wide (Nat.le_refl _) h.size)
  have HN := hid hl.1
  have hn := hl.2.1
  obtain ⟨e1, e2, e3⟩ := hr
  have E1 := hid e1; clear e1
  have E3 := hid e3; clear e3
  clear hl
  by_cases h1 : 1 ≤ n
  case neg =>
    have HH := hid (show modelOk l r = false by rw [modelOk, ← HN.out, inB_no.2 (by omega), Bool.false_and])
    go_enter Try.func47, Try.ntmps47
    go_wp2_with fail
    refine (modelSize_any _ _ _ _ _ _ _).mono ?_
    rintro e w1 ⟨rfl, hb1⟩
    have HB1 := HBA.out _ _ hb1
    go_wp2_with fail
    go_ret
    exact ⟨ret_bool HH.out.symm, HB1⟩
  by_cases h2 : n ≤ 6
  case neg =>
    have HH := hid (show modelOk l r = false by rw [modelOk, ← HN.out, inB_no.2 (by omega), Bool.false_and])
    go_enter Try.func47, Try.ntmps47
    go_wp2_with fail
    refine (modelSize_any _ _ _ _ _ _ _).mono ?_
    rintro e w1 ⟨rfl, hb1⟩
    have HB1 := HBA.out _ _ hb1
    go_wp2_with fail
    go_ret
    exact ⟨ret_bool HH.out.symm, HB1⟩
  have hin := inB_yes.2 (⟨by omega, by omega⟩ : (1 : Int) ≤ n ∧ (n : Int) ≤ 6)
  have HIN := hid hin; clear hin
  by_cases h3 : m = n
  case neg =>
    have h3' : ((m : Int) != (n : Int)) = true := by simp; omega
    have HH := hid (show modelOk l r = false by rw [modelOk, ← HN.out, ← E1.out]; simp [h3])
    have H3 := hid h3; clear h3
    go_enter Try.func47, Try.ntmps47
    go_wp2_with fail
    refine (modelSize_any _ _ _ _ _ _ _).mono ?_
    rintro e w1 ⟨rfl, hb1⟩
    have HB1 := hid (HBA.out _ _ hb1)
    obtain ⟨hc, hf⟩ := bcell hb1
    go_wp2_with fail
    go_ret
    exact ⟨ret_bool HH.out.symm, HB1.out⟩
  subst h3
  by_cases h2 : weightsOk l m = true
  case neg =>
    have h2' : weightsOk l m = false := by simpa using h2
    have HH := hid (show modelOk l r = false by rw [modelOk, ← HN.out, h2', Bool.false_and, Bool.and_false])
    clear h2
    go_enter Try.func47, Try.ntmps47
    go_wp2_with fail
    refine (modelSize_any _ _ _ _ _ _ _).mono ?_
    rintro e w1 ⟨rfl, hb1⟩
    have HB1 := hid (HBA.out _ _ hb1)
    obtain ⟨hc, hf⟩ := bcell hb1
    go_wp2_with fail
    refine (weightsValid_any _ _ _ _ _ _ _ (HL.out _ HB1.out)).mono ?_
    rintro e w' ⟨rfl, rfl⟩
    rw [h2']
    go_wp2_with fail
    go_ret
    exact ⟨ret_bool HH.out.symm, HB1.out⟩
  have HH := hid (show modelOk l r = (r.drop 0).all (weightsOk · m) by rw [modelOk, ← HN.out, HIN.out, h2, ← E1.out]; simp)
  go_enter Try.func47, Try.ntmps47
  go_wp2_with fail
  refine (modelSize_any _ _ _ _ _ _ _).mono ?_
  rintro e w1 ⟨rfl, hb1⟩
  have HB1 := hid (HBA.out _ _ hb1)
  obtain ⟨hc, hf⟩ := bcell hb1
  go_wp2_with fail
  refine (weightsValid_any _ _ _ _ _ _ _ (HL.out _ HB1.out)).mono ?_
  rintro e w' ⟨rfl, rfl⟩
  rw [h2]
  clear h2
  go_wp2_with fail
  clear hc hf hb1
  go_loop [31] (fun i => ∃ k : Nat, k ≤ m ∧ i = .int .i64 k ∧ modelOk l r = (r.drop k).all (weightsOk · m)) (fun i => m - (intOf i).toNat)
  case atStart => exact ⟨0, Nat.zero_le _, rfl, HH.out⟩
  case round =>
    obtain ⟨k, hk, rfl, hr⟩ := hrel
    have HR := hid hr; clear hr HH
    by_cases hlt : k < m
    · obtain ⟨b, off, rfl, _, hbb, hcx⟩ := E3.out (by omega)
      obtain ⟨A', c', cx0, _, hrow⟩ := hcx.row hlt
      have cx := (HB1.out.cell (p := ⟨b, off + k, none⟩) hbb).trans cx0
      have HRow := hid ((hrow.below HB1.out (Nat.le_refl _)).wide (Nat.le_refl _) HB1.out.size)
      have hd := hid (drop_gt (l := r) (by rw [← E1.out]; exact hlt))
      clear hcx hrow cx0
      by_cases hp : weightsOk (gt r k) m = true
      · go_wp2_with (go_at_call 55; refine (weightsValid_any _ _ _ _ _ _ _ HRow.out).mono ?_; rintro e w' ⟨rfl, rfl⟩)
        go_round
        case rel => exact ⟨k + 1, by omega, by go_num, by rw [HR.out, hd.out, List.all_cons, hp, Bool.true_and]⟩
        case measure => simp [intOf]; omega
      · have hp' : weightsOk (gt r k) m = false := by simpa using hp
        clear hp
        go_wp2_with (go_at_call 55; refine (weightsValid_any _ _ _ _ _ _ _ HRow.out).mono ?_; rintro e w' ⟨rfl, rfl⟩)
        go_ret
        exact ⟨ret_bool (by rw [HR.out, hd.out, List.all_cons, hp', Bool.false_and]), HB1.out⟩
    · obtain rfl : k = m := by omega
      go_wp2
      go_ret
      exact ⟨ret_bool (by rw [HR.out, List.drop_eq_nil_of_le (by rw [E1.out]; omega)]; rfl), HB1.out⟩
set_option maxHeartbeats 1000000 in
theorem eqModel_any (A B A' B' : Option Addr) (n c m e n' c' m' e' lo lo' : Nat) (l l' : List Int) (r r' : List (List Int)) (w : World) (hl : Rd intS lo w.heap.size w A n l) (hr : Rd (sliceS intS) lo w.heap.size w B m r)
    (hl' : Rd intS lo' w.heap.size w A' n' l') (hr' : Rd (sliceS intS) lo' w.heap.size w B' m' r') :
    Calls Try.prog 25 #[.agg #[.slice A n c, .slice B m e], .agg #[.slice A' n' c', .slice B' m' e']] w fun e w' => e = .returned (.bool (eqD l l' && eqD r r')) ∧ Below w.heap.size w w' := by
  have hba : ∀ (o o' : Obj) (w1 : World), Below ((w.alloc o).alloc o').heap.size ((w.alloc o).alloc o') w1 → Below w.heap.size w w1 := fun o o' w1 h => (((Below.refl _ _).alloc (Nat.le_refl _) _).alloc (by simp) _).trans (h.mono (by simp <;> omega))
  have HBA := hid hba; clear hba
  have HL := hid (fun w1 (h : Below w.heap.size w w1) => And.intro ((hl.below h (Nat.le_refl _)).wide (Nat.le_refl _) h.size) ((hl'.below h (Nat.le_refl _)).wide (Nat.le_refl _) h.size))
  have HR := hid (fun w1 (h : Below w.heap.size w w1) => And.intro ((hr.below h (Nat.le_refl _)).wide (Nat.le_refl _) h.size) ((hr'.below h (Nat.le_refl _)).wide (Nat.le_refl _) h.size))
  clear hl hl' hr hr'
  go_enter Try.func25, Try.ntmps25
  go_wp2_with fail
  refine (eqIntS_any _ _ _ _ _ _ _ _ _ _ _ (HL.out _ (HBA.out _ _ _ (Below.refl _ _))).1 (HL.out _ (HBA.out _ _ _ (Below.refl _ _))).2).mono ?_
  rintro e w1 ⟨rfl, hb1⟩
  have HB1 := hid (HBA.out _ _ _ hb1)
  by_cases h1 : eqD l l' = true
  case neg =>
    have h1' : eqD l l' = false := by simpa using h1
    rw [h1']
    go_wp2_with fail
    go_ret
    exact ⟨ret_bool (by simp only [h1', Bool.false_and]), HB1.out⟩
  rw [h1]
  obtain ⟨hc, hf⟩ := bcell hb1
  go_wp2_with fail
  refine (eqIntSS_any _ _ _ _ _ _ _ _ _ _ _ (HR.out _ HB1.out).1 (HR.out _ HB1.out).2).mono ?_
  rintro e w2 ⟨rfl, hb2⟩
  by_cases h2 : eqD r r' = true
  case neg =>
    have h2' : eqD r r' = false := by simpa using h2
    rw [h2']
    go_wp2_with fail
    go_ret
    exact ⟨ret_bool (by simp only [h2', Bool.and_false]), HB1.out.trans (hb2.mono HB1.out.size)⟩
  rw [h2]
  go_wp2_with fail
  go_ret
  exact ⟨ret_bool (by simp only [h1, h2, Bool.true_and]), HB1.out.trans (hb2.mono HB1.out.size)⟩
set_option maxHeartbeats 1000000 in
theorem toModel_any (A B : Option Addr) (n c m e lo : Nat) (l : List Int) (r : List (List Int)) (w : World) (hl : Rd intS lo w.heap.size w A n l) (hr : Rd (sliceS intS) lo w.heap.size w B m r) (hn : n ≤ 1048576) (hm : m ≤ 1048576) (hs : ∀ x ∈ r, x.length ≤ 1048576) :
    Calls Try.prog 23 #[.agg #[.slice A n c, .slice B m e]] w fun e w' => ∃ g h, e = .returned (.agg #[.slice (some ⟨g, 0, none⟩) n n, .slice (some ⟨h, 0, none⟩) m m]) ∧ Rd intS w.heap.size w'.heap.size w' (some ⟨g, 0, none⟩) n l ∧ Rd (sliceS intS) w.heap.size w'.heap.size w' (some ⟨h, 0, none⟩) m r ∧ Below w.heap.size w w' := by
  have hba : ∀ (o o' o2 : Obj) (w1 : World), Below (((w.alloc o).alloc o').alloc o2).heap.size (((w.alloc o).alloc o').alloc o2) w1 → Below w.heap.size w w1 := fun o o' o2 w1 h => ((((Below.refl _ _).alloc (Nat.le_refl _) _).alloc (by simp) _).alloc (by simp <;> omega) _).trans (h.mono (by simp <;> omega))
  have HBA := hid hba; clear hba
  have HL := hid (fun w1 (h : Below w.heap.size w w1) => (hl.below h (Nat.le_refl _)).wide (Nat.le_refl _) h.size)
  have HR := hid (fun w1 (h : Below w.heap.size w w1) => (hr.below h (Nat.le_refl _)).wide (Nat.le_refl _) h.size)
  have HS := hid hs; clear hs
  clear hl hr
  go_enter Try.func23, Try.ntmps23
  go_wp2_with fail
  refine (toIntS_any _ _ _ _ _ _ (HL.out _ (HBA.out _ _ _ _ (Below.refl _ _))) hn).mono ?_
  rintro e w1 ⟨g, rfl, r1, hb1⟩
  have HB1 := hid (HBA.out _ _ _ _ hb1)
  obtain ⟨hc, hf⟩ := bcell hb1
  have hz1 : w.heap.size + 1 + 1 + 1 ≤ w1.heap.size := by have := hb1.size; simpa using this
  have hz2 : w.heap.size < w1.heap.size := by omega
  have hz3 : w.heap.size + 1 < w1.heap.size := by omega
  have hz4 : w.heap.size + 1 + 1 < w1.heap.size := by omega
  have R1 := hid r1; clear r1
  go_wp2_with fail
  refine (toIntSS_any _ _ _ _ _ _ (HR.out _ (HB1.out.setCell (by simp <;> omega) _)) hm HS.out).mono ?_
  rintro e w2 ⟨h, rfl, r2, hb2⟩
  have HB2 := hid hb2
  have R2 := hid r2; clear r2
  obtain ⟨hc2, hf2⟩ := bcell hb2
  clear hb1 hb2
  have hz5 : w1.heap.size ≤ w2.heap.size := by have := HB2.out.size; simpa using this
  go_wp2_with fail
  refine bodyPost_ret (v := .agg #[.slice (some ⟨g, 0, none⟩) n n, .slice (some ⟨h, 0, none⟩) m m]) (by simp [results, Try.results23, go_sem, hc2, hc, hz3, hz4]) rfl ?_
  clear hc hf hc2 hf2
  have hg1 : w.heap.size + 1 + 1 + 1 ≤ w1.heap.size := hz1
  have r1 := R1.out
  have b2 := HB2.out
  simp only [World.size_alloc, World.size_setCell] at r1 b2
  have r2 := R2.out
  simp only [World.size_setCell] at r2
  refine ⟨g, h, rfl, ?_, ?_, ?_⟩
  · refine ((r1.keep (w' := w2) fun b o _ q2 => (b2.cell (p := ⟨b, o, none⟩) q2).trans (World.cell?_setCell_other _ _ _ _ (by intro e; injection e with e _; omega))).keep fun b o q1 q2 => ?_).wide (by omega) (by simp only [World.size_setCell]; omega)
    rw [World.cell?_setCell_other _ _ _ _ (by intro e; injection e with e _; omega), World.cell?_setCell_other _ _ _ _ (by intro e; injection e with e _; omega), World.cell?_setCell_other _ _ _ _ (by intro e; injection e with e _; omega)]
  · refine (r2.keep fun b o q1 q2 => ?_).wide (by omega) (by simp only [World.size_setCell]; omega)
    rw [World.cell?_setCell_other _ _ _ _ (by intro e; injection e with e _; omega), World.cell?_setCell_other _ _ _ _ (by intro e; injection e with e _; omega), World.cell?_setCell_other _ _ _ _ (by intro e; injection e with e _; omega)]
  · exact ((((HB1.out.setCell (by simp <;> omega) _).trans (b2.mono (by omega))).setCell (by simp <;> omega) _).setCell (by simp <;> omega) _).setCell (by simp <;> omega) _
end Go.Proofs.Yteccacnojmilcaa
