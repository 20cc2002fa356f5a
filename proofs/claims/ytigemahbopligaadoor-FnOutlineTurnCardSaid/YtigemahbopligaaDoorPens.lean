/- Pens that are turned or mirrored; the strokes of a chain, each as a closure changes it. -/
import Derived.Test.YtigemahbopligaaDoorChange
namespace Go.Proofs.YtigemahbopligaaDoor
open Go.RowKit

def strokeN (x : Int) : Int × Int := (x / 3, x % 3 + 1)
def turnP (k x : Int) : Int := penN ((x / 3 + k) % 8, x % 3 + 1)
def mirP (x : Int) : Int := penN (-(x / 3) % 8, x % 3 + 1)
theorem turnP_ok {k x : Int} (h : 0 ≤ x) (h2 : x ≤ 23) : strokeOk ((x / 3 + k) % 8, x % 3 + 1) = true := by rw [strokeOk_yes]; simp only []; omega
theorem mirP_ok {x : Int} (h : 0 ≤ x) (h2 : x ≤ 23) : strokeOk (-(x / 3) % 8, x % 3 + 1) = true := by rw [strokeOk_yes]; simp only []; omega
set_option maxHeartbeats 400000 in
theorem stroke_any (x : Int) (h : 0 ≤ x) (h2 : x ≤ 23) (w : World) :
    Calls Tryd.prog 61 #[.int .i64 x] w fun e w' => e = .returned (.agg #[.int .i64 (strokeN x).1, .int .i64 (strokeN x).2]) ∧ Below w.heap.size w w' := by
  go_enter Tryd.func61, Tryd.ntmps61
  go_wp2_with (first | (go_at_call 59; refine (dir_any x h h2 _).mono ?_; rintro e w' ⟨rfl, rfl⟩) | (go_at_call 44; refine (size_any x h h2 _).mono ?_; rintro e w' ⟨rfl, rfl⟩))
  refine bodyPost_ret (v := .agg #[.int .i64 (x / 3), .int .i64 (x % 3 + 1)]) (by simp [results, Tryd.results61, go_sem]) rfl ⟨rfl, ?_⟩
  exact bnew _ _
set_option maxHeartbeats 400000 in
theorem turned_any (x k : Int) (h : 0 ≤ x) (h2 : x ≤ 23) (hk : 0 ≤ k) (hk7 : k ≤ 7) (w : World) :
    Calls Tryd.prog 48 #[.int .i64 x, .int .i64 k] w fun e w' => e = .returned (.int .i64 (turnP k x)) ∧ Below w.heap.size w w' := by
  go_enter Tryd.func48, Tryd.ntmps48
  go_wp2_with (first | (go_at_call 59; refine (dir_any x h h2 _).mono ?_; rintro e w' ⟨rfl, rfl⟩) | (go_at_call 44; refine (size_any x h h2 _).mono ?_; rintro e w' ⟨rfl, rfl⟩) | (go_at_call 57; refine (penOf_any _ _ _ (turnP_ok h h2)).mono ?_; rintro e w1 ⟨rfl, hb1⟩))
  go_ret
  exact ⟨rfl, hb1⟩
set_option maxHeartbeats 400000 in
theorem mirrored_any (x : Int) (h : 0 ≤ x) (h2 : x ≤ 23) (w : World) :
    Calls Tryd.prog 52 #[.int .i64 x] w fun e w' => e = .returned (.int .i64 (mirP x)) ∧ Below w.heap.size w w' := by
  go_enter Tryd.func52, Tryd.ntmps52
  go_wp2_with (first | (go_at_call 59; refine (dir_any x h h2 _).mono ?_; rintro e w' ⟨rfl, rfl⟩) | (go_at_call 44; refine (size_any x h h2 _).mono ?_; rintro e w' ⟨rfl, rfl⟩) | (go_at_call 57; refine (penOf_any _ _ _ (mirP_ok h h2)).mono ?_; rintro e w1 ⟨rfl, hb1⟩))
  go_ret
  exact ⟨rfl, hb1⟩
set_option maxHeartbeats 400000 in
theorem turn1_any (x k : Int) (b : Nat) (h : 0 ≤ x) (h2 : x ≤ 23) (hk : 0 ≤ k) (hk7 : k ≤ 7) (w : World) (hc : w.cell? ⟨b, 0, none⟩ = some (.int .i64 k)) :
    Calls Tryd.prog 47 #[.int .i64 x, .pointer (some ⟨b, 0, none⟩)] w fun e w' => e = .returned (.int .i64 (turnP k x)) ∧ Below w.heap.size w w' := by
  go_enter Tryd.func47, Tryd.ntmps47
  go_wp2_with (go_at_call 48; refine (turned_any x k h h2 hk hk7 _).mono ?_; rintro e w1 ⟨rfl, hb1⟩)
  go_ret
  exact ⟨rfl, hb1⟩
set_option maxHeartbeats 400000 in
theorem back1_any (x : Int) (h : 0 ≤ x) (h2 : x ≤ 23) (w : World) :
    Calls Tryd.prog 53 #[.int .i64 x] w fun e w' => e = .returned (.int .i64 (turnP 4 x)) ∧ Below w.heap.size w w' := by
  go_enter Tryd.func53, Tryd.ntmps53
  go_wp2_with (go_at_call 48; refine (turned_any x 4 h h2 (by omega) (by omega) _).mono ?_; rintro e w1 ⟨rfl, hb1⟩)
  go_ret
  exact ⟨rfl, hb1⟩

set_option maxHeartbeats 1000000 in
theorem strokesMir_any  (p : Option Addr) (l : List Int) (lo hi0 : Nat) (W : World) (hC : Chain lo W hi0 p l) (h8 : l.length ≤ 8) (hl : ∀ x ∈ l, 0 ≤ x ∧ x ≤ 23)  :
    Calls Tryd.prog 46 #[.pointer p, .func (.func 52) #[] #[]] W fun e w' => ∃ A' c', e = .returned (.slice A' l.length c') ∧ OwnR strokeS W.heap.size w' 46 (.slice A' l.length c') (l.map fun x => strokeN (mirP x)) ∧ Below W.heap.size W w' := by
  obtain ⟨i0, hi, hz0, hz1, hz2⟩ := info_parts (show (Tryd.prog.info? 46).map (fun i => (i.zero, i.size, i.bytes)) = some (some (.agg #[.int .i64 0, .int .i64 0]), 2, 16) by kernel_rfl)
  have HI := hid (And.intro hi (And.intro hz0 (And.intro hz1 hz2)))
  clear hi hz0 hz1 hz2
  have HL := hid hl; clear hl
  
  have H0 := hid hC; clear hC
  go_enter Tryd.func46, Tryd.ntmps46
  go_wp2_with fail
  go_loopw [0, 5] (fun q out wr => ∃ (r : List Int) (m : List (Int × Int)) (hi' : Nat) (a A' : Option Addr) (c' : Nat), q = .pointer a ∧ Chain lo W hi' a r ∧ (∀ x ∈ r, 0 ≤ x ∧ x ≤ 23) ∧ m ++ r.map (fun x => strokeN (mirP x)) = l.map (fun x => strokeN (mirP x)) ∧ m.length + r.length = l.length ∧ out = .slice A' m.length c' ∧ OwnR strokeS W.heap.size wr 46 (.slice A' m.length c') m ∧ Below W.heap.size W wr) (fun q _ _ => ptrNo q)
  case atStart => exact ⟨l, [], hi0, p, _, _, rfl, H0.out, HL.out, rfl, by simp, rfl, OwnR.nil (Nat.le_refl _) _ rfl, bnew _ _⟩
  case round =>
    obtain ⟨r, m, hi', a, A', c', rfl, hCr, hxb, hm, hln, rfl, hO, hb⟩ := hrel
    have HM := hid hm; clear hm
    have HLN := hid hln
    have hm8 : m.length + r.length ≤ 8 := by omega
    clear hln
    cases r with
    | nil =>
      obtain rfl : a = none := hCr
      go_wp2
      go_ret
      have e1 := HM.out
      rw [List.map_nil, List.append_nil] at e1
      have e2 := HLN.out
      rw [List.length_nil, Nat.add_zero] at e2
      refine ⟨A', c', ret_slice e2, ?_, hb⟩
      rw [← e1, ← e2]
      exact hO
    | cons x r =>
      obtain ⟨g, q', rfl, g1, g2, c0, c1, hC3⟩ := hCr
      obtain ⟨x1, x2⟩ := hxb x (List.mem_cons_self ..)
      have HX := hid (show ∀ y ∈ r, 0 ≤ y ∧ y ≤ 23 from fun y hy => hxb y (List.mem_cons_of_mem _ hy))
      have HC3 := hid hC3
      rw [List.length_cons] at hm8
      have k0 := bcl hb c0
      have K1 := hid c1
      clear hC3 hxb c0 c1
      have hf : 0 ≤ mirP x ∧ mirP x ≤ 23 := penN_bd (mirP_ok x1 x2)
      obtain ⟨f1, f2⟩ := hf
      go_wp2_with fail
      refine (mirrored_any x x1 x2 _).mono ?_
      rintro e w1 ⟨rfl, b1⟩
      go_wp2_with fail
      refine (stroke_any _ f1 f2 _).mono ?_
      rintro e w2 ⟨rfl, b2⟩
      have b12 := btr b1 b2
      have hbw := btr hb b12
      have hO2 := (hO.bl b12)
      clear k0 b1 b2
      go_wp2_with (at_builtin; refine wpList_append_R rfl (.tmp 13) (.tmp 21) _ rfl strokeS Tryd.underlying26 HI.out rfl (by decide) rfl (hO2.al _) (y := strokeN (mirP x)) rfl (heap_alloc_new _ _) rfl (by simp [Value.oneCell']) ⟨rfl, rfl⟩ (by omega) (by omega) (Nat.le_trans hbw.size (by simp)) ?_; intro A2 c2 w3 hO3 hb3; have hb4 : Below W.heap.size W w3 := (bal hbw _).trans hb3; have k1 := bcl hb4 K1.out)
      go_roundw
      case rel => exact ⟨r, m ++ [strokeN (mirP x)], _, q', A2, c2, rfl, HC3.out, HX.out, by rw [← HM.out]; simp, by rw [List.length_append, ← HLN.out]; simp; omega, by rw [List.length_append]; rfl, by rw [List.length_append]; exact hO3, hb4⟩
      case measure =>
        cases r with
        | nil => obtain rfl : q' = none := HC3.out; simp [ptrNo]
        | cons y r' => obtain ⟨g', _, rfl, _, g3, _⟩ := HC3.out; simp [ptrNo]; omega

set_option maxHeartbeats 1000000 in
theorem strokesTurn_any (j : Int) (kb : Nat) (hj0 : 0 ≤ j) (hj7 : j ≤ 7) (p : Option Addr) (l : List Int) (lo hi0 : Nat) (W : World) (hC : Chain lo W hi0 p l) (h8 : l.length ≤ 8) (hl : ∀ x ∈ l, 0 ≤ x ∧ x ≤ 23) (hc : W.cell? ⟨kb, 0, none⟩ = some (.int .i64 j)) :
    Calls Tryd.prog 46 #[.pointer p, .func (.func 47) #[] #[.pointer (some ⟨kb, 0, none⟩)]] W fun e w' => ∃ A' c', e = .returned (.slice A' l.length c') ∧ OwnR strokeS W.heap.size w' 46 (.slice A' l.length c') (l.map fun x => strokeN ((turnP j) x)) ∧ Below W.heap.size W w' := by
  obtain ⟨i0, hi, hz0, hz1, hz2⟩ := info_parts (show (Tryd.prog.info? 46).map (fun i => (i.zero, i.size, i.bytes)) = some (some (.agg #[.int .i64 0, .int .i64 0]), 2, 16) by kernel_rfl)
  have HI := hid (And.intro hi (And.intro hz0 (And.intro hz1 hz2)))
  clear hi hz0 hz1 hz2
  have HL := hid hl; clear hl
  have HC := hid hc; clear hc
  have H0 := hid hC; clear hC
  go_enter Tryd.func46, Tryd.ntmps46
  go_wp2_with fail
  go_loopw [0, 5] (fun q out wr => ∃ (r : List Int) (m : List (Int × Int)) (hi' : Nat) (a A' : Option Addr) (c' : Nat), q = .pointer a ∧ Chain lo W hi' a r ∧ (∀ x ∈ r, 0 ≤ x ∧ x ≤ 23) ∧ m ++ r.map (fun x => strokeN ((turnP j) x)) = l.map (fun x => strokeN ((turnP j) x)) ∧ m.length + r.length = l.length ∧ out = .slice A' m.length c' ∧ OwnR strokeS W.heap.size wr 46 (.slice A' m.length c') m ∧ Below W.heap.size W wr) (fun q _ _ => ptrNo q)
  case atStart => exact ⟨l, [], hi0, p, _, _, rfl, H0.out, HL.out, rfl, by simp, rfl, OwnR.nil (Nat.le_refl _) _ rfl, bnew _ _⟩
  case round =>
    obtain ⟨r, m, hi', a, A', c', rfl, hCr, hxb, hm, hln, rfl, hO, hb⟩ := hrel
    have HM := hid hm; clear hm
    have HLN := hid hln
    have hm8 : m.length + r.length ≤ 8 := by omega
    clear hln
    cases r with
    | nil =>
      obtain rfl : a = none := hCr
      go_wp2
      go_ret
      have e1 := HM.out
      rw [List.map_nil, List.append_nil] at e1
      have e2 := HLN.out
      rw [List.length_nil, Nat.add_zero] at e2
      refine ⟨A', c', ret_slice e2, ?_, hb⟩
      rw [← e1, ← e2]
      exact hO
    | cons x r =>
      obtain ⟨g, q', rfl, g1, g2, c0, c1, hC3⟩ := hCr
      obtain ⟨x1, x2⟩ := hxb x (List.mem_cons_self ..)
      have HX := hid (show ∀ y ∈ r, 0 ≤ y ∧ y ≤ 23 from fun y hy => hxb y (List.mem_cons_of_mem _ hy))
      have HC3 := hid hC3
      rw [List.length_cons] at hm8
      have k0 := bcl hb c0
      have K1 := hid c1
      clear hC3 hxb c0 c1
      have hf : 0 ≤ turnP j x ∧ turnP j x ≤ 23 := penN_bd (turnP_ok (k := j) x1 x2)
      obtain ⟨f1, f2⟩ := hf
      go_wp2_with fail
      refine (turn1_any x j kb x1 x2 hj0 hj7 _ (bcl hb HC.out)).mono ?_
      rintro e w1 ⟨rfl, b1⟩
      go_wp2_with fail
      refine (stroke_any _ f1 f2 _).mono ?_
      rintro e w2 ⟨rfl, b2⟩
      have b12 := btr b1 b2
      have hbw := btr hb b12
      have hO2 := (hO.bl b12)
      clear k0 b1 b2
      go_wp2_with (at_builtin; refine wpList_append_R rfl (.tmp 13) (.tmp 21) _ rfl strokeS Tryd.underlying26 HI.out rfl (by decide) rfl (hO2.al _) (y := strokeN ((turnP j) x)) rfl (heap_alloc_new _ _) rfl (by simp [Value.oneCell']) ⟨rfl, rfl⟩ (by omega) (by omega) (Nat.le_trans hbw.size (by simp)) ?_; intro A2 c2 w3 hO3 hb3; have hb4 : Below W.heap.size W w3 := (bal hbw _).trans hb3; have k1 := bcl hb4 K1.out)
      go_roundw
      case rel => exact ⟨r, m ++ [strokeN ((turnP j) x)], _, q', A2, c2, rfl, HC3.out, HX.out, by rw [← HM.out]; simp, by rw [List.length_append, ← HLN.out]; simp; omega, by rw [List.length_append]; rfl, by rw [List.length_append]; exact hO3, hb4⟩
      case measure =>
        cases r with
        | nil => obtain rfl : q' = none := HC3.out; simp [ptrNo]
        | cons y r' => obtain ⟨g', _, rfl, _, g3, _⟩ := HC3.out; simp [ptrNo]; omega

set_option maxHeartbeats 1000000 in
theorem strokesBack_any  (p : Option Addr) (l : List Int) (lo hi0 : Nat) (W : World) (hC : Chain lo W hi0 p l) (h8 : l.length ≤ 8) (hl : ∀ x ∈ l, 0 ≤ x ∧ x ≤ 23)  :
    Calls Tryd.prog 46 #[.pointer p, .func (.func 53) #[] #[]] W fun e w' => ∃ A' c', e = .returned (.slice A' l.length c') ∧ OwnR strokeS W.heap.size w' 46 (.slice A' l.length c') (l.map fun x => strokeN ((turnP 4) x)) ∧ Below W.heap.size W w' := by
  obtain ⟨i0, hi, hz0, hz1, hz2⟩ := info_parts (show (Tryd.prog.info? 46).map (fun i => (i.zero, i.size, i.bytes)) = some (some (.agg #[.int .i64 0, .int .i64 0]), 2, 16) by kernel_rfl)
  have HI := hid (And.intro hi (And.intro hz0 (And.intro hz1 hz2)))
  clear hi hz0 hz1 hz2
  have HL := hid hl; clear hl
  
  have H0 := hid hC; clear hC
  go_enter Tryd.func46, Tryd.ntmps46
  go_wp2_with fail
  go_loopw [0, 5] (fun q out wr => ∃ (r : List Int) (m : List (Int × Int)) (hi' : Nat) (a A' : Option Addr) (c' : Nat), q = .pointer a ∧ Chain lo W hi' a r ∧ (∀ x ∈ r, 0 ≤ x ∧ x ≤ 23) ∧ m ++ r.map (fun x => strokeN ((turnP 4) x)) = l.map (fun x => strokeN ((turnP 4) x)) ∧ m.length + r.length = l.length ∧ out = .slice A' m.length c' ∧ OwnR strokeS W.heap.size wr 46 (.slice A' m.length c') m ∧ Below W.heap.size W wr) (fun q _ _ => ptrNo q)
  case atStart => exact ⟨l, [], hi0, p, _, _, rfl, H0.out, HL.out, rfl, by simp, rfl, OwnR.nil (Nat.le_refl _) _ rfl, bnew _ _⟩
  case round =>
    obtain ⟨r, m, hi', a, A', c', rfl, hCr, hxb, hm, hln, rfl, hO, hb⟩ := hrel
    have HM := hid hm; clear hm
    have HLN := hid hln
    have hm8 : m.length + r.length ≤ 8 := by omega
    clear hln
    cases r with
    | nil =>
      obtain rfl : a = none := hCr
      go_wp2
      go_ret
      have e1 := HM.out
      rw [List.map_nil, List.append_nil] at e1
      have e2 := HLN.out
      rw [List.length_nil, Nat.add_zero] at e2
      refine ⟨A', c', ret_slice e2, ?_, hb⟩
      rw [← e1, ← e2]
      exact hO
    | cons x r =>
      obtain ⟨g, q', rfl, g1, g2, c0, c1, hC3⟩ := hCr
      obtain ⟨x1, x2⟩ := hxb x (List.mem_cons_self ..)
      have HX := hid (show ∀ y ∈ r, 0 ≤ y ∧ y ≤ 23 from fun y hy => hxb y (List.mem_cons_of_mem _ hy))
      have HC3 := hid hC3
      rw [List.length_cons] at hm8
      have k0 := bcl hb c0
      have K1 := hid c1
      clear hC3 hxb c0 c1
      have hf : 0 ≤ turnP 4 x ∧ turnP 4 x ≤ 23 := penN_bd (turnP_ok (k := 4) x1 x2)
      obtain ⟨f1, f2⟩ := hf
      go_wp2_with fail
      refine (back1_any x x1 x2 _).mono ?_
      rintro e w1 ⟨rfl, b1⟩
      go_wp2_with fail
      refine (stroke_any _ f1 f2 _).mono ?_
      rintro e w2 ⟨rfl, b2⟩
      have b12 := btr b1 b2
      have hbw := btr hb b12
      have hO2 := (hO.bl b12)
      clear k0 b1 b2
      go_wp2_with (at_builtin; refine wpList_append_R rfl (.tmp 13) (.tmp 21) _ rfl strokeS Tryd.underlying26 HI.out rfl (by decide) rfl (hO2.al _) (y := strokeN ((turnP 4) x)) rfl (heap_alloc_new _ _) rfl (by simp [Value.oneCell']) ⟨rfl, rfl⟩ (by omega) (by omega) (Nat.le_trans hbw.size (by simp)) ?_; intro A2 c2 w3 hO3 hb3; have hb4 : Below W.heap.size W w3 := (bal hbw _).trans hb3; have k1 := bcl hb4 K1.out)
      go_roundw
      case rel => exact ⟨r, m ++ [strokeN ((turnP 4) x)], _, q', A2, c2, rfl, HC3.out, HX.out, by rw [← HM.out]; simp, by rw [List.length_append, ← HLN.out]; simp; omega, by rw [List.length_append]; rfl, by rw [List.length_append]; exact hO3, hb4⟩
      case measure =>
        cases r with
        | nil => obtain rfl : q' = none := HC3.out; simp [ptrNo]
        | cons y r' => obtain ⟨g', _, rfl, _, g3, _⟩ := HC3.out; simp [ptrNo]; omega

end Go.Proofs.YtigemahbopligaaDoor
