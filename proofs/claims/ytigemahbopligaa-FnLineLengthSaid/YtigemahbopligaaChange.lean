/- Outlines that are turned, mirrored, drawn backwards. -/
import Derived.Test.YtigemahbopligaaChain
import Derived.Test.YtigemahbopligaaOwn
import Derived.Deep.RegionHeld3
import Derived.IntWalk
namespace Go.Proofs.Ytigemahbopligaa
open Go.RowKit

/-- All directions times k, and m more. -/
def chg (t m : Int) (p : Int × Int) : Int × Int := ((t * p.1 + m) % 8, p.2)

theorem ret_slice {A : Option Addr} {n n' c : Nat} (h : n = n') : Ending.returned (.slice A n c) = .returned (.slice A n' c) := by rw [h]
set_option maxRecDepth 100000 in
set_option maxHeartbeats 1000000 in
theorem l1Change7_any (A : Option Addr) (n c lo : Nat) (o : List (Int × Int)) (w : World) (hx : Rd strokeS lo w.heap.size w A n o) (hok : ∀ p ∈ o, strokeOk p = true) (h8 : n ≤ 8) :
    Calls Try.prog 40 #[.slice A n c, .int .i64 7, .int .i64 0] w fun e w' => ∃ A' c', e = .returned (.slice A' n c') ∧ OwnR strokeS w.heap.size w' 64 (.slice A' n c') (o.map (chg 7 0)) ∧ Below w.heap.size w w' := by
  obtain ⟨i0, hi, hz0, hz1, hz2⟩ := info_parts (show (Try.prog.info? 64).map (fun i => (i.zero, i.size, i.bytes)) = some (some (.agg #[.int .i64 0, .int .i64 0]), 2, 16) by kernel_rfl)
  have HI := hid (And.intro hi (And.intro hz0 (And.intro hz1 hz2)))
  clear hi hz0 hz1 hz2
  obtain ⟨e1, e2, e3⟩ := hx
  have E1 := hid e1; clear e1
  have E3 := hid e3; clear e3
  have HK := hid hok; clear hok
  go_enter Try.func40, Try.ntmps40
  go_wp2_with fail
  go_loopw [7, 8] (fun out i wr => ∃ (k : Nat) (m : List (Int × Int)) (A' : Option Addr) (c' : Nat), k ≤ n ∧ i = .int .i64 k ∧ m = (o.take k).map (chg 7 0) ∧ m.length = k ∧ out = .slice A' m.length c' ∧ OwnR strokeS w.heap.size wr 64 (.slice A' m.length c') m ∧ Below w.heap.size w wr) (fun _ i _ => n - (intOf i).toNat)
  case atStart => exact ⟨0, [], _, _, Nat.zero_le _, rfl, by simp, rfl, rfl, OwnR.nil (Nat.le_refl _) _ rfl, bnew _ _⟩
  case round =>
    obtain ⟨k, m, A', c', hk, rfl, hm, hml, rfl, hO, hb⟩ := hrel
    have HM := hid hm; clear hm
    have HML := hid hml
    have hml1 : m.length ≤ 8 := by omega
    clear hml
    by_cases hlt : k < n
    · obtain ⟨b, off, rfl, _, hbb, hcx⟩ := E3.out (by omega)
      have cx := (hcx.stroke hlt).1
      have cy := (hcx.stroke hlt).2
      obtain ⟨q1, q2, q3, q4⟩ := strokeOk_yes.1 (HK.out _ (gt_mem (l := o) (by rw [← E1.out]; exact hlt)))
      have ht := hid (take_gt (l := o) (by rw [← E1.out]; exact hlt))
      have hki : (k : Int) < (n : Int) := by omega
      clear hcx
      have a1 : IntKind.i64.wrap (7 * (gt o k).1) = 7 * (gt o k).1 := IntWalk.i64_in _ (by omega)
      have a2 : (7 * (gt o k).1).tmod 8 = (7 * (gt o k).1) % 8 := Int.tmod_eq_emod_of_nonneg (by omega)
      have kx : ∀ w', Below w.heap.size w w' → w'.cell? ⟨b, off + k * 2, none⟩ = some (.int .i64 (gt o k).1) := fun w' h => bcl h cx
      have ky : ∀ w', Below w.heap.size w w' → w'.cell? ⟨b, off + k * 2 + 1, none⟩ = some (.int .i64 (gt o k).2) := fun w' h => bcl h cy
      clear cx cy
      go_wp2_with fail
      go_region_held3 (fun w' => Below w.heap.size w w') (first | assumption | exact hb.drew | exact bal hb.drew _ | exact (bal hb _).drew)
        (first | (refine step_append_R rfl (.tmp 16) (.tmp 33) _ rfl strokeS Try.underlying24 HI.out rfl (by decide) rfl (hO.bl (by first | exact bal (bdr _) _ | exact btr (bnew _ _) (bdr _))) (y := (7 * (gt o k).1 % 8, (gt o k).2)) rfl (heap_alloc_new _ _) rfl (by simp [Value.oneCell']) ⟨rfl, rfl⟩ (by omega) (by omega) (Nat.le_trans hb.size (by simp)) ?_; intro A2 c2 w2 hO2 hb2; have hb3 : Below w.heap.size w w2 := (bal hb.drew _).trans hb2))
      go_wp2
      go_roundw
      case rel => exact ⟨k + 1, m ++ [(7 * (gt o k).1 % 8, (gt o k).2)], A2, c2, by omega, by go_num, by rw [ht.out, List.map_append, ← HM.out]; simp [chg], by rw [List.length_append, HML.out]; rfl, by rw [List.length_append]; rfl, by rw [List.length_append]; exact hO2, hb3⟩
      case measure => simp [intOf]; omega
    · obtain rfl : k = n := by omega
      have HM2 := hid (show m = o.map (chg 7 0) by rw [HM.out, List.take_of_length_le (by rw [E1.out]; omega)])
      go_wp2
      go_ret
      refine ⟨A', c', ret_slice HML.out, ?_, hb⟩
      rw [← HM2.out, ← HML.out]
      exact hO
set_option maxRecDepth 100000 in
set_option maxHeartbeats 1000000 in
theorem l1Change1_any (A : Option Addr) (n c lo : Nat) (o : List (Int × Int)) (w : World) (hx : Rd strokeS lo w.heap.size w A n o) (hok : ∀ p ∈ o, strokeOk p = true) (h8 : n ≤ 8) (j : Int) (hj0 : 0 ≤ j) (hj7 : j ≤ 7) :
    Calls Try.prog 40 #[.slice A n c, .int .i64 1, .int .i64 j] w fun e w' => ∃ A' c', e = .returned (.slice A' n c') ∧ OwnR strokeS w.heap.size w' 64 (.slice A' n c') (o.map (chg 1 j)) ∧ Below w.heap.size w w' := by
  obtain ⟨i0, hi, hz0, hz1, hz2⟩ := info_parts (show (Try.prog.info? 64).map (fun i => (i.zero, i.size, i.bytes)) = some (some (.agg #[.int .i64 0, .int .i64 0]), 2, 16) by kernel_rfl)
  have HI := hid (And.intro hi (And.intro hz0 (And.intro hz1 hz2)))
  clear hi hz0 hz1 hz2
  obtain ⟨e1, e2, e3⟩ := hx
  have E1 := hid e1; clear e1
  have E3 := hid e3; clear e3
  have HK := hid hok; clear hok
  go_enter Try.func40, Try.ntmps40
  go_wp2_with fail
  go_loopw [7, 8] (fun out i wr => ∃ (k : Nat) (m : List (Int × Int)) (A' : Option Addr) (c' : Nat), k ≤ n ∧ i = .int .i64 k ∧ m = (o.take k).map (chg 1 j) ∧ m.length = k ∧ out = .slice A' m.length c' ∧ OwnR strokeS w.heap.size wr 64 (.slice A' m.length c') m ∧ Below w.heap.size w wr) (fun _ i _ => n - (intOf i).toNat)
  case atStart => exact ⟨0, [], _, _, Nat.zero_le _, rfl, by simp, rfl, rfl, OwnR.nil (Nat.le_refl _) _ rfl, bnew _ _⟩
  case round =>
    obtain ⟨k, m, A', c', hk, rfl, hm, hml, rfl, hO, hb⟩ := hrel
    have HM := hid hm; clear hm
    have HML := hid hml
    have hml1 : m.length ≤ 8 := by omega
    clear hml
    by_cases hlt : k < n
    · obtain ⟨b, off, rfl, _, hbb, hcx⟩ := E3.out (by omega)
      have cx := (hcx.stroke hlt).1
      have cy := (hcx.stroke hlt).2
      obtain ⟨q1, q2, q3, q4⟩ := strokeOk_yes.1 (HK.out _ (gt_mem (l := o) (by rw [← E1.out]; exact hlt)))
      have ht := hid (take_gt (l := o) (by rw [← E1.out]; exact hlt))
      have hki : (k : Int) < (n : Int) := by omega
      clear hcx
      have a1 : IntKind.i64.wrap (gt o k).1 = (gt o k).1 := IntWalk.i64_in _ (by omega)
      have a3 : IntKind.i64.wrap ((gt o k).1 + j) = (gt o k).1 + j := IntWalk.i64_in _ (by omega)
      have a2 : ((gt o k).1 + j).tmod 8 = ((gt o k).1 + j) % 8 := Int.tmod_eq_emod_of_nonneg (by omega)
      have kx : ∀ w', Below w.heap.size w w' → w'.cell? ⟨b, off + k * 2, none⟩ = some (.int .i64 (gt o k).1) := fun w' h => bcl h cx
      have ky : ∀ w', Below w.heap.size w w' → w'.cell? ⟨b, off + k * 2 + 1, none⟩ = some (.int .i64 (gt o k).2) := fun w' h => bcl h cy
      clear cx cy
      go_wp2_with fail
      go_region_held3 (fun w' => Below w.heap.size w w') (first | assumption | exact hb.drew | exact bal hb.drew _ | exact (bal hb _).drew)
        (first | (refine step_append_R rfl (.tmp 16) (.tmp 33) _ rfl strokeS Try.underlying24 HI.out rfl (by decide) rfl (hO.bl (by first | exact bal (bdr _) _ | exact btr (bnew _ _) (bdr _))) (y := (((gt o k).1 + j) % 8, (gt o k).2)) rfl (heap_alloc_new _ _) rfl (by simp [Value.oneCell']) ⟨rfl, rfl⟩ (by omega) (by omega) (Nat.le_trans hb.size (by simp)) ?_; intro A2 c2 w2 hO2 hb2; have hb3 : Below w.heap.size w w2 := (bal hb.drew _).trans hb2))
      go_wp2
      go_roundw
      case rel => exact ⟨k + 1, m ++ [(((gt o k).1 + j) % 8, (gt o k).2)], A2, c2, by omega, by go_num, by rw [ht.out, List.map_append, ← HM.out]; simp [chg], by rw [List.length_append, HML.out]; rfl, by rw [List.length_append]; rfl, by rw [List.length_append]; exact hO2, hb3⟩
      case measure => simp [intOf]; omega
    · obtain rfl : k = n := by omega
      have HM2 := hid (show m = o.map (chg 1 j) by rw [HM.out, List.take_of_length_le (by rw [E1.out]; omega)])
      go_wp2
      go_ret
      refine ⟨A', c', ret_slice HML.out, ?_, hb⟩
      rw [← HM2.out, ← HML.out]
      exact hO
end Go.Proofs.Ytigemahbopligaa
