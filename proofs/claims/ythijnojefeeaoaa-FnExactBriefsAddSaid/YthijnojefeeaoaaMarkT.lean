/- What markText returns. -/
import Derived.Test.YthijnojefeeaoaaStrs2
import Derived.Deep.LoopGhost
import Derived.Laws.BytesArg
namespace Go.Proofs.Ythijnojefeeaoaa
open Go.RowKit
attribute [local go_sem] Oper.semAt_some
/-- The digits of a number, ahead of a text. -/
def mtG (m : Nat) (out : ByteArray) : ByteArray := if m = 0 then out else mtG (m / 10) (strOfNums [48 + (m : Int) % 10] ++ out)
termination_by m
decreasing_by omega
theorem mtG_pos {m : Nat} (h : 0 < m) (out : ByteArray) : mtG m out = mtG (m / 10) (strOfNums [48 + (m : Int) % 10] ++ out) := by rw [mtG, if_neg (by omega)]
theorem mtG_zero (out : ByteArray) : mtG 0 out = out := by rw [mtG, if_pos rfl]
theorem mtG_size : ∀ (n m : Nat) (out : ByteArray), m ≤ n → (mtG m out).size ≤ out.size + m
  | _, 0, out, _ => by rw [mtG_zero]; omega
  | 0, m + 1, _, h => by omega
  | n + 1, m + 1, out, h => by
    rw [mtG_pos (by omega)]
    have h1 := mtG_size n ((m + 1) / 10) (strOfNums [48 + ((m + 1 : Nat) : Int) % 10] ++ out) (by omega)
    have h2 : (strOfNums [48 + ((m + 1 : Nat) : Int) % 10] ++ out).size = 1 + out.size := by rw [ByteArray.size_append, strOfNums_size]; rfl
    omega
/-- The text of a mark. -/
def mtV (k : Int) : ByteArray := if k ≤ 0 then ⟨#[109, 48]⟩ else (⟨#[109]⟩ : ByteArray) ++ mtG k.toNat ⟨#[]⟩
theorem mtV_size (k : Int) (h : k ≤ 1099511627776) : (mtV k).size ≤ 9223372036854775807 := by
  unfold mtV
  split
  · show 2 ≤ _
    omega
  · have := mtG_size k.toNat k.toNat ⟨#[]⟩ (Nat.le_refl _)
    rw [ByteArray.size_append]
    have h2 : (⟨#[109]⟩ : ByteArray).size = 1 := rfl
    have h3 : (⟨#[]⟩ : ByteArray).size = 0 := rfl
    omega
set_option maxRecDepth 100000 in
set_option maxHeartbeats 1000000 in
theorem markText_any (k0 : Int) (w : World) (hk0 : k0 ≤ 1099511627776) :
    Calls Try.prog 66 #[.int .i64 k0] w fun e w' => e = .returned (.string (mtV k0)) ∧ Below w.heap.size w w' := by
  by_cases h0 : k0 ≤ 0
  · have HV := hid (show mtV k0 = ⟨#[109, 48]⟩ by unfold mtV; rw [if_pos h0])
    go_enter Try.func66, Try.ntmps66
    go_wp2_with fail
    go_ret
    exact ⟨by rw [HV.out]; rfl, Below.refl _ _⟩
  · obtain ⟨k, rfl⟩ : ∃ k : Nat, k0 = k := ⟨k0.toNat, by omega⟩
    have HV := hid (show mtV k = (⟨#[109]⟩ : ByteArray) ++ mtG k ⟨#[]⟩ by unfold mtV; rw [if_neg h0, Int.toNat_natCast])
    have hconv : ∀ (w : World) (x : Int), (convert 22 9 (.slice (some ⟨w.heap.size, 0, none⟩) 1 1)).run Try.prog (w.alloc (.cells #[.int .u8 x] 5)) = .ok (.string (strOfNums [x])) (w.alloc (.cells #[.int .u8 x] 5)) := fun w x =>
      run_convert_bytes_arg (w.alloc (.cells #[.int .u8 x] 5)) 22 5 Try.underlying22 Try.underlying5 w.heap.size 0 1 1 [x] rfl (fun i hi => by
        obtain rfl : i = 0 := by omega
        rw [cell_of_row _ _ _ _ _ (0, 0) (heap_alloc_new w _)]
        rfl) 9 Try.underlying9
    have hz1 : (⟨#[109]⟩ : ByteArray).size = 1 := rfl
    go_enter Try.func66, Try.ntmps66
    go_wp2_with fail
    go_loopg [0, 3] k (fun gk a o wr => ∃ (m : Nat) (out : ByteArray), m = gk ∧ a = .int .i64 m ∧ o = .string out ∧ mtG m out = mtG k ⟨#[]⟩ ∧ out.size + m ≤ k ∧ Below w.heap.size w wr)
    case atStart => exact ⟨k, _, rfl, rfl, rfl, rfl, by show 0 + k ≤ k; omega, Below.refl _ _⟩
    case round =>
      obtain ⟨m, out, hm, rfl, rfl, hg, hs, hb⟩ := hrel
      have HM := hid hm
      have HG := hid hg
      have HB := hid hb
      clear hm hg hb
      by_cases hlt : 0 < m
      · have hli : (0 : Int) < (m : Int) := by omega
        have hsz : (strOfNums [48 + (m : Int) % 10]).size = 1 := strOfNums_size _
        have hcat : ¬ 9223372036854775807 < 1 + out.size := by omega
        have HST := hid (mtG_pos hlt out)
        go_wp2_with fail
        go_roundg (m / 10)
        case measure => have := HM.out; omega
        case rel =>
          refine ⟨m / 10, _, rfl, by simp, rfl, by rw [← HG.out, HST.out], ?_, HB.out.trans ((bnew _ _).mono HB.out.size)⟩
          rw [ByteArray.size_append, hsz]
          omega
      · obtain rfl : m = 0 := by omega
        have hg := HG.out
        rw [mtG_zero] at hg
        have HO := hid hg
        have hcat : ¬ 9223372036854775807 < 1 + out.size := by omega
        clear hg
        go_wp2_with fail
        go_ret
        exact ⟨by rw [HV.out, ← HO.out]; rfl, HB.out⟩
end Go.Proofs.Ythijnojefeeaoaa
