/- The law FnExactLineLength returns true for all arguments that can be read. -/
import Derived.Test.YtigemahbopligaaLine3
import Derived.Deep.RegionHeld3
namespace Go.Proofs.Ytigemahbopligaa
open Go.RowKit
set_option maxRecDepth 100000 in
set_option maxHeartbeats 4000000 in
theorem lawExactLineLength (A0 : Option Addr) (n0 c0 : Nat) (l0 : List WrT) (w : World)
    (h0 : Rd writtenS 0 w.heap.size w A0 n0 l0) :
    Calls Try.prog 6 #[.slice A0 n0 c0] w fun e w' => e = .returned (.bool true) ∧ Below w.heap.size w w' := by
  have L0 := hid h0
  have HN0 := hid h0.1
  have h63_0 := h0.2.1
  clear h0
  have BW0 := hid (Below.refl w.heap.size w)
  obtain ⟨V, hV⟩ : ∃ V, lineV l0 = V := ⟨_, rfl⟩
  have HV := hid hV
  clear hV
  go_enter Try.func6, Try.ntmps6
  go_wp2_with fail
  refine (szWrittenS_any _ _ _ _ _ _ _ (L0.out.bl BW0.out) (by omega) (by omega)).mono ?_
  rintro e w1 ⟨rfl, hb⟩
  have B_1 := hid (btr BW0.out hb)
  have hz_1 := hb.size
  clear hb
  obtain ⟨s0, es0⟩ : ∃ s, szW l0 1048576 = s := ⟨_, rfl⟩
  have su0 := szW_ub (l := l0) (left := 1048576) (by omega)
  rw [es0] at su0 ⊢
  have ES0 := hid es0
  clear es0
  by_cases sn0 : s0 < 0
  case pos =>
    go_wp2_with fail
    go_ret
    exact ⟨rfl, B_1.out⟩
  case neg =>
  obtain ⟨t1, t2⟩ := szW_len (l := l0) (left := 1048576) (by omega) (by have := ES0.out; omega)
  have hn0 : n0 ≤ 1048576 := by have := HN0.out; omega
  have S0 := hid (show ∀ b ∈ l0, b.1.length ≤ 1048576 from fun b hb => by have := t2 b hb; omega)
  clear t1 t2
  go_wp2_with fail
  refine (toWrittenS_any _ _ _ _ _ _ (L0.out.bl B_1.out) hn0 S0.out).mono ?_
  rintro e w2 ⟨gs0, rfl, y1, hb⟩
  have B_2 := hid (btr B_1.out hb)
  have hz_2 := hb.size
  have Xs0 := hid (y1.wide (lo' := 0) (Nat.zero_le _) (Nat.le_refl _))
  clear hb y1
  go_wp2_with fail
  refine (specLineLength_any _ _ _ _ _ _ (Xs0.out)).mono ?_
  intro e w3 hres
  rw [HV.out] at hres
  obtain ⟨rfl, hb⟩ := hres
  have B_3 := hid (btr B_2.out hb)
  have hz_3 := hb.size
  have Xs0_3 := hid (Xs0.out.bl hb)
  clear hb
  go_wp2_with fail
  refine (toWrittenS_any _ _ _ _ _ _ (L0.out.bl B_3.out) hn0 S0.out).mono ?_
  rintro e w4 ⟨g0, rfl, y1, hb⟩
  have B_4 := hid (btr B_3.out hb)
  have hz_4 := hb.size
  have G0 := hid (y1.wide (lo' := 0) (Nat.zero_le _) (Nat.le_refl _))
  clear hb y1
  go_wp2_with fail
  refine (implLineLength_any _ _ _ _ _ _ (G0.out)).mono ?_
  intro e w5 hres
  rw [HV.out] at hres
  obtain ⟨rfl, hb⟩ := hres
  have B_5 := hid (btr B_4.out hb)
  have hz_5 := hb.size
  have G0_5 := hid (G0.out.bl hb)
  clear hb
  have hvv : (V != V) = false := by simp
  go_wp2_with fail
  refine (toWrittenS_any _ _ _ _ _ _ (L0.out.bl B_5.out) hn0 S0.out).mono ?_
  rintro e w6 ⟨gz0, rfl, y1, hb⟩
  have B_6 := hid (btr B_5.out hb)
  have hz_6 := hb.size
  have G0_6 := hid (G0_5.out.bl hb)
  have Z0 := hid y1
  clear hb y1
  go_wp2_with fail
  refine (eqWrittenS_any _ _ _ _ _ _ _ _ _ _ _ (G0_6.out) Z0.out).mono ?_
  rintro e w7 ⟨rfl, hb⟩
  rw [eqD_self]
  have B_7 := hid (btr B_6.out hb)
  have hz_7 := hb.size
  have G0_7 := hid (G0_6.out.bl hb)
  have Z0_7 := hid (Z0.out.bl hb)
  clear hb
  go_wp2_with fail
  go_ret
  exact ⟨rfl, B_7.out⟩
end Go.Proofs.Ytigemahbopligaa
