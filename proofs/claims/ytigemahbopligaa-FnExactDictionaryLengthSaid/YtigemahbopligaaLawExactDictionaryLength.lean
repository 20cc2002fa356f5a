/- The law FnExactDictionaryLength returns true for all arguments that can be read. -/
import Derived.Test.YtigemahbopligaaDictL
import Derived.Deep.RegionHeld3
namespace Go.Proofs.Ytigemahbopligaa
open Go.RowKit
set_option maxRecDepth 100000 in
set_option maxHeartbeats 4000000 in
theorem lawExactDictionaryLength (A0 : Option Addr) (n0 c0 : Nat) (l0 : List SignT) (A1 : Option Addr) (n1 c1 : Nat) (l1 : List ByteArray) (w : World)
    (h0 : Rd signS 0 w.heap.size w A0 n0 l0) (h1 : Rd strS 0 w.heap.size w A1 n1 l1) :
    Calls Try.prog 9 #[.slice A0 n0 c0, .slice A1 n1 c1] w fun e w' => e = .returned (.bool true) ∧ Below w.heap.size w w' := by
  have L0 := hid h0
  have HN0 := hid h0.1
  have h63_0 := h0.2.1
  have L1 := hid h1
  have HN1 := hid h1.1
  have h63_1 := h1.2.1
  clear h0 h1
  have BW0 := hid (Below.refl w.heap.size w)
  obtain ⟨V, hV⟩ : ∃ V, dictV l0 l1 = V := ⟨_, rfl⟩
  have HV := hid hV
  clear hV
  go_enter Try.func9, Try.ntmps9
  go_wp2_with fail
  refine (szSignS_any _ _ _ _ _ _ _ (L0.out.bl BW0.out) (by omega) (by omega)).mono ?_
  rintro e w1 ⟨rfl, hb⟩
  have B_1 := hid (btr BW0.out hb)
  have hz_1 := hb.size
  clear hb
  obtain ⟨s0, es0⟩ : ∃ s, szSg l0 1048576 = s := ⟨_, rfl⟩
  have su0 := szSg_ub (bs := l0) (l := 1048576) (by omega)
  rw [es0] at su0 ⊢
  have ES0 := hid es0
  clear es0
  by_cases sn0 : s0 < 0
  case pos =>
    go_wp2_with fail
    go_ret
    exact ⟨rfl, B_1.out⟩
  case neg =>
  have t1 := szSg_len (bs := l0) (l := 1048576) (by omega) (by have := ES0.out; omega)
  have hn0 : n0 ≤ 1048576 := by have := HN0.out; omega
  clear t1
  go_wp2_with fail
  refine (szStringS_any _ _ _ _ _ _ _ (L1.out.bl B_1.out) (by omega) (by omega)).mono ?_
  rintro e w' ⟨rfl, rfl⟩
  obtain ⟨s1, es1⟩ : ∃ s, szStr l1 s0 = s := ⟨_, rfl⟩
  have su1 := szStr_ub (ws := l1) (l := s0) (by omega)
  rw [es1] at su1 ⊢
  have ES1 := hid es1
  clear es1
  by_cases sn1 : s1 < 0
  case pos =>
    go_wp2_with fail
    go_ret
    exact ⟨rfl, B_1.out⟩
  case neg =>
  have t1 := szStr_len (ws := l1) (l := s0) (by omega) (by have := ES1.out; omega)
  have hn1 : n1 ≤ 1048576 := by have := HN1.out; omega
  clear t1
  go_wp2_with fail
  refine (toSignS_any _ _ _ _ _ _ (L0.out.bl B_1.out) hn0).mono ?_
  rintro e w2 ⟨gs0, rfl, y1, hb⟩
  have B_2 := hid (btr B_1.out hb)
  have hz_2 := hb.size
  have Xs0 := hid (y1.wide (lo' := 0) (Nat.zero_le _) (Nat.le_refl _))
  clear hb y1
  go_wp2_with fail
  refine (toStringS_any _ _ _ _ _ _ (L1.out.bl B_2.out) hn1).mono ?_
  rintro e w3 ⟨gs1, rfl, y1, hb⟩
  have B_3 := hid (btr B_2.out hb)
  have hz_3 := hb.size
  have Xs0_3 := hid (Xs0.out.bl hb)
  have Xs1 := hid (y1.wide (lo' := 0) (Nat.zero_le _) (Nat.le_refl _))
  clear hb y1
  go_wp2_with fail
  refine (specDictionaryLength_any _ _ _ _ _ _ _ _ _ _ _ (Xs0_3.out) (Xs1.out)).mono ?_
  intro e w4 hres
  rw [HV.out] at hres
  obtain ⟨rfl, hb⟩ := hres
  have B_4 := hid (btr B_3.out hb)
  have hz_4 := hb.size
  have Xs0_4 := hid (Xs0_3.out.bl hb)
  have Xs1_4 := hid (Xs1.out.bl hb)
  clear hb
  go_wp2_with fail
  refine (toSignS_any _ _ _ _ _ _ (L0.out.bl B_4.out) hn0).mono ?_
  rintro e w5 ⟨g0, rfl, y1, hb⟩
  have B_5 := hid (btr B_4.out hb)
  have hz_5 := hb.size
  have G0 := hid (y1.wide (lo' := 0) (Nat.zero_le _) (Nat.le_refl _))
  clear hb y1
  go_wp2_with fail
  refine (toStringS_any _ _ _ _ _ _ (L1.out.bl B_5.out) hn1).mono ?_
  rintro e w6 ⟨g1, rfl, y1, hb⟩
  have B_6 := hid (btr B_5.out hb)
  have hz_6 := hb.size
  have G0_6 := hid (G0.out.bl hb)
  have G1 := hid (y1.wide (lo' := 0) (Nat.zero_le _) (Nat.le_refl _))
  clear hb y1
  go_wp2_with fail
  refine (implDictionaryLength_any _ _ _ _ _ _ _ _ _ _ _ (Nat.le_refl _) (G0_6.out) (G1.out)).mono ?_
  intro e w7 hres
  rw [HV.out] at hres
  obtain ⟨rfl, hb⟩ := hres
  have B_7 := hid (btr B_6.out hb)
  have hz_7 := hb.size
  have G0_7 := hid (G0_6.out.bl hb)
  have G1_7 := hid (G1.out.bl hb)
  clear hb
  have hvv : (V != V) = false := by simp
  go_wp2_with fail
  refine (toSignS_any _ _ _ _ _ _ (L0.out.bl B_7.out) hn0).mono ?_
  rintro e w8 ⟨gz0, rfl, y1, hb⟩
  have B_8 := hid (btr B_7.out hb)
  have hz_8 := hb.size
  have G0_8 := hid (G0_7.out.bl hb)
  have G1_8 := hid (G1_7.out.bl hb)
  have Z0 := hid y1
  clear hb y1
  go_wp2_with fail
  refine (eqSignS_any _ _ _ _ _ _ _ _ _ _ _ (G0_8.out) Z0.out).mono ?_
  rintro e w9 ⟨rfl, hb⟩
  rw [eqD_self]
  have B_9 := hid (btr B_8.out hb)
  have hz_9 := hb.size
  have G0_9 := hid (G0_8.out.bl hb)
  have G1_9 := hid (G1_8.out.bl hb)
  have Z0_9 := hid (Z0.out.bl hb)
  clear hb
  go_wp2_with fail
  refine (toStringS_any _ _ _ _ _ _ (L1.out.bl B_9.out) hn1).mono ?_
  rintro e w10 ⟨gz1, rfl, y1, hb⟩
  have B_10 := hid (btr B_9.out hb)
  have hz_10 := hb.size
  have G0_10 := hid (G0_9.out.bl hb)
  have G1_10 := hid (G1_9.out.bl hb)
  have Z1 := hid y1
  clear hb y1
  go_wp2_with fail
  refine (eqStringS_any _ _ _ _ _ _ _ _ _ _ _ (G1_10.out) Z1.out).mono ?_
  rintro e w11 ⟨rfl, hb⟩
  rw [eqD_self]
  have B_11 := hid (btr B_10.out hb)
  have hz_11 := hb.size
  have G0_11 := hid (G0_10.out.bl hb)
  have G1_11 := hid (G1_10.out.bl hb)
  have Z1_11 := hid (Z1.out.bl hb)
  clear hb
  go_wp2_with fail
  go_ret
  exact ⟨rfl, B_11.out⟩
end Go.Proofs.Ytigemahbopligaa
