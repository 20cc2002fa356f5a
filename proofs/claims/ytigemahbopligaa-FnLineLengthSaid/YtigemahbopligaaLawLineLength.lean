/- The law FnLineLength returns true for all arguments that can be read. -/
import Derived.Test.YtigemahbopligaaDrawE
import Derived.Test.YtigemahbopligaaLine3
import Derived.Test.YtigemahbopligaaLineLaw
import Derived.Deep.RegionHeld3
namespace Go.Proofs.Ytigemahbopligaa
open Go.RowKit
theorem own_form3 {α : Type} [Inhabited α] {S : Shape α} {base : Nat} {w : World} {e : TypeId} {A : Option Addr} {n c : Nat} {l : List α} (h : OwnR S base w e (.slice A n c) l) : (A = none ∧ n = 0 ∧ c = 0) ∨ ∃ g, A = some ⟨g, 0, none⟩ := by
  obtain ⟨xs, ⟨hl, h2⟩, hx⟩ := h
  rcases h2 with ⟨h3, h0⟩ | ⟨g, cap, cur, h3, _⟩
  · injection h3 with a1 a2 a3
    exact .inl ⟨a1, a2, a3⟩
  · injection h3 with a1 a2 a3
    exact .inr ⟨g, a1⟩
theorem lenOf_up (x : List (Int × Int)) : lenOf x ≤ 24 := by
  cases h : outOk x with
  | true => exact (lenOf_bd' h).2
  | false => simp [lenOf, h]
theorem lengths_up : ∀ l : List WrT, lengthsOf l ≤ 24 * l.length
  | [] => by simp [lengthsOf]
  | x :: r => by
    have h1 := lenOf_up x.1
    have h2 := lengths_up r
    rw [lengthsOf, List.length_cons]
    omega
theorem lineV_up (l : List WrT) : lineV l ≤ 24 * l.length := by
  have := lengths_up l
  unfold lineV
  split <;> omega
set_option maxRecDepth 100000 in
set_option maxHeartbeats 1500000 in
theorem lawLineLength (A : Option Addr) (n c : Nat) (l : List UInt8) (A' : Option Addr) (n' c' : Nat) (l' : List UInt8) (w : World) (hnc : n ≤ c) (hx : Rd byteS 0 w.heap.size w A n l) (hnc' : n' ≤ c') (hy : Rd byteS 0 w.heap.size w A' n' l') :
    Calls Try.prog 8 #[.slice A n c, .slice A' n' c'] w fun e w' => e = .returned (.bool true) ∧ Below w.heap.size w w' := by
  have hn63 := hx.2.1
  have HX := hid hx
  have hn63' := hy.2.1
  clear hx hy hnc'
  by_cases hn : n ≤ 1048576
  case neg =>
    have h1 : (1048576 : Int) < (n : Int) := by omega
    go_enter Try.func8, Try.ntmps8
    go_wp2_with fail
    go_ret
    exact ⟨rfl, Below.refl _ _⟩
  case pos =>
  have h1 : ¬ (1048576 : Int) < (n : Int) := by omega
  by_cases hn' : n' ≤ 1048576
  case neg =>
    have h2 : (1048576 : Int) < (n' : Int) := by omega
    go_enter Try.func8, Try.ntmps8
    go_wp2_with fail
    go_ret
    exact ⟨rfl, Below.refl _ _⟩
  case pos =>
  have h2 : ¬ (1048576 : Int) < (n' : Int) := by omega
  go_enter Try.func8, Try.ntmps8
  go_wp2_with fail
  refine (DrawLineLength_any A n c l w hnc HX.out).mono ?_
  intro e w1 hres
  obtain ⟨B, d, ls, rfl, hmd, hm4, _, hP, hb1⟩ := hres
  have hf3 := own_form3 hP
  have W1 := hid ((hP.rd (by omega)).2.wide (lo' := 0) (Nat.zero_le _) (Nat.le_refl _))
  have B1 := hid hb1
  clear hP hb1
  obtain ⟨V, hV⟩ : ∃ V, lineV ls = V := ⟨_, rfl⟩
  have HV := hid hV
  have hvb : V ≤ 96 := by
    have := lineV_up ls
    omega
  clear hV
  obtain ⟨m, hm⟩ : ∃ m, ls.length = m := ⟨_, rfl⟩
  have HM := hid hm
  rw [hm] at hf3 W1 hmd hm4 ⊢
  clear hm
  go_wp2_with fail
  refine (implLineLength_any _ _ _ _ _ _ W1.out).mono ?_
  rw [HV.out]
  rintro e w2 ⟨rfl, hb2⟩
  have W2 := hid (W1.out.bl hb2)
  have B2 := hid (btr B1.out hb2)
  clear hb2
  go_wp2_with fail
  refine (specLineLength_any _ _ _ _ _ _ W2.out).mono ?_
  rw [HV.out]
  rintro e w3 ⟨rfl, hb3⟩
  have W3 := hid (W2.out.bl hb3)
  have B3 := hid (btr B2.out hb3)
  clear hb3 W1 W2 B1 B2
  have hvv : (V != V) = false := by simp
  by_cases hv0 : V < 0
  case pos =>
    go_wp2_with fail
    go_ret
    exact ⟨rfl, B3.out⟩
  case neg =>
  obtain ⟨K, hK⟩ : ∃ K, n' % (m + 1) = K := ⟨_, rfl⟩
  have hk1 : (n' : Int) % ((m : Int) + 1) = (K : Int) := by rw [← hK, Int.natCast_emod]; rfl
  have hk2 : Int.tmod (n' : Int) ((m : Int) + 1) = (K : Int) := by rw [Int.tmod_eq_emod_of_nonneg (by omega)]; exact hk1
  have hkl : K ≤ m := by have := Nat.mod_lt n' (show 0 < m + 1 by omega); omega
  have hki : (K : Int) ≤ (m : Int) := by omega
  have hkd : (K : Int) ≤ (d : Int) := by omega
  have hm0 : ((m : Int) + 1 == 0) = false := by rw [beq_eq_false_iff_ne]; omega
  have hlw := line_law (l := ls) (by rw [HV.out]; omega) K
  have HL1 := hid fun h => line_one (l := ls) (by rw [HV.out]; omega) h
  rw [HV.out] at hlw
  obtain ⟨N1, hN1⟩ : ∃ z, lineV (ls.take K) = z := ⟨_, rfl⟩
  obtain ⟨N2, hN2⟩ : ∃ z, lineV (ls.drop K) = z := ⟨_, rfl⟩
  rw [hN1, hN2] at hlw
  have HN := hid (And.intro hN1 hN2)
  have lcs : N1 + N2 = V := hlw
  have lcb : (N1 + N2 != V) = false := by simpa using lcs
  have lcw : IntKind.i64.wrap (N1 + N2) = N1 + N2 := IntWalk.i64_in _ (by omega)
  clear hK hN1 hN2 hlw lcs
  rcases hf3 with ⟨rfl, hm0', hd0⟩ | ⟨g, rfl⟩
  · subst hm0' hd0
    obtain rfl : K = 0 := by omega
    have hws : ls = [] := List.length_eq_zero_iff.1 HM.out
    subst hws
    have C1 := hid fun (B' : Option Addr) (c' : Nat) (p : Aft w3.heap.size w3) => aft_call ((implLineLength_any B' 0 c' 0 [] p.val (Rd.nil writtenS 0 p.val.heap.size p.val B')).mono fun e w' h => (⟨by rw [h.1, show lineV [] = N1 from HN.out.1], h.2⟩ : e = .returned (.int .i64 N1) ∧ Below p.val.heap.size p.val w')) (Nat.le_refl _)
    have C2 := hid fun (B' : Option Addr) (c' : Nat) (p : Aft w3.heap.size w3) => aft_call ((implLineLength_any B' 0 c' 0 [] p.val (Rd.nil writtenS 0 p.val.heap.size p.val B')).mono fun e w' h => (⟨by rw [h.1, show lineV [] = N2 from HN.out.2], h.2⟩ : e = .returned (.int .i64 N2) ∧ Below p.val.heap.size p.val w')) (Nat.le_refl _)
    clear W3
    go_wp2_with fail
    refine wp_region_aft (Below.refl w3.heap.size w3) (by kernel_rfl) (by kernel_rfl) ?_
    repeat (go_big_quiet_step (fail))
    go_big_quiet_step ((go_at_call 26; exact C1.out _ _ _))
    repeat (go_big_quiet_step (fail))
    go_big_quiet_step ((go_at_call 26; exact C2.out _ _ _))
    repeat (go_big_quiet_step (fail))
    refine wpQuiet_nil ?_
    rintro w7 ⟨⟨w6, hb7⟩, hw7⟩
    have hw5 : w7 = w6 := hw7
    clear hw7
    subst hw5
    have B7 := hid (btr B3.out hb7)
    clear hb7 C1 C2
    go_wp2_with fail
    refine wp_region_aft (Below.refl w7.heap.size w7) (by kernel_rfl) (by kernel_rfl) ?_
    repeat (go_big_quiet_step (fail))
    refine wpQuiet_nil ?_
    rintro _ ⟨⟨w8, hb8⟩, rfl⟩
    have B8 := hid (btr B7.out hb8)
    clear hb8
    go_wp2_with fail
    all_goals
      go_ret
      exact ⟨rfl, B8.out⟩
  · by_cases hmz : m = 0
    case pos =>
      subst hmz
      obtain rfl : K = 0 := by omega
      have hws : ls = [] := List.length_eq_zero_iff.1 HM.out
      subst hws
      have C1 := hid fun (B' : Option Addr) (c' : Nat) (p : Aft w3.heap.size w3) => aft_call ((implLineLength_any B' 0 c' 0 [] p.val (Rd.nil writtenS 0 p.val.heap.size p.val B')).mono fun e w' h => (⟨by rw [h.1, show lineV [] = N1 from HN.out.1], h.2⟩ : e = .returned (.int .i64 N1) ∧ Below p.val.heap.size p.val w')) (Nat.le_refl _)
      have C2 := hid fun (B' : Option Addr) (c' : Nat) (p : Aft w3.heap.size w3) => aft_call ((implLineLength_any B' 0 c' 0 [] p.val (Rd.nil writtenS 0 p.val.heap.size p.val B')).mono fun e w' h => (⟨by rw [h.1, show lineV [] = N2 from HN.out.2], h.2⟩ : e = .returned (.int .i64 N2) ∧ Below p.val.heap.size p.val w')) (Nat.le_refl _)
      clear W3
      go_wp2_with fail
      refine wp_region_aft (Below.refl w3.heap.size w3) (by kernel_rfl) (by kernel_rfl) ?_
      repeat (go_big_quiet_step (fail))
      go_big_quiet_step ((go_at_call 26; exact C1.out _ _ _))
      repeat (go_big_quiet_step (fail))
      go_big_quiet_step ((go_at_call 26; exact C2.out _ _ _))
      repeat (go_big_quiet_step (fail))
      refine wpQuiet_nil ?_
      rintro w7 ⟨⟨w6, hb7⟩, hw7⟩
      have hw5 : w7 = w6 := hw7
      clear hw7
      subst hw5
      have B7 := hid (btr B3.out hb7)
      clear hb7 C1 C2
      go_wp2_with fail
      refine wp_region_aft (Below.refl w7.heap.size w7) (by kernel_rfl) (by kernel_rfl) ?_
      repeat (go_big_quiet_step (fail))
      refine wpQuiet_nil ?_
      rintro _ ⟨⟨w8, hb8⟩, rfl⟩
      have B8 := hid (btr B7.out hb8)
      clear hb8
      go_wp2_with fail
      all_goals
        go_ret
        exact ⟨rfl, B8.out⟩
    case neg =>
      have hmb : ((m : Int) == 0) = false := by rw [beq_eq_false_iff_ne]; omega
      have hmn : ¬ (m : Int) = 0 := by omega
      have hmi : (0 : Int) < (m : Int) := by omega
      have hd1 : (1 : Int) ≤ (d : Int) := by omega
      have hl1 := HL1.out (by rw [HM.out]; omega)
      obtain ⟨U, hU⟩ : ∃ U, lenOf (gt ls 0).1 = U := ⟨_, rfl⟩
      rw [hU] at hl1
      have HU := hid (And.intro hU hl1)
      clear hU hl1
      have T3 := hid (W3.out.sub (i := 0) (j := K) (Nat.zero_le _) hkl (some ⟨g, 0, none⟩) (fun b off h _ => by injection h with h; injection h with h1 h2 _; rw [← h1, ← h2]; rfl))
      rw [Nat.sub_zero, List.drop_zero] at T3
      have D3 := hid (W3.out.sub (i := K) (j := m) hkl (Nat.le_refl _) (if d = K then some ⟨g, 0, none⟩ else some ⟨g, K * 2, none⟩) (fun b off h hlt => by rw [if_neg (by omega)]; injection h with h; injection h with h1 h2 _; rw [← h1, ← h2, Nat.zero_add]; rfl))
      rw [← HM.out, List.take_length, HM.out] at D3
      have C1 := hid fun p : Aft w3.heap.size w3 => aft_call ((implLineLength_any (some ⟨g, 0, none⟩) K d 0 (ls.take K) p.val (T3.out.bl p.prop)).mono fun e w' h => (⟨by rw [h.1, HN.out.1], h.2⟩ : e = .returned (.int .i64 N1) ∧ Below p.val.heap.size p.val w')) (Nat.le_refl _)
      have C2 := hid fun p : Aft w3.heap.size w3 => aft_call ((implLineLength_any (if d = K then some ⟨g, 0, none⟩ else some ⟨g, K * 2, none⟩) (m - K) (d - K) 0 (ls.drop K) p.val (D3.out.bl p.prop)).mono fun e w' h => (⟨by rw [h.1, HN.out.2], h.2⟩ : e = .returned (.int .i64 N2) ∧ Below p.val.heap.size p.val w')) (Nat.le_refl _)
      go_wp2_with fail
      refine wp_region_aft (Below.refl w3.heap.size w3) (by kernel_rfl) (by kernel_rfl) ?_
      repeat (go_big_quiet_step (fail))
      go_big_quiet_step ((go_at_call 26; exact C1.out _))
      repeat (go_big_quiet_step (fail))
      go_big_quiet_step ((go_at_call 26; exact C2.out _))
      repeat (go_big_quiet_step (fail))
      refine wpQuiet_nil ?_
      rintro w7 ⟨⟨w6, hb7⟩, hw7⟩
      have hw5 : w7 = w6 := hw7
      clear hw7
      subst hw5
      have B7 := hid (btr B3.out hb7)
      have W7 := hid (W3.out.bl hb7)
      clear hb7 T3 D3 C1 C2 W3
      go_wp2_with fail
      all_goals
        have T7 := hid (W7.out.sub (i := 0) (j := 1) (Nat.zero_le _) (by omega) (some ⟨g, 0, none⟩) (fun b off h _ => by injection h with h; injection h with h1 h2 _; rw [← h1, ← h2]; rfl))
        rw [Nat.sub_zero, List.drop_zero] at T7
        obtain ⟨bb, off, hA, _, hbb, hcx⟩ := W7.out.2.2 (by omega)
        injection hA with hA
        injection hA with hA1 hA2
        subst hA1 hA2
        obtain ⟨Ao, co, x0, _, _, hro⟩ := hcx.written (k := 0) (by omega)
        have ca0 : w7.cell? ⟨g, 0, none⟩ = some (.slice Ao (gt ls 0).1.length co) := x0
        have hu1 := HU.out.1
        obtain ⟨ox, hox⟩ : ∃ ox, (gt ls 0).1 = ox := ⟨_, rfl⟩
        rw [hox] at hro ca0 hu1
        obtain ⟨nx, hnx⟩ : ∃ nx, ox.length = nx := ⟨_, rfl⟩
        rw [hnx] at hro ca0
        have ca := ca0
        have cc := aft_cell (block_lt_of_cell ca) ca
        have HRO := hid hro
        have HU1 := hid hu1
        obtain ⟨l1, hl1⟩ : ∃ l1, ls.take 1 = l1 := ⟨_, rfl⟩
        have HU2 := hid (hl1 ▸ HU.out.2 : lineV l1 = U)
        have T8 := hid (hl1 ▸ T7)
        have C3 := hid fun (c' : Nat) (p : Aft w7.heap.size w7) => aft_call ((implLineLength_any (some ⟨g, 0, none⟩) 1 c' 0 l1 p.val (T8.out.bl p.prop)).mono fun e w' h => (⟨by rw [h.1, HU2.out], h.2⟩ : e = .returned (.int .i64 U) ∧ Below p.val.heap.size p.val w')) (Nat.le_refl _)
        have C4 := hid fun p : Aft w7.heap.size w7 => aft_call ((implOutlineLength_any Ao nx co 0 ox p.val (HRO.out.bl p.prop)).mono fun e w' h => (⟨by rw [h.1, HU1.out], h.2⟩ : e = .returned (.int .i64 U) ∧ Below p.val.heap.size p.val w')) (Nat.le_refl _)
        clear x0 hcx hro ca0 hu1 hox hnx hl1 T7
        refine wp_region_aft (Below.refl w7.heap.size w7) (by kernel_rfl) (by kernel_rfl) ?_
        repeat (go_big_quiet_step (fail))
        go_big_quiet_step ((go_at_call 26; exact C3.out _ _))
        repeat (go_big_quiet_step (fail))
        go_big_quiet_step ((go_at_call 20; exact C4.out _))
        repeat (go_big_quiet_step (fail))
        refine wpQuiet_nil ?_
        rintro _ ⟨⟨w8, hb8⟩, rfl⟩
        have B8 := hid (btr B7.out hb8)
        clear hb8
        go_wp2_with fail
        all_goals
          go_ret
          exact ⟨rfl, B8.out⟩
end Go.Proofs.Ytigemahbopligaa
