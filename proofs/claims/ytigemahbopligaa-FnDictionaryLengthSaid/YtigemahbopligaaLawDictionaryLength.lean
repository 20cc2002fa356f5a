/- The law FnDictionaryLength returns true for all arguments that can be read. -/
import Derived.Test.YtigemahbopligaaDrawX
import Derived.Test.YtigemahbopligaaDictL
import Derived.Test.YtigemahbopligaaDictS
import Derived.Deep.RegionHeld3
namespace Go.Proofs.Ytigemahbopligaa
open Go.RowKit
theorem own_form3 {α : Type} [Inhabited α] {S : Shape α} {base : Nat} {w : World} {e : TypeId} {A : Option Addr} {n c : Nat} {l : List α} (h : OwnR S base w e (.slice A n c) l) : (A = none ∧ n = 0 ∧ c = 0) ∨ ∃ g, A = some ⟨g, 0, none⟩ := by
  obtain ⟨xs, ⟨hl, h2⟩, hx⟩ := h
  rcases h2 with ⟨h3, h0⟩ | ⟨g, cap, cur, h3, _⟩
  · injection h3 with a1 a2 a3
    exact .inl ⟨a1, a2, a3⟩
  · injection h3 with a1 a2 a3
    exact .inr ⟨g, a1⟩
set_option maxRecDepth 100000 in
set_option maxHeartbeats 4000000 in
theorem lawDictionaryLength (A : Option Addr) (n c : Nat) (l : List UInt8) (A' : Option Addr) (n' c' : Nat) (l' : List UInt8) (w : World) (hnc : n ≤ c) (hx : Rd byteS 0 w.heap.size w A n l) (hnc' : n' ≤ c') (hy : Rd byteS 0 w.heap.size w A' n' l') :
    Calls Try.prog 7 #[.slice A n c, .slice A' n' c'] w fun e w' => e = .returned (.bool true) ∧ Below w.heap.size w w' := by
  obtain ⟨i0, hi1, hz0, hz1, hz2⟩ := info_parts (show (Try.prog.info? 9).map (fun i => (i.zero, i.size, i.bytes)) = some (some (.string ByteArray.empty), 1, 16) by kernel_rfl)
  have HI := hid (And.intro hi1 (And.intro hz0 (And.intro hz1 hz2)))
  clear hi1 hz0 hz1 hz2
  have hn63 := hx.2.1
  have HX := hid hx
  have hn63' := hy.2.1
  clear hx hy hnc'
  by_cases hn : n ≤ 1048576
  case neg =>
    have h1 : (1048576 : Int) < (n : Int) := by omega
    go_enter Try.func7, Try.ntmps7
    go_wp2_with fail
    go_ret
    exact ⟨rfl, Below.refl _ _⟩
  case pos =>
  have h1 : ¬ (1048576 : Int) < (n : Int) := by omega
  by_cases hn' : n' ≤ 1048576
  case neg =>
    have h2 : (1048576 : Int) < (n' : Int) := by omega
    go_enter Try.func7, Try.ntmps7
    go_wp2_with fail
    go_ret
    exact ⟨rfl, Below.refl _ _⟩
  case pos =>
  have h2 : ¬ (1048576 : Int) < (n' : Int) := by omega
  go_enter Try.func7, Try.ntmps7
  go_wp2_with fail
  refine (DrawDictionaryLength_any A n c l w hnc HX.out).mono ?_
  intro e w1 hres
  obtain ⟨E, a, sys, B, d, ws, rfl, hsa, hwd, hs10, hw9, hO, hP, hb1⟩ := hres
  have hf3 := own_form3 hP
  have S1 := hid (hO.rd (by omega)).2
  have W1 := hid (hP.rd (by omega)).2
  have B1 := hid hb1
  clear hO hP hb1
  obtain ⟨V, hV⟩ : ∃ V, dictV sys ws = V := ⟨_, rfl⟩
  have HV := hid hV
  have hvb : V ≤ 240 := by
    have := (dictSum_bd sys ws).2
    rw [← hV]
    unfold dictV
    split <;> omega
  clear hV
  obtain ⟨m, hm⟩ : ∃ m, ws.length = m := ⟨_, rfl⟩
  have HM := hid hm
  rw [hm] at hf3 W1 hwd hw9 ⊢
  obtain ⟨q, hq⟩ : ∃ q, sys.length = q := ⟨_, rfl⟩
  rw [hq] at S1 hsa hs10 ⊢
  clear hm hq
  go_wp2_with fail
  refine (implDictionaryLength_any _ _ _ _ _ _ _ _ _ _ _ hwd S1.out W1.out).mono ?_
  rw [HV.out]
  rintro e w2 ⟨rfl, hb2⟩
  have S2 := hid (S1.out.bl hb2)
  have W2 := hid (W1.out.bl hb2)
  have B2 := hid (btr B1.out hb2)
  clear hb2
  go_wp2_with fail
  refine (specDictionaryLength_any _ _ _ _ _ _ _ _ _ _ _ S2.out W2.out).mono ?_
  rw [HV.out]
  rintro e w3 ⟨rfl, hb3⟩
  have S3 := hid (S2.out.bl hb3)
  have W3 := hid (W2.out.bl hb3)
  have B3 := hid (btr B2.out hb3)
  clear hb3 S1 S2 W1 W2 B1 B2
  have hvv : (V != V) = false := by simp
  by_cases hv0 : V < 0
  case pos =>
    go_wp2_with fail
    go_ret
    exact ⟨rfl, B3.out⟩
  case neg =>
  obtain ⟨K, hK⟩ : ∃ K, n' % (m + 1) = K := ⟨_, rfl⟩
  have hk1 : (n' : Int) % ((m : Int) + 1) = (K : Int) := by rw [← hK, Int.natCast_emod]; rfl
  have hk2 : Int.tmod (n' : Int) ((m : Int) + 1) = (K : Int) := by rw [Int.tmod_eq_emod_of_nonneg (by omega)]; exact hk1
  have hkl : K ≤ m := by have := Nat.mod_lt n' (show 0 < m + 1 by omega); omega
  have hki : (K : Int) ≤ (m : Int) := by omega
  have hkd : (K : Int) ≤ (d : Int) := by omega
  have hm0 : ((m : Int) + 1 == 0) = false := by rw [beq_eq_false_iff_ne]; omega
  have hlw := dict_law (sys := sys) (ws := ws) (by rw [HV.out]; omega) K
  rw [HV.out] at hlw
  obtain ⟨N1, hN1⟩ : ∃ z, dictV sys (ws.take K) = z := ⟨_, rfl⟩
  obtain ⟨N2, hN2⟩ : ∃ z, dictV sys (ws.drop K) = z := ⟨_, rfl⟩
  rw [hN1, hN2] at hlw
  have HN := hid (And.intro hN1 (And.intro hN2 hlw.2))
  have lcs : N1 + N2 = V := hlw.1
  have lcb : (N1 + N2 == V) = true := by simpa using lcs
  have lcw : IntKind.i64.wrap (N1 + N2) = N1 + N2 := IntWalk.i64_in _ (by omega)
  clear hK hN1 hN2 hlw lcs
  have ON := hid (OwnR.nil (S := strS) (e := 9) (Nat.le_refl w3.heap.size) #[] rfl)
  have BN := hid (bnew w3 (.cells #[] 9))
  go_wp2_with fail
  go_loopg [10, 11] m (fun gk v i wr => ∃ (x : Int) (AB : Option Addr) (cB : Nat) (acc : List ByteArray), gk ≤ m ∧ i = .int .i64 x ∧ x = (gk : Int) - 1 ∧ v = .slice AB acc.length cB ∧ OwnR strS w3.heap.size wr 9 (.slice AB acc.length cB) acc ∧ acc = (ws.drop gk).reverse ∧ Below w3.heap.size w3 wr)
  case atStart =>
    refine ⟨_, _, _, [], Nat.le_refl _, rfl, ?_, rfl, ON.out, ?_, BN.out⟩
    · go_num
    · rw [List.drop_eq_nil_of_le (by rw [HM.out]; exact Nat.le_refl _)]; rfl
  case round =>
    clear ON BN
    obtain ⟨x, AB, cB, acc, hgm, rfl, hxg, rfl, hO, hac, hb⟩ := hrel
    have HO := hid hO
    have HA := hid hac
    have HB := hid hb
    have hbz := hb.size
    have hal : acc.length ≤ m := by rw [hac, List.length_reverse, List.length_drop, HM.out]; omega
    clear hO hac hb
    cases gk with
    | succ u =>
      obtain rfl : x = (u : Int) := by omega
      clear hxg
      have hum : u < m := hgm
      have hui : (u : Int) < (m : Int) := by omega
      have hkl2 : u < ws.length := by rw [HM.out]; exact hum
      have hcapd := own_cap2 HO.out
      obtain ⟨bb, off, hA, _, hbb, hcx⟩ := W3.out.2.2 (by omega)
      subst hA
      obtain ⟨x0, x1⟩ := hcx.str hum
      have cx0 := bcl HB.out x0
      obtain ⟨s, hs⟩ : ∃ s, gt ws u = s := ⟨_, rfl⟩
      have HD := hid (show (ws.drop u).reverse = (ws.drop (u + 1)).reverse ++ [s] by rw [drop_gt hkl2, List.reverse_cons, hs])
      rw [hs] at cx0 x1
      clear hcx x0 hs hkl2 hf3
      go_wp2_with (at_builtin; go_loud (refine wpList_append_R rfl (.tmp 55) (.tmp 60) _ rfl strS Try.underlying45 HI.out rfl (by decide) (v := .slice AB acc.length cB) rfl (HO.out.al _) (y := s) (cs := [.string s]) rfl (heap_alloc_new _ _) rfl (by simp [Value.oneCell']) ⟨rfl, by omega⟩ (by omega) (by omega) (by simp; omega) ?_; intro A6 c6 w6 hO6 hb6))
      have HO6 := hid hO6
      have HB6 := hid (HB.out.trans (((bnew wr _).mono hbz).trans hb6))
      clear hO6 hb6
      go_wp2_with fail
      go_roundg u
      case measure => omega
      case rel => exact ⟨_, A6, c6, acc ++ [s], by omega, rfl, by go_num, by rw [List.length_append]; rfl, by rw [List.length_append]; exact HO6.out, by rw [HA.out, HD.out], HB6.out⟩
    | zero =>
      obtain rfl : x = -1 := by omega
      clear hxg
      have hcapd := own_cap2 HO.out
      have RB := hid (HO.out.rd (by omega)).2
      have SR := hid (S3.out.bl HB.out)
      have WR := hid (W3.out.bl HB.out)
      have hacr : acc = ws.reverse := by rw [HA.out, List.drop_zero]
      have HR := hid hacr
      have B5 := hid (btr B3.out HB.out)
      clear HO HA hacr S3 W3 HB hal
      rcases hf3 with ⟨rfl, hm0, hd0⟩ | ⟨g, rfl⟩
      · subst hm0 hd0
        obtain rfl : K = 0 := by omega
        have hws : ws = [] := List.length_eq_zero_iff.1 HM.out
        subst hws
        have T3 := hid (Rd.nil strS 0 wr.heap.size wr (none : Option Addr))
        have D3 := T3
        have HM0 := hid (Nat.le_refl 0)
        have C1 := hid fun p : Aft wr.heap.size wr => aft_call ((implDictionaryLength_any E none q a 0 0 _ _ sys [] p.val (by omega) (SR.out.bl p.prop) (T3.out.bl p.prop)).mono fun e w' h => (⟨by rw [h.1, show dictV sys [] = N1 from HN.out.1], h.2⟩ : e = .returned (.int .i64 N1) ∧ Below p.val.heap.size p.val w')) (Nat.le_refl _)
        have C2 := hid fun p : Aft wr.heap.size wr => aft_call ((implDictionaryLength_any E none q a 0 0 _ _ sys [] p.val (by omega) (SR.out.bl p.prop) (D3.out.bl p.prop)).mono fun e w' h => (⟨by rw [h.1, show dictV sys [] = N2 from HN.out.2.1], h.2⟩ : e = .returned (.int .i64 N2) ∧ Below p.val.heap.size p.val w')) (Nat.le_refl _)
        have C3 := hid fun p : Aft wr.heap.size wr => aft_call ((implDictionaryLength_any E AB q a acc.length cB _ _ sys acc p.val hcapd (SR.out.bl p.prop) (RB.out.bl p.prop)).mono fun e w' h => (⟨by rw [h.1, HR.out, show dictV sys ([] : List ByteArray).reverse = V from HN.out.2.2], h.2⟩ : e = .returned (.int .i64 V) ∧ Below p.val.heap.size p.val w')) (Nat.le_refl _)
        go_wp2_with fail
        refine wp_region_aft (Below.refl wr.heap.size wr) (by kernel_rfl) (by kernel_rfl) ?_
        repeat (go_big_quiet_step (fail))
        go_big_quiet_step ((go_at_call 29; exact C1.out _))
        repeat (go_big_quiet_step (fail))
        go_big_quiet_step ((go_at_call 29; exact C2.out _))
        repeat (go_big_quiet_step (fail))
        go_big_quiet_step ((go_at_call 29; exact C3.out _))
        repeat (go_big_quiet_step (fail))
        refine wpQuiet_nil ?_
        rintro _ ⟨⟨w7, hb7⟩, rfl⟩
        have B7 := hid (btr B5.out hb7)
        clear hb7
        go_wp2_with fail
        all_goals
          go_ret
          exact ⟨rfl, B7.out⟩
      · have T3 := hid (WR.out.sub (i := 0) (j := K) (Nat.zero_le _) hkl (some ⟨g, 0, none⟩) (fun b off h _ => by injection h with h; injection h with h1 h2 _; rw [← h1, ← h2]; rfl))
        rw [Nat.sub_zero, List.drop_zero] at T3
        have D3 := hid (WR.out.sub (i := K) (j := m) hkl (Nat.le_refl _) (if d = K then some ⟨g, 0, none⟩ else some ⟨g, K, none⟩) (fun b off h hlt => by rw [if_neg (by omega)]; injection h with h; injection h with h1 h2 _; rw [← h1, ← h2, Nat.zero_add]; exact congrArg (fun x => some (⟨g, x, none⟩ : Addr)) (Nat.mul_one K).symm))
        rw [← HM.out, List.take_length, HM.out] at D3
        have C1 := hid fun p : Aft wr.heap.size wr => aft_call ((implDictionaryLength_any E (some ⟨g, 0, none⟩) q a K d _ _ sys (ws.take K) p.val (by omega) (SR.out.bl p.prop) (T3.out.bl p.prop)).mono fun e w' h => (⟨by rw [h.1, HN.out.1], h.2⟩ : e = .returned (.int .i64 N1) ∧ Below p.val.heap.size p.val w')) (Nat.le_refl _)
        have C2 := hid fun p : Aft wr.heap.size wr => aft_call ((implDictionaryLength_any E (if d = K then some ⟨g, 0, none⟩ else some ⟨g, K, none⟩) q a (m - K) (d - K) _ _ sys (ws.drop K) p.val (by omega) (SR.out.bl p.prop) (D3.out.bl p.prop)).mono fun e w' h => (⟨by rw [h.1, HN.out.2.1], h.2⟩ : e = .returned (.int .i64 N2) ∧ Below p.val.heap.size p.val w')) (Nat.le_refl _)
        have C3 := hid fun p : Aft wr.heap.size wr => aft_call ((implDictionaryLength_any E AB q a acc.length cB _ _ sys acc p.val hcapd (SR.out.bl p.prop) (RB.out.bl p.prop)).mono fun e w' h => (⟨by rw [h.1, HR.out, HN.out.2.2], h.2⟩ : e = .returned (.int .i64 V) ∧ Below p.val.heap.size p.val w')) (Nat.le_refl _)
        go_wp2_with fail
        refine wp_region_aft (Below.refl wr.heap.size wr) (by kernel_rfl) (by kernel_rfl) ?_
        repeat (go_big_quiet_step (fail))
        go_big_quiet_step ((go_at_call 29; exact C1.out _))
        repeat (go_big_quiet_step (fail))
        go_big_quiet_step ((go_at_call 29; exact C2.out _))
        repeat (go_big_quiet_step (fail))
        go_big_quiet_step ((go_at_call 29; exact C3.out _))
        repeat (go_big_quiet_step (fail))
        refine wpQuiet_nil ?_
        rintro _ ⟨⟨w7, hb7⟩, rfl⟩
        have B7 := hid (btr B5.out hb7)
        clear hb7
        go_wp2_with fail
        all_goals
          go_ret
          exact ⟨rfl, B7.out⟩
end Go.Proofs.Ytigemahbopligaa
