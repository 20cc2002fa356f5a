/- The law FnCopyBest returns true for all arguments that can be read. -/
import Derived.Test.YthijnojefeeaoaaFew
import Derived.Test.YthijnojefeeaoaaCopyRead
import Derived.Test.YthijnojefeeaoaaBriefV
import Derived.Test.YthijnojefeeaoaaUsedW
namespace Go.Proofs.Ythijnojefeeaoaa
open Go.RowKit
attribute [local go_sem] Oper.semAt_some
set_option maxRecDepth 100000 in
set_option maxHeartbeats 1000000 in
theorem lawCopyBest (A0 : Option Addr) (n0 c0 : Nat) (l0 : List UInt8) (w : World) (hnc : n0 ≤ c0) (hx : Rd byteS 0 w.heap.size w A0 n0 l0) :
    Calls Try.prog 11 #[.slice A0 n0 c0] w fun e w' => e = .returned (.bool true) ∧ Below w.heap.size w w' := by
  have hn63 := hx.2.1
  have HX := hid hx
  clear hx
  by_cases hn : n0 ≤ 1048576
  case neg =>
    have h1 : (1048576 : Int) < (n0 : Int) := by omega
    go_enter Try.func11, Try.ntmps11
    go_wp2_with fail
    go_ret
    exact ⟨rfl, Below.refl _ _⟩
  have h1 : ¬ (1048576 : Int) < (n0 : Int) := by omega
  go_enter Try.func11, Try.ntmps11
  go_wp2_with fail
  refine (DrawCopyBest_any A0 n0 c0 l0 w hnc HX.out).mono ?_
  rintro e w1 ⟨A, n, c, bs, B, m, d, ws, rfl, ⟨hnc1, hn6, hsm⟩, ⟨hmd, hm8, hd63, hws⟩, hx1, hy1, hb1⟩
  have HB1 := hid hb1
  have RX := hid hx1
  have RY := hid hy1
  clear hx1 hy1 hb1
  go_wp2_with fail
  refine (implCopyBest_any A B n c m d bs ws w1 hnc1 hmd hd63 RX.out RY.out).mono ?_
  intro e w2 hres
  have hlen := bestO_len bs ws
  obtain ⟨V, hV⟩ : ∃ V, bestO bs ws = V := ⟨_, rfl⟩
  have HSP := hid fun W hb => specCopyBest_any A B n c m d bs ws W hmd hd63 (RX.out.bl (w' := W) hb) (RY.out.bl hb)
  rw [hV] at hres hlen HSP
  have HV := hid hV
  clear hV
  cases V with
  | none =>
    have hres' := sb_rd hres hlen
    simp only [Option.getD_none, Option.isSome_none, List.length_nil] at hres'
    obtain ⟨F, fc, rfl, hfc, hfc63, hF, hb2⟩ := hres'
    have HB2 := hid hb2
    have RF := hid hF
    clear hF hb2 hres hlen
    go_wp2_with fail
    refine (HSP.out w2 HB2.out).mono ?_
    intro e w3 hres
    have hres' := sb_rd hres (by simp)
    simp only [Option.getD_none, Option.isSome_none, List.length_nil] at hres'
    obtain ⟨H, gc, rfl, hgc, hgc63, hG, hb3⟩ := hres'
    have RF3 := hid (RF.out.bl hb3)
    have RG3 := hid hG
    have HB3 := hid (btr HB2.out hb3)
    clear hG hb3 hres
    go_wp2_with fail
    refine (sameTexts_any _ _ _ _ _ _ _ _ _ _ _ RF3.out RG3.out).mono ?_
    rintro e w4 ⟨rfl, hb4⟩
    have HB4 := hid (btr HB3.out hb4)
    have RF4 := hid (RF3.out.bl hb4)
    have RG4 := hid (RG3.out.bl hb4)
    clear hb4
    rw [eqD_self]
    go_wp2_with fail
    refine (sameTexts_any _ _ _ _ _ _ _ _ _ _ _ RF4.out RG4.out).mono ?_
    rintro e w5 ⟨rfl, hb5⟩
    have HB5 := hid (btr HB4.out hb5)
    clear hb5
    rw [eqD_self]
    go_wp2_with fail
    go_ret
    exact ⟨rfl, HB1.out.trans (HB5.out.mono HB1.out.size)⟩
  | some V =>
    have hdo : deskOk bs ws = true ∧ bestV bs ws = V := by
      have := HV.out
      unfold bestO at this
      cases h : deskOk bs ws with
      | true => rw [h] at this; injection this with this; exact ⟨rfl, this⟩
      | false => rw [h] at this; cases this
    have HDO := hid hdo.1
    have HBV := hid hdo.2
    clear hdo
    have hres' := sb_rd hres hlen
    simp only [Option.getD_some, Option.isSome_some] at hres'
    obtain ⟨F, fc, rfl, hfc, hfc63, hF, hb2⟩ := hres'
    have HB2 := hid hb2
    have RF := hid hF
    have HLN := hid hlen
    clear hF hb2 hres hlen
    go_wp2_with fail
    refine (HSP.out w2 HB2.out).mono ?_
    intro e w3 hres
    have hres' := sb_rd hres HLN.out
    simp only [Option.getD_some, Option.isSome_some] at hres'
    obtain ⟨H, gc, rfl, hgc, hgc63, hG, hb3⟩ := hres'
    have RF3 := hid (RF.out.bl hb3)
    have RG3 := hid hG
    have HB3 := hid (btr HB2.out hb3)
    clear hG hb3 hres HSP
    go_wp2_with fail
    refine (sameTexts_any _ _ _ _ _ _ _ _ _ _ _ RF3.out RG3.out).mono ?_
    rintro e w4 ⟨rfl, hb4⟩
    have HB4 := hid (btr HB3.out hb4)
    have HB := hid (HB1.out.trans (HB4.out.mono HB1.out.size))
    have RF4 := hid (RF3.out.bl hb4)
    have RX4 := hid (RX.out.bl HB4.out)
    have RY4 := hid (RY.out.bl HB4.out)
    clear hb4 RF RF3 RG3 RX RY HB1 HB2 HB3 HB4
    rw [eqD_self]
    obtain ⟨dk1, dk2, dk3, dk4, dk5⟩ := desk_len HDO.out
    have hmw := RY4.out.1
    have hVl := HLN.out
    simp only [Option.getD_some] at hVl
    obtain ⟨hb0, hs0⟩ := desk_yes HDO.out
    obtain ⟨g1, g2, g3, g4⟩ := best_law hb0 hs0
    have hwd := fun b hb => (dk3 b hb).1
    have hsz : ∀ s ∈ bestV bs ws, s.size ≤ 12 := fun s hs => by
      rcases cp_text (best_cp (a := 1) (c := 0) hwd ws.length ws (Nat.le_refl _)).1 hs with h | ⟨b, h, rfl⟩
      · exact dk5 s h
      · have := dk4 b (cp_mem (best_cp (a := 1) (c := 0) hwd ws.length ws (Nat.le_refl _)).1 h).1; omega
    have hlb := letters_ub hsz
    have hln := letters_nn (bestV bs ws)
    rw [HBV.out] at g1 g2 g3 g4 hsz hlb hln
    have hlv : leastV 1 0 bs ws = letters V := by unfold leastV; rw [HDO.out]; exact g2.symm
    have hdr : ∀ u, bestO bs (ws.drop u) = some (bestV bs (ws.drop u)) := fun u => by
      have hsp : deskOk bs (ws.drop u) = true := by
        unfold deskOk
        rw [hb0, Bool.true_and]
        unfold speechOk wordsOk at hs0 ⊢
        rw [Bool.and_eq_true, decide_eq_true_eq, List.all_eq_true] at hs0 ⊢
        exact ⟨by rw [List.length_drop]; omega, fun x hx => hs0.2 x (List.mem_of_mem_drop hx)⟩
      unfold bestO
      rw [hsp]
    have hR := implCopyRead_any A F n c V.length fc bs V w4 hnc1 RX4.out RF4.out
    rw [g1] at hR
    have HR := hid hR
    have HLV := hid hlv
    have HDR := hid hdr
    have HG3 := hid g3
    have HG4 := hid g4
    have HSZ := hid hsz
    have HMW := hid hmw
    obtain ⟨LV, hLV⟩ : ∃ LV, letters V = LV := ⟨_, rfl⟩
    have HLL := hid hLV
    rw [hLV] at HLV hlb hln
    clear hR hlv hdr g1 g2 g3 g4 hsz hmw dk1 dk2 dk3 dk4 dk5 hb0 hs0 hwd HLN hLV HV hgc hgc63
    go_wp2_with fail
    refine HR.out.mono ?_
    intro e w5 hres
    obtain ⟨A9, c9, rfl, h9, h963, hR9, hb5⟩ := sb_rd hres (by rw [Option.getD_some, ← HMW.out]; omega)
    simp only [Option.getD_some, Option.isSome_some] at h9 hR9 ⊢
    have RR5 := hid hR9
    have RX5 := hid (RX4.out.bl hb5)
    have RY5 := hid (RY4.out.bl hb5)
    have RF5 := hid (RF4.out.bl hb5)
    have HB := hid (HB.out.trans (hb5.mono HB.out.size))
    clear hb5 RX4 RY4 RF4
    clear hres hR9 HR
    go_wp2_with fail
    refine (sameTexts_any _ _ _ _ _ _ _ _ _ _ _ RR5.out RY5.out).mono ?_
    rintro e w6 ⟨rfl, hb6⟩
    have RX6 := hid (RX5.out.bl hb6)
    have RY6 := hid (RY5.out.bl hb6)
    have RF6 := hid (RF5.out.bl hb6)
    have HB := hid (HB.out.trans (hb6.mono HB.out.size))
    clear hb6 RX5 RY5 RF5
    clear RR5
    rw [eqD_self]
    have HLT := hid (lawsLetters_any F V.length fc 0 V w6 RF6.out hVl HSZ.out)
    rw [HLL.out] at HLT
    go_wp2_with fail
    refine HLT.out.mono ?_
    rintro e w7 ⟨rfl, rfl⟩
    have HLS := hid (implCopyLeast_any A B n c m d bs ws w6 hnc1 hmd hd63 RX6.out RY6.out)
    rw [HLV.out] at HLS
    go_wp2_with fail
    refine HLS.out.mono ?_
    rintro e w7 ⟨rfl, hb7⟩
    have RX7 := hid (RX6.out.bl hb7)
    have RY7 := hid (RY6.out.bl hb7)
    have RF7 := hid (RF6.out.bl hb7)
    have HB := hid (HB.out.trans (hb7.mono HB.out.size))
    clear hb7 RX6 RY6 RF6
    clear HLT HLS
    by_cases hV0 : V = []
    case pos =>
      have hw0 := HG3.out.1 hV0
      have hm0 : m = 0 := by rw [HMW.out, hw0]; rfl
      clear hw0
      subst hV0 hm0
      go_wp2_with fail
      go_ret
      exact ⟨rfl, HB.out⟩
    case neg =>
    have hwne : ws ≠ [] := fun h => hV0 (HG3.out.2 h)
    obtain ⟨x, x1, x2, x3, x4⟩ := HG4.out hwne
    obtain ⟨v, hv⟩ : ∃ v, V.length = v := ⟨_, rfl⟩
    have hv1 : 1 ≤ v := by rw [← hv]; exact List.length_pos_iff.2 hV0
    obtain ⟨bF, oF, rfl, _, hbF, _⟩ := RF7.out.2.2 (by omega)
    obtain ⟨u, hu⟩ : ∃ u, x.length = u := ⟨_, rfl⟩
    rw [hu] at x2 x3 x4
    rw [← HMW.out] at x2
    obtain ⟨bB, oB, rfl, _, hbB, _⟩ := RY7.out.2.2 (by omega)
    rw [hv] at RF7 hVl hfc ⊢
    have hv0i : ¬ ((v : Int) = 0) := by omega
    have hvb : ((v : Int) == 0) = false := by simpa using hv0i
    have h1v : (1 : Int) ≤ (v : Int) := by omega
    have h1f : (1 : Int) ≤ (fc : Int) := by omega
    have h1fn : 1 ≤ fc := by omega
    have hf0 : ¬ (fc = 0) := by omega
    have hum : (u : Int) ≤ (m : Int) := by omega
    have hud : (u : Int) ≤ (d : Int) := by omega
    have hudn : u ≤ d := by omega
    have HV := hid hv
    have HU := hid hu
    have HX1 := hid x1
    have HX4 := hid x4
    clear hwne hV0 x1 x4 hv hu HG3 HG4
    have hs1 := RF7.out.sub (i := 0) (j := 1) (Nat.zero_le _) hv1 (some ⟨bF, oF, none⟩) (fun b off e _ => by injection e with e; injection e with e1 e2 _; subst e1 e2; rw [Nat.zero_mul, Nat.add_zero])
    rw [Nat.sub_zero, List.drop_zero] at hs1
    have hR := implCopyRead_any A (some ⟨bF, oF, none⟩) n c 1 fc bs (V.take 1) w7 hnc1 RX7.out hs1
    rw [HX1.out] at hR
    have HR := hid hR
    clear hs1 hR
    go_wp2_with fail
    refine HR.out.mono ?_
    intro e w8 hres
    obtain ⟨A11, c11, rfl, h11, _, _, hb8⟩ := sb_rd hres (by rw [Option.getD_some, HU.out]; omega)
    simp only [Option.getD_some, Option.isSome_some] at h11 ⊢
    rw [HU.out] at h11 ⊢
    have RX8 := hid (RX7.out.bl hb8)
    have RY8 := hid (RY7.out.bl hb8)
    have RF8 := hid (RF7.out.bl hb8)
    have HB := hid (HB.out.trans (hb8.mono HB.out.size))
    clear hb8 RX7 RY7 RF7
    clear hres HR
    have hsub2 : ∀ A2 : Option Addr, (u < m → A2 = some ⟨bB, oB + u, none⟩) → Rd strS 0 w8.heap.size w8 A2 (m - u) (ws.drop u) := fun A2 hA2 => by
      have := RY8.out.sub (i := u) (j := m) (by omega) (Nat.le_refl _) A2 (fun b off e hl => by injection e with e; injection e with e1 e2 _; subst e1 e2; rw [show strS.sz = 1 from rfl, Nat.mul_one]; exact hA2 hl)
      rwa [List.take_of_length_le (by rw [← HMW.out]; exact Nat.le_refl _)] at this
    have call2 : ∀ (A2 : Option Addr), (u < m → A2 = some ⟨bB, oB + u, none⟩) → Calls Try.prog 20 #[.slice A n c, .slice A2 (m - u) (d - u)] w8 (RetSB w8 (some (V.drop 1))) := fun A2 hA2 => by
      have := implCopyBest_any A A2 n c (m - u) (d - u) bs (ws.drop u) w8 hnc1 (by omega) (by omega) RX8.out (hsub2 A2 hA2)
      rwa [HDR.out, HX4.out] at this
    have HL := hid call2
    have hdl : (V.drop 1).length = v - 1 := by rw [List.length_drop, HV.out]
    have HDL := hid hdl
    have hsub3 : ∀ (W : World) (hb : Below w8.heap.size w8 W) (A2 : Option Addr), (1 < v → A2 = some ⟨bF, oF + 1, none⟩) → Rd strS 0 W.heap.size W A2 (v - 1) (V.drop 1) := fun W hb A2 hA2 => by
      have := (RF8.out.bl hb).sub (i := 1) (j := v) hv1 (Nat.le_refl _) A2 (fun b off e hl => by injection e with e; injection e with e1 e2 _; subst e1 e2; rw [show strS.sz = 1 from rfl, Nat.mul_one]; exact hA2 hl)
      rwa [List.take_of_length_le (by rw [HV.out]; exact Nat.le_refl _)] at this
    have HS3 := hid hsub3
    clear call2 hsub2 hsub3 hdl HX1 HX4 HDR
    by_cases hdu : d = u
    case pos =>
      by_cases hf1 : fc = 1
      case pos =>
        obtain rfl : u = m := by omega
        subst hdu
        simp only [Nat.sub_self] at HL
        obtain rfl : v = 1 := by omega
        subst hf1
        simp only [Nat.sub_self] at HS3 HDL
        go_wp2_with fail
        refine (HL.out _ (fun h => absurd h (Nat.lt_irrefl _))).mono ?_
        intro e w9 hres
        obtain ⟨A13, c13, rfl, h13, _, hR13, hb9⟩ := sb_rd hres (by rw [Option.getD_some, HDL.out]; omega)
        simp only [Option.getD_some, Option.isSome_some] at h13 hR13 ⊢
        rw [HDL.out] at h13 hR13 ⊢
        have RR := hid hR13
        have R3 := hid (HS3.out w9 hb9)
        have HB := hid (HB.out.trans (hb9.mono HB.out.size))
        clear hres hR13 hb9 HL
        go_wp2_with fail
        refine (sameTexts_any _ _ _ _ _ _ _ _ _ _ _ RR.out (R3.out _ (fun h => absurd h (by omega)))).mono ?_
        rintro e w10 ⟨rfl, hb10⟩
        have HB := hid (HB.out.trans (hb10.mono HB.out.size))
        clear hb10
        rw [eqD_self]
        go_wp2_with fail
        go_ret
        exact ⟨rfl, HB.out⟩
      case neg =>
        obtain rfl : u = m := by omega
        subst hdu
        simp only [Nat.sub_self] at HL
        go_wp2_with fail
        refine (HL.out _ (fun h => absurd h (Nat.lt_irrefl _))).mono ?_
        intro e w9 hres
        obtain ⟨A13, c13, rfl, h13, _, hR13, hb9⟩ := sb_rd hres (by rw [Option.getD_some, HDL.out]; omega)
        simp only [Option.getD_some, Option.isSome_some] at h13 hR13 ⊢
        rw [HDL.out] at h13 hR13 ⊢
        have RR := hid hR13
        have R3 := hid (HS3.out w9 hb9)
        have HB := hid (HB.out.trans (hb9.mono HB.out.size))
        clear hres hR13 hb9 HL
        go_wp2_with fail
        refine (sameTexts_any _ _ _ _ _ _ _ _ _ _ _ RR.out (R3.out _ (fun _ => rfl))).mono ?_
        rintro e w10 ⟨rfl, hb10⟩
        have HB := hid (HB.out.trans (hb10.mono HB.out.size))
        clear hb10
        rw [eqD_self]
        go_wp2_with fail
        go_ret
        exact ⟨rfl, HB.out⟩
    case neg =>
      by_cases hf1 : fc = 1
      case pos =>
        obtain rfl : v = 1 := by omega
        subst hf1
        simp only [Nat.sub_self] at HS3 HDL
        go_wp2_with fail
        refine (HL.out _ (fun _ => rfl)).mono ?_
        intro e w9 hres
        obtain ⟨A13, c13, rfl, h13, _, hR13, hb9⟩ := sb_rd hres (by rw [Option.getD_some, HDL.out]; omega)
        simp only [Option.getD_some, Option.isSome_some] at h13 hR13 ⊢
        rw [HDL.out] at h13 hR13 ⊢
        have RR := hid hR13
        have R3 := hid (HS3.out w9 hb9)
        have HB := hid (HB.out.trans (hb9.mono HB.out.size))
        clear hres hR13 hb9 HL
        go_wp2_with fail
        refine (sameTexts_any _ _ _ _ _ _ _ _ _ _ _ RR.out (R3.out _ (fun h => absurd h (by omega)))).mono ?_
        rintro e w10 ⟨rfl, hb10⟩
        have HB := hid (HB.out.trans (hb10.mono HB.out.size))
        clear hb10
        rw [eqD_self]
        go_wp2_with fail
        go_ret
        exact ⟨rfl, HB.out⟩
      case neg =>
        go_wp2_with fail
        refine (HL.out _ (fun _ => rfl)).mono ?_
        intro e w9 hres
        obtain ⟨A13, c13, rfl, h13, _, hR13, hb9⟩ := sb_rd hres (by rw [Option.getD_some, HDL.out]; omega)
        simp only [Option.getD_some, Option.isSome_some] at h13 hR13 ⊢
        rw [HDL.out] at h13 hR13 ⊢
        have RR := hid hR13
        have R3 := hid (HS3.out w9 hb9)
        have HB := hid (HB.out.trans (hb9.mono HB.out.size))
        clear hres hR13 hb9 HL
        go_wp2_with fail
        refine (sameTexts_any _ _ _ _ _ _ _ _ _ _ _ RR.out (R3.out _ (fun _ => rfl))).mono ?_
        rintro e w10 ⟨rfl, hb10⟩
        have HB := hid (HB.out.trans (hb10.mono HB.out.size))
        clear hb10
        rw [eqD_self]
        go_wp2_with fail
        go_ret
        exact ⟨rfl, HB.out⟩
end Go.Proofs.Ythijnojefeeaoaa
