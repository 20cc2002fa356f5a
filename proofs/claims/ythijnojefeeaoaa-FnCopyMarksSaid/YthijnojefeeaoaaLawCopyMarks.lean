/- The law FnCopyMarks returns true for all arguments that can be read. -/
import Derived.Test.YthijnojefeeaoaaFew
import Derived.Test.YthijnojefeeaoaaCopyPure
import Derived.Test.YthijnojefeeaoaaBriefV
import Derived.Test.YthijnojefeeaoaaUsedW
namespace Go.Proofs.Ythijnojefeeaoaa
open Go.RowKit
attribute [local go_sem] Oper.semAt_some
set_option maxRecDepth 100000 in
set_option maxHeartbeats 1000000 in
theorem lawCopyMarks (A0 : Option Addr) (n0 c0 : Nat) (l0 : List UInt8) (w : World) (hnc : n0 ≤ c0) (hx : Rd byteS 0 w.heap.size w A0 n0 l0) :
    Calls Try.prog 9 #[.slice A0 n0 c0] w fun e w' => e = .returned (.bool true) ∧ Below w.heap.size w w' := by
  have hn63 := hx.2.1
  have HX := hid hx
  clear hx
  by_cases hn : n0 ≤ 1048576
  case neg =>
    have h1 : (1048576 : Int) < (n0 : Int) := by omega
    go_enter Try.func9, Try.ntmps9
    go_wp2_with fail
    go_ret
    exact ⟨rfl, Below.refl _ _⟩
  have h1 : ¬ (1048576 : Int) < (n0 : Int) := by omega
  go_enter Try.func9, Try.ntmps9
  go_wp2_with fail
  refine (DrawCopyBest_any A0 n0 c0 l0 w hnc HX.out).mono ?_
  rintro e w1 ⟨A, n, c, bs, B, m, d, ws, rfl, ⟨hnc1, hn6, hsm⟩, ⟨hmd, hm8, hd63, hws⟩, hx1, hy1, hb1⟩
  have HB1 := hid hb1
  have RX := hid hx1
  have RY := hid hy1
  clear hx1 hy1 hb1
  go_wp2_with fail
  refine (implCopyBest_any A B n c m d bs ws w1 hnc1 hmd hd63 RX.out RY.out).mono ?_
  intro e w2 hres
  have hlen := bestO_len bs ws
  obtain ⟨V, hV⟩ : ∃ V, bestO bs ws = V := ⟨_, rfl⟩
  have HSP := hid fun W hb => specCopyBest_any A B n c m d bs ws W hmd hd63 (RX.out.bl (w' := W) hb) (RY.out.bl hb)
  rw [hV] at hres hlen HSP
  have HV := hid hV
  clear hV
  cases V with
  | none =>
    have hres' := sb_rd hres hlen
    simp only [Option.getD_none, Option.isSome_none, List.length_nil] at hres'
    obtain ⟨F, fc, rfl, hfc, hfc63, hF, hb2⟩ := hres'
    have HB2 := hid hb2
    have RF := hid hF
    clear hF hb2 hres hlen
    go_wp2_with fail
    refine (HSP.out w2 HB2.out).mono ?_
    intro e w3 hres
    have hres' := sb_rd hres (by simp)
    simp only [Option.getD_none, Option.isSome_none, List.length_nil] at hres'
    obtain ⟨H, gc, rfl, hgc, hgc63, hG, hb3⟩ := hres'
    have RF3 := hid (RF.out.bl hb3)
    have RG3 := hid hG
    have HB3 := hid (btr HB2.out hb3)
    clear hG hb3 hres
    go_wp2_with fail
    refine (sameTexts_any _ _ _ _ _ _ _ _ _ _ _ RF3.out RG3.out).mono ?_
    rintro e w4 ⟨rfl, hb4⟩
    have HB4 := hid (btr HB3.out hb4)
    have RF4 := hid (RF3.out.bl hb4)
    have RG4 := hid (RG3.out.bl hb4)
    clear hb4
    rw [eqD_self]
    go_wp2_with fail
    refine (sameTexts_any _ _ _ _ _ _ _ _ _ _ _ RF4.out RG4.out).mono ?_
    rintro e w5 ⟨rfl, hb5⟩
    have HB5 := hid (btr HB4.out hb5)
    clear hb5
    rw [eqD_self]
    go_wp2_with fail
    go_ret
    exact ⟨rfl, HB1.out.trans (HB5.out.mono HB1.out.size)⟩
  | some V =>
    have hdo : deskOk bs ws = true ∧ bestV bs ws = V := by
      have := HV.out
      unfold bestO at this
      cases h : deskOk bs ws with
      | true => rw [h] at this; injection this with this; exact ⟨rfl, this⟩
      | false => rw [h] at this; cases this
    have HDO := hid hdo.1
    have HBV := hid hdo.2
    clear hdo
    have hres' := sb_rd hres hlen
    simp only [Option.getD_some, Option.isSome_some] at hres'
    obtain ⟨F, fc, rfl, hfc, hfc63, hF, hb2⟩ := hres'
    have HB2 := hid hb2
    have RF := hid hF
    have HLN := hid hlen
    clear hF hb2 hres hlen
    go_wp2_with fail
    refine (HSP.out w2 HB2.out).mono ?_
    intro e w3 hres
    have hres' := sb_rd hres HLN.out
    simp only [Option.getD_some, Option.isSome_some] at hres'
    obtain ⟨H, gc, rfl, hgc, hgc63, hG, hb3⟩ := hres'
    have RF3 := hid (RF.out.bl hb3)
    have RG3 := hid hG
    have HB3 := hid (btr HB2.out hb3)
    clear hG hb3 hres HSP
    go_wp2_with fail
    refine (sameTexts_any _ _ _ _ _ _ _ _ _ _ _ RF3.out RG3.out).mono ?_
    rintro e w4 ⟨rfl, hb4⟩
    have HB4 := hid (btr HB3.out hb4)
    have HB := hid (HB1.out.trans (HB4.out.mono HB1.out.size))
    have RF4 := hid (RF3.out.bl hb4)
    have RX4 := hid (RX.out.bl HB4.out)
    have RY4 := hid (RY.out.bl HB4.out)
    clear hb4 RF RF3 RG3 RX RY HB1 HB2 HB3 HB4
    rw [eqD_self]
    obtain ⟨dk1, dk2, dk3, dk4, dk5⟩ := desk_len HDO.out
    have hmw := RY4.out.1
    have hVl := HLN.out
    simp only [Option.getD_some] at hVl
    by_cases hm0 : m = 0
    case pos =>
      have hw0 : ws = [] := List.length_eq_zero_iff.1 (by omega)
      have hV0 : V = [] := by rw [← HBV.out, hw0]; unfold bestV; rw [bestP]; rfl
      subst hm0 hV0
      clear hmw hw0
      go_wp2_with fail
      go_ret
      exact ⟨rfl, HB.out⟩
    case neg =>
    have hne : ws ≠ [] := fun h => hm0 (by rw [hmw, h]; rfl)
    obtain ⟨o, r, hor, hml⟩ := marks_law (desk_yes HDO.out).1 hne
    rw [HBV.out] at hor
    subst hor
    obtain ⟨q, hq⟩ : ∃ q, (o :: r).length = q + 1 := ⟨r.length, rfl⟩
    have hqi : ¬ ((q : Int) + 1 = 0) := by omega
    have hqb : ((q : Int) + 1 == 0) = false := by simpa using hqi
    obtain ⟨G, hG⟩ : ∃ G, gt (costs 1 0 bs ws) 0 = G := ⟨_, rfl⟩
    have hle := implCopyLeast_any A B n c m d bs ws w4 hnc1 hmd hd63 RX4.out RY4.out
    have hlv : leastV 1 0 bs ws = G := by unfold leastV; rw [HDO.out]; exact hG
    rw [hlv] at hle
    have HLE := hid hle
    have HG := hid hG
    have HML := hid hml
    have HDK := hid (And.intro dk3 (And.intro dk4 dk5))
    have HMW := hid hmw
    clear hle hlv hG hml dk1 dk2 dk3 dk4 dk5 hne hmw
    go_wp2_with fail
    refine HLE.out.mono ?_
    rintro e w5 ⟨rfl, hb5⟩
    have HB5 := hid (HB.out.trans (hb5.mono HB.out.size))
    have RX5 := hid (RX4.out.bl hb5)
    have RY5 := hid (RY4.out.bl hb5)
    have RF5 := hid (RF4.out.bl hb5)
    have hmw := HMW.out
    obtain ⟨bF, oF, rfl, _, hbF, hcF⟩ := RF5.out.2.2 (by omega)
    obtain ⟨bB, oB, rfl, _, hbB, hcB⟩ := RY5.out.2.2 (by omega)
    have hf0 := (hcF.str (k := 0) (by omega)).1
    have hy0 := (hcB.str (k := 0) (by omega)).1
    have hgo : gt (o :: r) 0 = o := by simp [gt]
    rw [hgo, Nat.add_zero] at hf0
    rw [Nat.add_zero] at hy0
    have HF0 := hid hf0
    have HY0 := hid hy0
    have hqi1 : (0 : Int) < (q : Int) + 1 := by omega
    have hmi1 : (0 : Int) < (m : Int) := by omega
    rw [hq] at RF5 hVl hfc
    clear hb5 HLE RX4 RY4 RF4 hgo hf0 hy0 hcF hcB hmw hq HLN hgc HB HV
    go_wp2_with fail
    go_loopg [10, 11] n (fun gk i l11 wr => ∃ k : Nat, k + gk = n ∧ i = .int .i64 k ∧ marksG bs ws o bs = marksG bs ws o (bs.drop k) ∧ Below w5.heap.size w5 wr)
    case atStart => exact ⟨0, Nat.zero_add _, rfl, rfl, Below.refl _ _⟩
    case round =>
      obtain ⟨k, hkg, rfl, hmk, hb⟩ := hrel
      have HKG := hid hkg
      have HMK := hid hmk
      have HB := hid hb
      have hk : k ≤ n := by omega
      have hwz := hb.size
      have f0 := bcl hb HF0.out
      have af0 := aft_cell (B := wr.heap.size) (w0 := wr) (block_lt_of_cell f0) f0
      clear hkg hmk hb
      by_cases hlt : k < n
      case neg =>
        obtain rfl : k = n := by omega
        have hog : o = gt ws 0 := by
          have h1 := HMK.out
          rw [List.drop_eq_nil_of_le (by rw [RX5.out.1]; exact Nat.le_refl _)] at h1
          rcases HML.out with h2 | h2
          · rw [h1] at h2; cases h2
          · exact h2.2
        have y0 := bcl HB.out HY0.out
        rw [← hog] at y0
        have ay0 := aft_cell (B := wr.heap.size) (w0 := wr) (block_lt_of_cell y0) y0
        have hse := str_eq o
        clear hog f0 y0
        go_wp2_with fail
        refine wp_region_aft (B := wr.heap.size) (w0 := wr) (Below.refl _ _) (by kernel_rfl) (by kernel_rfl) ?_
        repeat (go_big_quiet_step (fail))
        refine wpQuiet_nil ?_
        rintro w6 ⟨⟨w7, hb6⟩, hw6⟩
        have hw7 : w6 = w7 := hw6
        clear hw6
        subst hw7
        have HB6 := hid hb6
        clear hb6 af0 ay0
        go_wp2_with fail
        go_ret
        exact ⟨rfl, HB5.out.trans ((HB.out.trans (HB6.out.mono HB.out.size)).mono HB5.out.size)⟩
      case pos =>
        have hki : (k : Int) < (n : Int) := by omega
        have hkb : k < bs.length := by rw [← RX5.out.1]; exact hlt
        obtain ⟨bA, oA, rfl, _, hbA, hcA⟩ := RX5.out.2.2 (by omega)
        obtain ⟨A1, c1, x0, x1, x2, _, x4⟩ := hcA.brief hlt
        obtain ⟨e1, e2⟩ := HDK.out.1 _ (gt_mem hkb)
        have e3 := HDK.out.2.1 _ (gt_mem hkb)
        have hmg : marksG bs ws o bs = if eqD (gt bs k).1 o then some true else if ahead (gt bs k) ws && (gt (costs 1 0 bs (ws.drop (gt bs k).2.length)) 0 + ((gt bs k).1.size : Int) == gt (costs 1 0 bs ws) 0) then some false else marksG bs ws o (bs.drop (k + 1)) := by
          rw [HMK.out, drop_gt hkb, marksG]
        obtain ⟨B2, hB2⟩ : ∃ B2, gt bs k = B2 := ⟨_, rfl⟩
        rw [hB2] at x0 x1 x2 x4 e1 e2 e3 hmg
        obtain ⟨s1, zs⟩ := B2
        dsimp only at x0 x1 x2 x4 e1 e2 e3 hmg
        obtain ⟨u, hu⟩ : ∃ u, zs.length = u := ⟨_, rfl⟩
        rw [hu] at x1 x4 e1 e2 hmg
        have HU := hid hu
        have X4 := hid (x4.bl HB.out)
        have HMG := hid hmg
        have c0 := bcl HB.out x0
        have c1' := bcl HB.out x1
        have ac0 := aft_cell (B := wr.heap.size) (w0 := wr) (block_lt_of_cell c0) c0
        have ac1 := aft_cell (B := wr.heap.size) (w0 := wr) (block_lt_of_cell c1') c1'
        clear x0 x1 x4 hcA hmg hB2 hu
        go_wp2_with fail
        refine wp_region_aft (B := wr.heap.size) (w0 := wr) (Below.refl _ _) (by kernel_rfl) (by kernel_rfl) ?_
        repeat (go_big_quiet_step (fail))
        refine wpQuiet_nil ?_
        rintro w6 ⟨⟨w7, hb6⟩, hw6⟩
        have hw7 : w6 = w7 := hw6
        clear hw6
        subst hw7
        have HB6 := hid (HB.out.trans (hb6.mono HB.out.size))
        by_cases hso : s1 = o
        case pos =>
          have hse : (s1.toList == o.toList) = true := by rw [hso]; exact str_eq o
          rw [hse]
          clear hse hso hb6 af0 ac0 ac1 c1' f0
          go_wp2_with fail
          go_ret
          exact ⟨rfl, HB5.out.trans (HB6.out.mono HB5.out.size)⟩
        case neg =>
          rw [str_ne hso]
          have cc1 := bcl hb6 c1'
          have hmg := HMG.out
          rw [eqD_no hso, if_neg (by simp)] at hmg
          have HMG2 := hid hmg
          have hwz6 := hb6.size
          have X6 := hid (X4.out.bl hb6)
          have RX6 := hid (RX5.out.bl HB6.out)
          have RY6 := hid (RY5.out.bl HB6.out)
          have bc1 := aft_cell (B := w6.heap.size) (w0 := w6) (block_lt_of_cell cc1) cc1
          have bc0 := aft_cell (B := w6.heap.size) (w0 := w6) (block_lt_of_cell (bcl hb6 c0)) (bcl hb6 c0)
          clear hmg HMG hso hb6 af0 ac0 ac1 c1' f0 c0
          by_cases hum : u ≤ m
          case neg =>
            have hui : ¬ (u : Int) ≤ (m : Int) := by omega
            have hah : ahead (s1, zs) ws = false := by
              unfold ahead
              rw [decide_eq_false (by show ¬ zs.length ≤ ws.length; rw [HU.out, ← HMW.out]; exact hum), Bool.false_and]
            have HAH := hid hah
            clear hah
            go_wp2_with fail
            refine wp_region_aft (B := w6.heap.size) (w0 := w6) (Below.refl _ _) (by kernel_rfl) (by kernel_rfl) ?_
            repeat (go_big_quiet_step (fail))
            refine wpQuiet_nil ?_
            rintro w8 ⟨⟨w7, hb7⟩, hw7⟩
            have hw9 : w8 = w7 := hw7
            clear hw7
            subst hw9
            have HB7 := hid (HB6.out.trans (hb7.mono HB6.out.size))
            clear hb7 bc0 bc1 cc1
            go_wp2_with fail
            go_roundg (gk - 1)
            case measure => have := HKG.out; omega
            case rel => exact ⟨k + 1, by have := HKG.out; omega, by go_num, by rw [HMG2.out, HAH.out]; rfl, HB7.out⟩
          case pos =>
            have hui : (u : Int) ≤ (m : Int) := by omega
            have hud : (u : Int) ≤ (d : Int) := by omega
            have hudn : u ≤ d := by omega
            have hd0 : ¬ (d = 0) := by omega
            have hsub := RY6.out.sub (i := 0) (j := u) (Nat.zero_le _) hum (some ⟨bB, oB, none⟩) (fun b off e _ => by injection e with e; injection e with e1 e2 _; subst e1 e2; rw [Nat.zero_mul, Nat.add_zero])
            rw [Nat.sub_zero, List.drop_zero] at hsub
            obtain ⟨E, hE⟩ : ∃ E, eqD (ws.take u) zs = E := ⟨_, rfl⟩
            have hah : ahead (s1, zs) ws = E := by
              unfold ahead
              rw [decide_eq_true (by show zs.length ≤ ws.length; rw [HU.out, ← HMW.out]; exact hum), Bool.true_and]
              show eqD (ws.take zs.length) zs = E
              rw [HU.out, hE]
            have call : ∀ (p1 : Aft w6.heap.size w6), Calls Try.prog 46 #[.slice (some ⟨bB, oB, none⟩) u d, .slice A1 u c1] p1.val fun e w'' => e = .returned (.bool E) ∧ ∃ r : Aft w6.heap.size w6, w'' = r.val := fun p1 => by
              rw [← hE]
              exact aft_call (sameTexts_any _ _ _ _ _ _ 0 0 _ _ _ ((hsub.below p1.prop (Nat.le_refl _)).wide (Nat.le_refl _) p1.prop.size) ((X6.out.below p1.prop (Nat.le_refl _)).wide (Nat.le_refl _) p1.prop.size)) (Nat.le_refl _)
            have HS := hid call
            have hmg := HMG2.out
            rw [hah] at hmg
            have HMG3 := hid hmg
            clear hsub call hah hE HMG2 hmg
            cases E with
            | false =>
              go_wp2_with fail
              refine wp_region_aft (B := w6.heap.size) (w0 := w6) (Below.refl _ _) (by kernel_rfl) (by kernel_rfl) ?_
              repeat (go_big_quiet_step ((go_at_call 46; exact HS.out _)))
              refine wpQuiet_nil ?_
              rintro w8 ⟨⟨w7, hb7⟩, hw7⟩
              have hw9 : w8 = w7 := hw7
              clear hw7
              subst hw9
              have HB7 := hid (HB6.out.trans (hb7.mono HB6.out.size))
              clear hb7 bc0 bc1 cc1
              go_wp2_with fail
              go_roundg (gk - 1)
              case measure => have := HKG.out; omega
              case rel => exact ⟨k + 1, by have := HKG.out; omega, by go_num, by rw [HMG3.out]; rfl, HB7.out⟩
            | true =>
              have hsp : deskOk bs (ws.drop u) = true := by
                obtain ⟨h1, h2⟩ := desk_yes HDO.out
                unfold deskOk
                rw [h1, Bool.true_and]
                unfold speechOk wordsOk at h2 ⊢
                rw [Bool.and_eq_true, decide_eq_true_eq, List.all_eq_true] at h2 ⊢
                exact ⟨by rw [List.length_drop]; omega, fun x hx => h2.2 x (List.mem_of_mem_drop hx)⟩
              obtain ⟨P, hP⟩ : ∃ P, gt (costs 1 0 bs (ws.drop u)) 0 = P := ⟨_, rfl⟩
              have hlv : leastV 1 0 bs (ws.drop u) = P := by unfold leastV; rw [hsp]; exact hP
              have hk6 := fun b hb => (HDK.out.1 b hb).1
              have hp0 := costs_nn 1 0 (by omega) (by omega) hk6 (ws.drop u)
              have hp1 := words_le bs (ws.drop u) hk6
              have hp2 := letters_ub (ws := ws.drop u) (fun x hx => HDK.out.2.2 x (List.mem_of_mem_drop hx))
              rw [hP] at hp0 hp1
              rw [List.length_drop, ← HMW.out] at hp2
              have hwp : IntKind.i64.wrap (P + (s1.size : Int)) = P + (s1.size : Int) := IntWalk.i64_in _ (by omega)
              have hmg := HMG3.out
              rw [hP, HG.out, Bool.true_and] at hmg
              have hpg : (P + (s1.size : Int) == G) = false := by
                cases h : (P + (s1.size : Int) == G) with
                | false => rfl
                | true =>
                  rw [h, if_pos rfl] at hmg
                  rcases HML.out with h2 | h2
                  · rw [hmg] at h2; cases h2
                  · rw [hmg] at h2; cases h2.1
              rw [hpg, if_neg (by simp)] at hmg
              have hsub2 : ∀ A' : Option Addr, (u < m → A' = some ⟨bB, oB + u, none⟩) → Rd strS 0 w6.heap.size w6 A' (m - u) (ws.drop u) := fun A' hA' => by
                have := RY6.out.sub (i := u) (j := m) hum (Nat.le_refl _) A' (fun b off e hl => by injection e with e; injection e with e1 e2 _; subst e1 e2; rw [show strS.sz = 1 from rfl, Nat.mul_one]; exact hA' hl)
                rwa [List.take_of_length_le (by rw [← HMW.out]; exact Nat.le_refl _)] at this
              have call2 : ∀ (A' : Option Addr) (p1 : Aft w6.heap.size w6), (u < m → A' = some ⟨bB, oB + u, none⟩) → Calls Try.prog 22 #[.slice (some ⟨bA, oA, none⟩) n c, .slice A' (m - u) (d - u)] p1.val fun e w'' => e = .returned (.int .i64 P) ∧ ∃ r : Aft w6.heap.size w6, w'' = r.val := fun A' p1 hA' => by
                rw [← hlv]
                exact aft_call (implCopyLeast_any _ _ _ _ _ _ _ _ _ hnc1 (by omega) (by omega) (((RX6.out).below p1.prop (Nat.le_refl _)).wide (Nat.le_refl _) p1.prop.size) (((hsub2 A' hA').below p1.prop (Nat.le_refl _)).wide (Nat.le_refl _) p1.prop.size)) (Nat.le_refl _)
              have HL := hid call2
              have HMG4 := hid hmg
              clear call2 hsub2 hmg hP hlv hk6 hp0 hp1 hp2 hsp HMG3
              by_cases hdu : d = u
              case pos =>
                obtain rfl : u = m := by omega
                subst hdu
                simp only [Nat.sub_self] at HL
                go_wp2_with fail
                refine wp_region_aft (B := w6.heap.size) (w0 := w6) (Below.refl _ _) (by kernel_rfl) (by kernel_rfl) ?_
                repeat (go_big_quiet_step (first | (go_at_call 46; exact HS.out _) | (go_at_call 22; exact HL.out _ _ (fun h => absurd h (Nat.lt_irrefl _)))))
                refine wpQuiet_nil ?_
                rintro w8 ⟨⟨w7, hb7⟩, hw7⟩
                have hw9 : w8 = w7 := hw7
                clear hw7
                subst hw9
                have HB7 := hid (HB6.out.trans (hb7.mono HB6.out.size))
                clear hb7 bc0 bc1 cc1
                go_wp2_with fail
                go_roundg (gk - 1)
                case measure => have := HKG.out; omega
                case rel => exact ⟨k + 1, by have := HKG.out; omega, by go_num, HMG4.out, HB7.out⟩
              case neg =>
                go_wp2_with fail
                refine wp_region_aft (B := w6.heap.size) (w0 := w6) (Below.refl _ _) (by kernel_rfl) (by kernel_rfl) ?_
                repeat (go_big_quiet_step (first | (go_at_call 46; exact HS.out _) | (go_at_call 22; exact HL.out _ _ (fun _ => rfl))))
                refine wpQuiet_nil ?_
                rintro w8 ⟨⟨w7, hb7⟩, hw7⟩
                have hw9 : w8 = w7 := hw7
                clear hw7
                subst hw9
                have HB7 := hid (HB6.out.trans (hb7.mono HB6.out.size))
                clear hb7 bc0 bc1 cc1
                go_wp2_with fail
                go_roundg (gk - 1)
                case measure => have := HKG.out; omega
                case rel => exact ⟨k + 1, by have := HKG.out; omega, by go_num, HMG4.out, HB7.out⟩
end Go.Proofs.Ythijnojefeeaoaa
