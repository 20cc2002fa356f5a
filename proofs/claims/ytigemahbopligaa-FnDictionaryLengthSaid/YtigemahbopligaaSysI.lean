/- Systems: the program's map of a system (signsOf). -/
import Derived.Test.YtigemahbopligaaMapSys
import Derived.Test.YtigemahbopligaaStrokeEq
import Derived.Test.YtigemahbopligaaWords3
import Derived.Test.YtigemahbopligaaOutline
import Derived.Deep.LoopGhost
namespace Go.Proofs.Ytigemahbopligaa
open Go.RowKit Go.Maps
attribute [local go_sem] Oper.semAt_some
/-- The map of a system and whether the list is one. -/
def RetSg (w : World) (l : List SignT) (e : Ending) (w' : World) : Prop :=
  (sysOk l = true ∧ ∃ b, e = .returned (.tuple #[.map (some b), .bool true]) ∧ MapL w' b (kvS l) ∧ Below w.heap.size w w') ∨ (sysOk l = false ∧ e = .returned (.tuple #[.map none, .bool false]) ∧ Below w.heap.size w w')
theorem chg_drew (w : World) (D : Nat → Prop) : Chg D w w.drew := (Chg.refl D w).drew
set_option maxRecDepth 100000 in
set_option maxHeartbeats 4000000 in
theorem signsOf_any (A : Option Addr) (n c lo : Nat) (l : List SignT) (w : World) (hx : Rd signS lo w.heap.size w A n l) :
    Calls Try.prog 77 #[.slice A n c] w (RetSg w l) := by
  have E1 := hid hx.1
  have h63 := hx.2.1
  by_cases h21 : n ≤ 21
  case neg =>
    have HF := hid (show sysOk l = false by unfold sysOk; rw [decide_eq_false (by rw [← E1.out]; exact h21), Bool.false_and])
    have h21i : (21 : Int) < (n : Int) := by omega
    clear hx
    go_enter Try.func77, Try.ntmps77
    go_wp2_with fail
    go_ret2
    exact .inr ⟨HF.out, rfl, Below.refl _ _⟩
  case pos =>
  have h21i : ¬ (21 : Int) < (n : Int) := by omega
  have HSY := hid (show sysOk l = sysFrom [] l by unfold sysOk; rw [decide_eq_true (by rw [← E1.out]; exact h21), Bool.true_and])
  have hmk1 := fun (x : Int) (w : World) => makeMap_rule (P := Try.prog) Try.underlying116 x w
  have hmk2 := fun (x : Int) (w : World) => makeMap_rule (P := Try.prog) Try.underlying133 x w
  obtain ⟨W2, hW2⟩ : ∃ W2, (w.alloc (.map #[] 0)).alloc (.map #[] 0) = W2 := ⟨_, rfl⟩
  have hM := (MapL.made w).bl (bnew (w.alloc (.map #[] 0)) (.map #[] 0))
  have hL := MapL.made (w.alloc (.map #[] 0))
  have hB2 := bal (bnew w (.map #[] 0)) (.map #[] 0)
  rw [World.size_alloc] at hL
  rw [hW2] at hM hL hB2
  have HM := hid hM
  have HL := hid hL
  have HB2 := hid hB2
  have HW2 := hid hW2
  have HX := hid hx
  clear hx hM hL hB2 hW2
  go_enter Try.func77, Try.ntmps77
  go_wp2_with fail
  rw [HW2.out]
  clear hmk1 hmk2
  obtain ⟨M2, hM2⟩ : ∃ m, w.heap.size + 1 = m := ⟨_, rfl⟩
  rw [hM2] at HL ⊢
  have HM2 := hid hM2
  clear hM2
  go_loopg [7, 8, 9, 10, 11, 23] n (fun gk _ _ _ _ _ i wr => ∃ k : Nat, k + gk = n ∧ i = .int .i64 k ∧ MapL wr w.heap.size (kvS (l.take k)) ∧ MapL wr M2 (kvL (l.take k)) ∧ sysFrom [] l = sysFrom (l.take k) (l.drop k) ∧ (∀ x ∈ l.take k, signOk x = true) ∧ Below w.heap.size w wr)
  case atStart => exact ⟨0, Nat.zero_add _, rfl, HM.out, HL.out, rfl, (fun x hx => by simp at hx), HB2.out⟩
  case round =>
    clear HM HL HB2
    obtain ⟨k, hkg, rfl, hM, hL, hs, ha, hb⟩ := hrel
    have HKG := hid hkg
    have HS := hid hs
    have HB := hid hb
    have HM := hid hM
    have HL := hid hL
    have HA := hid ha
    have hk : k ≤ n := by omega
    have hbz := hb.size
    clear hkg hs hb hM hL ha
    by_cases hlt : k < n
    case neg =>
      obtain rfl : k = n := by omega
      have HF := hid (show sysOk l = true by
        rw [HSY.out, HS.out, List.drop_eq_nil_of_le (by rw [E1.out]; omega)]
        rfl)
      have HMF := hid (show MapL wr w.heap.size (kvS l) by
        have := HM.out
        rwa [List.take_of_length_le (by rw [E1.out]; omega)] at this)
      go_wp2_with fail
      go_ret2
      exact .inl ⟨HF.out, _, rfl, HMF.out, HB.out⟩
    case pos =>
      have hlti : (k : Int) < (n : Int) := by omega
      have hkl : k < l.length := by rw [← E1.out]; exact hlt
      have HD := hid (sys_drop hkl)
      have HTK := hid (take_gt hkl)
      obtain ⟨b, off, hA, _, hbb, hcx⟩ := HX.out.2.2 (by omega)
      subst hA
      obtain ⟨x0, x1, x2, x3⟩ := hcx.sign hlt
      have cx0 := bcl HB.out x0
      have cx1 := bcl HB.out x1
      have cx2 := bcl HB.out x2
      obtain ⟨x, hx⟩ : ∃ x, gt l k = x := ⟨_, rfl⟩
      rw [hx] at x3 cx0 cx1 cx2 HD HTK
      obtain ⟨s, d, z⟩ := x
      dsimp only at x3 cx0 cx1 cx2
      have HNO := hid (fun (h : signOk (s, d, z) = false) => (show sysOk l = false by
        rw [HSY.out, HS.out, HD.out, h, Bool.false_and, Bool.false_and]))
      have HBN := hid (fun (o : Obj) => btr HB.out (bnew wr o))
      clear hcx x0 x1 x2 hx hkl
      by_cases h1 : s.size = 1
      case neg =>
        have h1i : ((s.size : Int) != 1) = true := by simp; omega
        have HF := hid (HNO.out (by unfold signOk; rw [letterOk_no h1]; rfl))
        go_wp2_with fail
        go_ret2
        exact .inr ⟨HF.out, rfl, HBN.out _⟩
      case pos =>
      have h1i : ((s.size : Int) != 1) = false := by simp; omega
      have hlt0 : 0 < s.size := by omega
      obtain ⟨vo, hvo⟩ : ∃ vo, letterB (s[0]'hlt0) = vo := ⟨_, rfl⟩
      have hVO := fun w1 => isConsonant_any (s[0]'hlt0) w1
      rw [hvo] at hVO
      have HVO := hid hVO
      have HLK := hid (show letterOk s = vo by rw [letterOk_one h1]; exact hvo)
      obtain ⟨st, hst⟩ : ∃ st, strokeOk (d, z) = st := ⟨_, rfl⟩
      have hSV := fun w1 => implStrokeValid_any d z w1
      rw [hst] at hSV
      have HSV := hid hSV
      have HST := hid hst
      have H1 := hid h1
      clear hvo hVO hst hSV h1
      cases vo with
      | false =>
        have HF := hid (HNO.out (by unfold signOk; rw [HLK.out]; rfl))
        go_wp2_with fail
        refine (HVO.out _).mono ?_
        rintro e w1 ⟨rfl, rfl⟩
        go_wp2_with fail
        go_ret2
        exact .inr ⟨HF.out, rfl, HBN.out _⟩
      | true =>
      cases st with
      | false =>
        have HF := hid (HNO.out (by unfold signOk; rw [HST.out, Bool.and_false]))
        go_wp2_with fail
        refine (HVO.out _).mono ?_
        rintro e w1 ⟨rfl, rfl⟩
        go_wp2_with fail
        refine (HSV.out _).mono ?_
        rintro e w1 ⟨rfl, hb1⟩
        have HB1 := hid (btr (HBN.out _) hb1)
        clear hb1
        go_wp2_with fail
        go_ret2
        exact .inr ⟨HF.out, rfl, HB1.out⟩
      | true =>
        have hsg : signOk (s, d, z) = true := by unfold signOk; rw [HLK.out, HST.out]; rfl
        have HSG := hid hsg
        rw [hsg, Bool.true_and] at HD
        clear hsg
        go_wp2_with fail
        refine (HVO.out _).mono ?_
        rintro e w1 ⟨rfl, rfl⟩
        go_wp2_with fail
        refine (HSV.out _).mono ?_
        rintro e w4 ⟨rfl, hb1⟩
        have hbx := (hb1.block wr.heap.size (by simp)).trans (heap_alloc_new _ _)
        have HBX := hid hbx
        have hb4 := hid (btr (bnew wr _) hb1)
        have HB4 := hid (btr (HBN.out _) hb1)
        have HM4 := hid (HM.out.bl hb4.out)
        have HL4 := hid (HL.out.bl hb4.out)
        have hz4 : wr.heap.size < w4.heap.size := by have := hb1.size; rw [World.size_alloc] at this; omega
        obtain ⟨bx0, bx1, bx2, _, _, _⟩ := at_get3 hbx
        have hb0 := (byte0_one H1.out).1
        have hsz : byte0 s = s[0]'hlt0 := hb0
        clear cx0 cx1 cx2 hb1 hb4 hbx HVO HSV HNO HBN hb0
        have HCL := hid (clash_letter (l := l.take k) HA.out (x := (s, d, z)) H1.out)
        have HNT := hid (fun (h : ((l.take k).any fun a => clash a (s, d, z)) = true) => (show sysOk l = false by rw [HSY.out, HS.out, HD.out, h]; rfl))
        rcases look_letter HM4.out (byte0 s) with ⟨y, hy, hyb, hlk⟩ | ⟨hny, hlk⟩
        · have HF := hid (HNT.out (HCL.out.2 (.inl ⟨y, hy, hyb⟩)))
          rw [hsz] at hlk
          unfold u8V stV at hlk
          clear hy hyb
          rcases look_stroke (HL4.out.bl (bnew w4 (.cells #[.int .i64 y.2.1, .int .i64 y.2.2] 64))) HA.out (d, z) HST.out with ⟨y2, _, _, hlk2⟩ | ⟨_, hlk2⟩
          all_goals
            unfold stV u8V at hlk2
            dsimp only at hlk2
            go_wp2_with fail
            go_ret2
            exact .inr ⟨HF.out, rfl, HB4.out.trans ((bnew w4 _).mono HB4.out.size)⟩
        · rw [hsz] at hlk
          unfold u8V stV at hlk
          dsimp only at hlk
          rcases look_stroke (HL4.out.bl (bnew w4 (.cells #[.int .i64 0, .int .i64 0] 64))) HA.out (d, z) HST.out with ⟨y2, hy2, hy2b, hlk2⟩ | ⟨hny2, hlk2⟩
          · have HF := hid (HNT.out (HCL.out.2 (.inr ⟨y2, hy2, hy2b⟩)))
            unfold stV u8V at hlk2
            dsimp only at hlk2
            clear hy2 hy2b
            go_wp2_with fail
            go_ret2
            exact .inr ⟨HF.out, rfl, HB4.out.trans ((bnew w4 _).mono HB4.out.size)⟩
          · unfold stV u8V at hlk2
            dsimp only at hlk2
            have HCN := hid (show ((l.take k).any fun a => clash a (s, d, z)) = false by
              cases hc : ((l.take k).any fun a => clash a (s, d, z)) with
              | false => rfl
              | true =>
                rcases HCL.out.1 hc with ⟨a, ha, e⟩ | ⟨a, ha, e⟩
                · exact absurd e (hny a ha)
                · exact absurd e (hny2 a ha))
            obtain ⟨w5, hw5⟩ : ∃ w5, w4.alloc (.cells #[.int .i64 0, .int .i64 0] 64) = w5 := ⟨_, rfl⟩
            have hb5 := bnew w4 (.cells #[.int .i64 0, .int .i64 0] 64)
            rw [hw5] at hb5
            have HM5 := hid ((HM4.out.bl hb5).chg (chg_drew w5 (fun _ => False)) (fun h => h))
            have HL5 := hid (HL4.out.bl hb5)
            have HB5 := hid (HB4.out.trans (hb5.mono HB4.out.size))
            have d0 := bcl hb5 bx0
            have d1 := bcl hb5 bx1
            have d2 := bcl hb5 bx2
            obtain ⟨w6, hst6, hm6, hc6⟩ := store_letter HM5.out (s, d, z) hny
            have HM6 := hid hm6
            have hc56 : Chg (fun j => j = w.heap.size) w5 w6 := (chg_drew w5 _).trans hc6
            have HC6 := hid hc56
            have hMlt := HM.out.lt
            have hLlt := HL.out.lt
            have hMz := HM2.out
            have g0 := hc56.cell (by omega) d0
            have g1 := hc56.cell (by omega) d1
            have g2 := hc56.cell (by omega) d2
            have HL6 := hid ((HL5.out.chg hc56 (by omega)).chg (chg_drew w6 (fun _ => False)) (fun h => h))
            obtain ⟨w7, hst7, hm7, hc7⟩ := store_stroke HL6.out HA.out (s, d, z) HST.out hny2
            have hc67 : Chg (fun j => j = M2) w6 w7 := (chg_drew w6 _).trans hc7
            have HC7 := hid hc67
            have HL7 := hid hm7
            dsimp only at hst6 hst7
            rw [hsz] at hst6 hst7
            unfold stV u8V at hst6 hst7
            dsimp only at hst6 hst7
            have HW5 := hid hw5
            clear hm6 hm7 hc6 hc7 hc56 hc67 hny hny2 hb5 hw5 hMz
            go_wp2_with fail
            rw [HW5.out]
            clear hlk hlk2 bx0 bx1 bx2
            refine wp_region_still_tail 6 (by kernel_rfl) (by kernel_rfl) ?_
            simp only [List.take_succ_cons, List.take_zero, List.drop_succ_cons, List.drop_zero]
            repeat still_step
            try refine wpStill_nil ?_
            change wpList _ _ _ _ _ w5.drew
            go_wp2_with fail
            clear d0 d1 d2
            refine wp_region_still_tail 6 (by kernel_rfl) (by kernel_rfl) ?_
            simp only [List.take_succ_cons, List.take_zero, List.drop_succ_cons, List.drop_zero]
            repeat still_step
            try refine wpStill_nil ?_
            change wpList _ _ _ _ _ w6.drew
            go_wp2_with fail
            clear g0 g1 g2 hst6 hst7
            have hMz := HM2.out
            have hzz := HB5.out.size
            have HMF := hid (HM6.out.chg HC7.out (by omega))
            have HBF := hid (HB5.out.trans ((HC6.out.below (B := w.heap.size) (by omega) (by omega)).trans (HC7.out.below (B := w.heap.size) (by have := HC6.out.size; omega) (by omega))))
            clear hMz
            go_roundg (gk - 1)
            case measure => have := HKG.out; omega
            case rel => exact ⟨k + 1, by have := HKG.out; omega, by go_num, by rw [HTK.out]; exact HMF.out, by rw [HTK.out]; exact HL7.out, by rw [HS.out, HD.out, HCN.out]; rfl, by
              rw [HTK.out]
              intro x hx
              rcases List.mem_append.1 hx with hx | hx
              · exact HA.out x hx
              · rw [List.mem_singleton] at hx
                rw [hx]
                exact HSG.out, HBF.out⟩
end Go.Proofs.Ytigemahbopligaa
