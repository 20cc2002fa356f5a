/- Systems: what the reference's SystemValid and SystemStroke return. -/
import Derived.Test.YtigemahbopligaaWords2
import Derived.Test.YtigemahbopligaaStrokeEq
import Derived.Test.YtigemahbopligaaOutline
import Derived.Deep.LoopGhost
namespace Go.Proofs.Ytigemahbopligaa
open Go.RowKit
attribute [local go_sem] Oper.semAt_some
set_option maxRecDepth 100000 in
set_option maxHeartbeats 2000000 in
theorem specSystemValid_any (A : Option Addr) (n c lo : Nat) (l : List SignT) (w : World) (hx : Rd signS lo w.heap.size w A n l) :
    Calls Try.prog 80 #[.slice A n c] w fun e w' => e = .returned (.bool (sysOk l)) ∧ Below w.heap.size w w' := by
  have HX := hid hx
  have E1 := hid hx.1
  have h63 := hx.2.1
  clear hx
  go_enter Try.func80, Try.ntmps80
  go_wp2_with fail
  go_loopg [3, 4, 5] n (fun gk i _ _ wr => ∃ k : Nat, k + gk = n ∧ i = .int .i64 k ∧ sysFrom [] l = sysFrom (l.take k) (l.drop k) ∧ Below w.heap.size w wr)
  case atStart => exact ⟨0, Nat.zero_add _, rfl, rfl, Below.refl _ _⟩
  case round =>
    obtain ⟨k, hkg, rfl, hs, hb⟩ := hrel
    have HKG := hid hkg
    have HS := hid hs
    have HB := hid hb
    have hk : k ≤ n := by omega
    clear hkg hs hb
    by_cases hlt : k < n
    case neg =>
      obtain rfl : k = n := by omega
      have HF := hid (show sysOk l = decide (l.length ≤ 21) by
        unfold sysOk
        rw [HS.out, List.drop_eq_nil_of_le (by rw [E1.out]; omega)]
        exact Bool.and_true _)
      by_cases h21 : k ≤ 21
      · have h21i : (k : Int) ≤ 21 := by omega
        go_wp2_with fail
        go_ret
        exact ⟨ret_bool (by rw [HF.out, decide_eq_true (by rw [← E1.out]; exact h21)]), HB.out⟩
      · have h21i : ¬ (k : Int) ≤ 21 := by omega
        go_wp2_with fail
        go_ret
        exact ⟨ret_bool (by rw [HF.out, decide_eq_false (by rw [← E1.out]; exact h21)]), HB.out⟩
    case pos =>
      have hlti : (k : Int) < (n : Int) := by omega
      have hkl : k < l.length := by rw [← E1.out]; exact hlt
      have HD := hid (sys_drop hkl)
      obtain ⟨b, off, hA, _, hbb, hcx⟩ := HX.out.2.2 (by omega)
      subst hA
      obtain ⟨x0, x1, x2, x3⟩ := hcx.sign hlt
      have cx0 := bcl HB.out x0
      have cx1 := bcl HB.out x1
      have cx2 := bcl HB.out x2
      obtain ⟨x, hx⟩ : ∃ x, gt l k = x := ⟨_, rfl⟩
      rw [hx] at x3 cx0 cx1 cx2 HD
      obtain ⟨s, d, z⟩ := x
      dsimp only at x3 cx0 cx1 cx2
      have HGX := hid hx
      have HNO := hid (fun (h : signOk (s, d, z) = false) => (show sysOk l = false by
        unfold sysOk
        rw [HS.out, HD.out, h, Bool.false_and, Bool.false_and, Bool.and_false]))
      have HBN := hid (fun (o : Obj) => btr HB.out (bnew wr o))
      clear hcx x0 x1 x2 hx hkl
      by_cases h1 : s.size = 1
      case neg =>
        have h1i : ((s.size : Int) != 1) = true := by simp; omega
        have HF := hid (HNO.out (by unfold signOk; rw [letterOk_no h1]; rfl))
        go_wp2_with fail
        go_ret
        exact ⟨ret_bool HF.out.symm, HBN.out _⟩
      case pos =>
      have h1i : ((s.size : Int) != 1) = false := by simp; omega
      have hlt0 : 0 < s.size := by omega
      have hlk := letterOk_one h1
      have hwk := wordOk_one h1
      obtain ⟨wo, hwo⟩ : ∃ wo, wordOk s = wo := ⟨_, rfl⟩
      have hWV := fun w1 => specWordValid_any s w1 x3
      rw [hwo] at hWV
      have HWV := hid hWV
      obtain ⟨vo, hvo⟩ : ∃ vo, vowB (s[0]'hlt0) = vo := ⟨_, rfl⟩
      have hVO := fun w1 => l2Vowel_any (s[0]'hlt0) w1
      rw [hvo] at hVO
      have HVO := hid hVO
      have HLK := hid (show letterOk s = (wo && !vo) by
        rw [hlk]
        unfold letterB
        rw [← hwk, hwo, hvo])
      obtain ⟨st, hst⟩ : ∃ st, strokeOk (d, z) = st := ⟨_, rfl⟩
      have hSV := fun w1 => specStrokeValid_any d z w1
      rw [hst] at hSV
      have HSV := hid hSV
      have HST := hid hst
      clear hlk hwk hwo hWV hvo hVO hst hSV h1
      cases wo with
      | false =>
        have HF := hid (HNO.out (by unfold signOk; rw [HLK.out]; rfl))
        go_wp2_with fail
        refine (HWV.out _).mono ?_
        rintro e w1 ⟨rfl, rfl⟩
        go_wp2_with fail
        go_ret
        exact ⟨ret_bool HF.out.symm, HBN.out _⟩
      | true =>
      cases vo with
      | true =>
        have HF := hid (HNO.out (by unfold signOk; rw [HLK.out]; rfl))
        go_wp2_with fail
        refine (HWV.out _).mono ?_
        rintro e w1 ⟨rfl, rfl⟩
        go_wp2_with fail
        refine (HVO.out _).mono ?_
        rintro e w1 ⟨rfl, rfl⟩
        go_wp2_with fail
        go_ret
        exact ⟨ret_bool HF.out.symm, HBN.out _⟩
      | false =>
      cases st with
      | false =>
        have HF := hid (HNO.out (by unfold signOk; rw [HST.out, Bool.and_false]))
        go_wp2_with fail
        refine (HWV.out _).mono ?_
        rintro e w1 ⟨rfl, rfl⟩
        go_wp2_with fail
        refine (HVO.out _).mono ?_
        rintro e w1 ⟨rfl, rfl⟩
        go_wp2_with fail
        refine (HSV.out _).mono ?_
        rintro e w1 ⟨rfl, hb1⟩
        have HB1 := hid (btr (HBN.out _) hb1)
        clear hb1
        go_wp2_with fail
        go_ret
        exact ⟨ret_bool HF.out.symm, HB1.out⟩
      | true =>
        go_wp2_with fail
        refine (HWV.out _).mono ?_
        rintro e w1 ⟨rfl, rfl⟩
        go_wp2_with fail
        refine (HVO.out _).mono ?_
        rintro e w1 ⟨rfl, rfl⟩
        go_wp2_with fail
        refine (HSV.out _).mono ?_
        rintro e w1 ⟨rfl, hb1⟩
        have hbx := (hb1.block wr.heap.size (by simp)).trans (heap_alloc_new _ _)
        obtain ⟨bx0, bx1, bx2, _, _, _⟩ := at_get3 hbx
        have BX := hid (And.intro bx0 (And.intro bx1 bx2))
        have hb3 := btr (HBN.out _) hb1
        have HB3 := hid hb3
        have hz3 := hb3.size
        have hsg : signOk (s, d, z) = true := by unfold signOk; rw [HLK.out, HST.out]; rfl
        rw [hsg, Bool.true_and] at HD
        have HSG := hid hsg
        obtain ⟨gm, hgm⟩ : ∃ x : Nat, x = gk := ⟨_, rfl⟩
        subst hgm
        obtain ⟨wo, hwo⟩ : ∃ x : World, x = wr := ⟨_, rfl⟩
        subst hwo
        clear hbx bx0 bx1 bx2 hb1 hb3 HNO HBN HWV HVO HSV HLK HST cx0 cx1 cx2 hsg
        go_wp2_with fail
        go_loopg [5] k (fun gq i wq => ∃ q : Nat, q + gq = k ∧ i = .int .i64 q ∧ ((l.take k).any fun a => clash a (s, d, z)) = (((l.take k).drop q).any fun a => clash a (s, d, z)) ∧ Below w1.heap.size w1 wq)
        case atStart => exact ⟨0, Nat.zero_add _, rfl, rfl, Below.refl _ _⟩
        case round =>
          obtain ⟨q, hqg, rfl, ha, hb⟩ := hrel
          have HQG := hid hqg
          have HQ := hid ha
          have HBQ := hid hb
          have hq : q ≤ k := by omega
          clear hqg ha hb
          by_cases hqk : q < k
          case neg =>
            obtain rfl : q = k := by omega
            have HN0 := hid (show ((l.take q).any fun a => clash a (s, d, z)) = false by
              rw [HQ.out, List.drop_eq_nil_of_le (by rw [List.length_take]; omega)]
              rfl)
            go_wp2_with fail
            go_roundg (gm - 1)
            case measure => have := HKG.out; omega
            case rel => exact ⟨q + 1, by have := HKG.out; omega, by go_num, by rw [HS.out, HD.out, HN0.out]; rfl, btr HB3.out HBQ.out⟩
          case pos =>
            have hqi : (q : Int) < (k : Int) := by omega
            have hqn : q < n := by omega
            have hqni : (q : Int) < (n : Int) := by omega
            obtain ⟨b', off', hA', _, hbb', hcx⟩ := HX.out.2.2 (by omega)
            injection hA' with hA'
            injection hA' with e1 e2 _
            subst e1 e2
            obtain ⟨y0, y1, y2, y3⟩ := hcx.sign hqn
            obtain ⟨y, hy⟩ : ∃ y, gt l q = y := ⟨_, rfl⟩
            rw [hy] at y0 y1 y2
            obtain ⟨s', d', z'⟩ := y
            dsimp only at y0 y1 y2
            have HAD := hid (any_drop (l := l) hqk (by rw [← E1.out]; omega) (fun a => clash a (s, d, z)))
            have HY := hid hy
            have HBW := hid (btr HB3.out HBQ.out)
            have v0 := bcl HBW.out y0
            have v1 := bcl HBW.out y1
            have v2 := bcl HBW.out y2
            have u0 := bcl HBQ.out BX.out.1
            have u1 := bcl HBQ.out BX.out.2.1
            have u2 := bcl HBQ.out BX.out.2.2
            have a0 := aft_cell (B := wr.heap.size) (w0 := wr) (block_lt_of_cell v0) v0
            have a1 := aft_cell (B := wr.heap.size) (w0 := wr) (block_lt_of_cell v1) v1
            have a2 := aft_cell (B := wr.heap.size) (w0 := wr) (block_lt_of_cell v2) v2
            have a3 := aft_cell (B := wr.heap.size) (w0 := wr) (block_lt_of_cell u0) u0
            have a4 := aft_cell (B := wr.heap.size) (w0 := wr) (block_lt_of_cell u1) u1
            have a5 := aft_cell (B := wr.heap.size) (w0 := wr) (block_lt_of_cell u2) u2
            clear hcx y0 y1 y2 hy v0 v1 v2 u0 u1 u2
            by_cases hse : s' = s
            · have hcmp : (s'.toList == s.toList) = true := by rw [hse]; exact str_eq _
              have HT := hid (show ((l.take k).any fun a => clash a (s, d, z)) = true by
                rw [HQ.out, HAD.out, HY.out, hse]
                unfold clash
                rw [eqD_self]
                rfl)
              clear hse
              go_wp2_with fail
              refine wp_region_aft (B := wr.heap.size) (w0 := wr) (Below.refl _ _) (by kernel_rfl) (by kernel_rfl) ?_
              repeat (go_big_quiet_step (fail))
              refine wpQuiet_nil ?_
              rintro w3 ⟨⟨w4, hb4⟩, hw4⟩
              have hw5 : w3 = w4 := hw4
              clear hw4
              subst hw5
              have HB4 := hid (btr HBW.out hb4)
              clear hb4 a0 a1 a2 a3 a4 a5
              go_wp2_with fail
              go_ret
              exact ⟨ret_bool (by unfold sysOk; rw [HS.out, HD.out, HT.out]; simp), HB4.out⟩
            · have hcmp : (s'.toList == s.toList) = false := str_ne hse
              obtain ⟨e, he⟩ : ∃ e, eqD (d', z') (d, z) = e := ⟨_, rfl⟩
              have hsq := fun w => strokeEql d' z' d z w
              rw [he] at hsq
              have hcl : clash (s', d', z') (s, d, z) = e := by
                unfold clash
                rw [eqD_no hse, ← he]
                rfl
              have HCL := hid hcl
              clear he hse hcl
              cases e with
              | true =>
                have HT := hid (show ((l.take k).any fun a => clash a (s, d, z)) = true by
                  rw [HQ.out, HAD.out, HY.out, HCL.out]
                  rfl)
                go_wp2_with fail
                refine wp_region_aft (B := wr.heap.size) (w0 := wr) (Below.refl _ _) (by kernel_rfl) (by kernel_rfl) ?_
                repeat (go_big_quiet_step (fail))
                refine wpQuiet_nil ?_
                rintro w3 ⟨⟨w4, hb4⟩, hw4⟩
                have hw5 : w3 = w4 := hw4
                clear hw4
                subst hw5
                have HB4 := hid (btr HBQ.out hb4)
                clear hb4 a0 a1 a2 a3 a4 a5 hsq
                go_wp2_with fail
                go_ret
                exact ⟨ret_bool (by unfold sysOk; rw [HS.out, HD.out, HT.out]; simp), btr HB3.out HB4.out⟩
              | false =>
                go_wp2_with fail
                refine wp_region_aft (B := wr.heap.size) (w0 := wr) (Below.refl _ _) (by kernel_rfl) (by kernel_rfl) ?_
                repeat (go_big_quiet_step (fail))
                refine wpQuiet_nil ?_
                rintro w3 ⟨⟨w4, hb4⟩, hw4⟩
                have hw5 : w3 = w4 := hw4
                clear hw4
                subst hw5
                have HB4 := hid (btr HBQ.out hb4)
                clear hb4 a0 a1 a2 a3 a4 a5 hsq
                go_wp2_with fail
                go_roundg (gk - 1)
                case measure => have := HQG.out; omega
                case rel => exact ⟨q + 1, by have := HQG.out; omega, by go_num, by rw [HQ.out, HAD.out, HY.out, HCL.out]; rfl, HB4.out⟩
end Go.Proofs.Ytigemahbopligaa
