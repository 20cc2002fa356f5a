/- Dictionaries: what the reference's DictionaryValid, l2Both and DictionaryLength return. -/
import Derived.Test.YtigemahbopligaaSysS3
namespace Go.Proofs.Ytigemahbopligaa
open Go.RowKit
attribute [local go_sem] Oper.semAt_some
theorem outW_len {sys : List SignT} {s : ByteArray} {o : Option (List (Int × Int))} (h : outW sys s = o) : (o.getD []).length ≤ 8 := by
  cases o with
  | none => exact Nat.zero_le _
  | some x =>
    unfold outW at h
    split at h
    · exact (outOk_yes (outlineW_ok h)).2
    · cases h
def lenO : Option (List (Int × Int)) → Int
  | some o => lenOf o
  | none => 0
theorem lenW_out {sys : List SignT} {s : ByteArray} {o : Option (List (Int × Int))} (h : sysOk sys = true) (ho : outW sys s = o) : lenW sys s = lenO o := by
  unfold outW at ho
  rw [h, if_pos rfl] at ho
  unfold lenW
  rw [ho]
  cases o <;> rfl
set_option maxRecDepth 100000 in
set_option maxHeartbeats 2000000 in
theorem specDictionaryValid_any (A : Option Addr) (n c lo : Nat) (l : List ByteArray) (w : World) (hx : Rd strS lo w.heap.size w A n l) :
    Calls Try.prog 81 #[.slice A n c] w fun e w' => e = .returned (.bool (dictOk l)) ∧ Below w.heap.size w w' := by
  have HX := hid hx
  have E1 := hid hx.1
  have h63 := hx.2.1
  clear hx
  go_enter Try.func81, Try.ntmps81
  go_wp2_with fail
  go_loopg [3, 4] n (fun gk i _ wr => ∃ k : Nat, k + gk = n ∧ i = .int .i64 k ∧ dictFrom [] l = dictFrom (l.take k) (l.drop k) ∧ Below w.heap.size w wr)
  case atStart => exact ⟨0, Nat.zero_add _, rfl, rfl, Below.refl _ _⟩
  case round =>
    obtain ⟨k, hkg, rfl, hs, hb⟩ := hrel
    have HKG := hid hkg
    have HS := hid hs
    have HB := hid hb
    have hk : k ≤ n := by omega
    clear hkg hs hb
    by_cases hlt : k < n
    case neg =>
      obtain rfl : k = n := by omega
      have HF := hid (show dictOk l = decide (l.length ≤ 20) by
        unfold dictOk
        rw [HS.out, List.drop_eq_nil_of_le (by rw [E1.out]; omega)]
        exact Bool.and_true _)
      by_cases h20 : k ≤ 20
      · have h20i : (k : Int) ≤ 20 := by omega
        go_wp2_with fail
        go_ret
        exact ⟨ret_bool (by rw [HF.out, decide_eq_true (by rw [← E1.out]; exact h20)]), HB.out⟩
      · have h20i : ¬ (k : Int) ≤ 20 := by omega
        go_wp2_with fail
        go_ret
        exact ⟨ret_bool (by rw [HF.out, decide_eq_false (by rw [← E1.out]; exact h20)]), HB.out⟩
    case pos =>
      have hlti : (k : Int) < (n : Int) := by omega
      have hkl : k < l.length := by rw [← E1.out]; exact hlt
      have HD := hid (dict_drop hkl)
      obtain ⟨b, off, hA, _, hbb, hcx⟩ := HX.out.2.2 (by omega)
      subst hA
      obtain ⟨x0, x1⟩ := hcx.str hlt
      obtain ⟨s, hs⟩ : ∃ s, gt l k = s := ⟨_, rfl⟩
      rw [hs] at x0 x1 HD
      have HX0 := hid x0
      have cx0 := bcl HB.out x0
      obtain ⟨wo, hwo⟩ : ∃ wo, wordOk s = wo := ⟨_, rfl⟩
      have hWV := fun w1 => specWordValid_any s w1 x1
      rw [hwo] at hWV HD
      have HWV := hid hWV
      have HGS := hid hs
      clear hcx x0 hs hkl hwo hWV
      cases wo with
      | false =>
        have HF := hid (show dictOk l = false by unfold dictOk; rw [HS.out, HD.out, Bool.false_and, Bool.false_and, Bool.and_false])
        go_wp2_with fail
        refine (HWV.out _).mono ?_
        rintro e w1 ⟨rfl, rfl⟩
        go_wp2_with fail
        go_ret
        exact ⟨ret_bool HF.out.symm, HB.out⟩
      | true =>
        obtain ⟨gm, hgm⟩ : ∃ x : Nat, x = gk := ⟨_, rfl⟩
        subst hgm
        obtain ⟨wo, hwo⟩ : ∃ x : World, x = wr := ⟨_, rfl⟩
        subst hwo
        rw [Bool.true_and] at HD
        go_wp2_with fail
        refine (HWV.out _).mono ?_
        rintro e w1 ⟨rfl, rfl⟩
        clear cx0 HWV
        go_wp2_with fail
        go_loopg [4] k (fun gq i wq => ∃ q : Nat, q + gq = k ∧ i = .int .i64 q ∧ ((l.take k).any fun a => eqD a s) = (((l.take k).drop q).any fun a => eqD a s) ∧ Below w.heap.size w wq)
        case atStart => exact ⟨0, Nat.zero_add _, rfl, rfl, HB.out⟩
        case round =>
          obtain ⟨q, hqg, rfl, ha, hb⟩ := hrel
          have HQG := hid hqg
          have HQ := hid ha
          have HBQ := hid hb
          have hq : q ≤ k := by omega
          clear hqg ha hb
          by_cases hqk : q < k
          case neg =>
            obtain rfl : q = k := by omega
            have HN0 := hid (show ((l.take q).any fun a => eqD a s) = false by
              rw [HQ.out, List.drop_eq_nil_of_le (by rw [List.length_take]; omega)]
              rfl)
            go_wp2_with fail
            go_roundg (gm - 1)
            case measure => have := HKG.out; omega
            case rel => exact ⟨q + 1, by have := HKG.out; omega, by go_num, by rw [HS.out, HD.out, HN0.out]; rfl, HBQ.out⟩
          case pos =>
            have hqi : (q : Int) < (k : Int) := by omega
            have hqn : q < n := by omega
            have hqni : (q : Int) < (n : Int) := by omega
            obtain ⟨b', off', hA', _, hbb', hcx⟩ := HX.out.2.2 (by omega)
            injection hA' with hA'
            injection hA' with e1 e2 _
            subst e1 e2
            obtain ⟨y0, y3⟩ := hcx.str hqn
            obtain ⟨s', hy⟩ : ∃ y, gt l q = y := ⟨_, rfl⟩
            rw [hy] at y0
            have HAD := hid (any_drop (l := l) hqk (by rw [← E1.out]; omega) (fun a => eqD a s))
            have HY := hid hy
            have v0 := bcl HBQ.out y0
            have u0 := bcl HBQ.out HX0.out
            have a0 := aft_cell (B := wr.heap.size) (w0 := wr) (block_lt_of_cell v0) v0
            have a1 := aft_cell (B := wr.heap.size) (w0 := wr) (block_lt_of_cell u0) u0
            clear hcx y0 hy v0 u0
            obtain ⟨e, he⟩ : ∃ e, eqD s' s = e := ⟨_, rfl⟩
            have hcmp : (s'.toList == s.toList) = e := by rw [← he]; exact beq_str _ _
            have HE := hid he
            clear he
            cases e with
            | true =>
              have HT := hid (show ((l.take k).any fun a => eqD a s) = true by
                rw [HQ.out, HAD.out, HY.out, HE.out]
                rfl)
              go_wp2_with fail
              refine wp_region_aft (B := wr.heap.size) (w0 := wr) (Below.refl _ _) (by kernel_rfl) (by kernel_rfl) ?_
              repeat (go_big_quiet_step (fail))
              refine wpQuiet_nil ?_
              rintro w3 ⟨⟨w4, hb4⟩, hw4⟩
              have hw5 : w3 = w4 := hw4
              clear hw4
              subst hw5
              have HB4 := hid (btr HBQ.out hb4)
              clear hb4 a0 a1
              go_wp2_with fail
              go_ret
              exact ⟨ret_bool (by unfold dictOk; rw [HS.out, HD.out, HT.out]; simp), HB4.out⟩
            | false =>
              go_wp2_with fail
              refine wp_region_aft (B := wr.heap.size) (w0 := wr) (Below.refl _ _) (by kernel_rfl) (by kernel_rfl) ?_
              repeat (go_big_quiet_step (fail))
              refine wpQuiet_nil ?_
              rintro w3 ⟨⟨w4, hb4⟩, hw4⟩
              have hw5 : w3 = w4 := hw4
              clear hw4
              subst hw5
              have HB4 := hid (btr HBQ.out hb4)
              clear hb4 a0 a1
              go_wp2_with fail
              go_roundg (gk - 1)
              case measure => have := HQG.out; omega
              case rel => exact ⟨q + 1, by have := HQG.out; omega, by go_num, by rw [HQ.out, HAD.out, HY.out, HE.out]; rfl, HB4.out⟩
set_option maxHeartbeats 1000000 in
theorem l2Both_any (A B : Option Addr) (n c m d lo lo' : Nat) (sys : List SignT) (ws : List ByteArray) (w : World) (hx : Rd signS lo w.heap.size w A n sys) (hy : Rd strS lo' w.heap.size w B m ws) :
    Calls Try.prog 59 #[.slice A n c, .slice B m d] w fun e w' => e = .returned (.bool (sysOk sys && dictOk ws)) ∧ Below w.heap.size w w' := by
  have HV := hid (specSystemValid_any A n c lo sys w hx)
  have HY := hid hy
  clear hx hy
  obtain ⟨so, hso⟩ : ∃ so, sysOk sys = so := ⟨_, rfl⟩
  have HSO := hid hso
  rw [hso]
  clear hso
  cases so with
  | false =>
    go_enter Try.func59, Try.ntmps59
    go_wp2_with fail
    refine HV.out.mono ?_
    rintro e w1 ⟨rfl, hb1⟩
    rw [HSO.out]
    have HB1 := hid hb1
    clear hb1
    go_wp2_with fail
    go_ret
    exact ⟨ret_bool rfl, HB1.out⟩
  | true =>
    obtain ⟨q, hq⟩ : ∃ q, dictOk ws = q := ⟨_, rfl⟩
    have HQ := hid hq
    rw [hq]
    clear hq
    go_enter Try.func59, Try.ntmps59
    go_wp2_with fail
    refine HV.out.mono ?_
    rintro e w1 ⟨rfl, hb1⟩
    rw [HSO.out]
    have HB1 := hid hb1
    clear hb1
    go_wp2_with fail
    refine (specDictionaryValid_any _ _ _ _ _ _ (HY.out.bl HB1.out)).mono ?_
    rintro e w2 ⟨rfl, hb2⟩
    rw [HQ.out]
    have HB2 := hid (btr HB1.out hb2)
    clear hb2
    go_wp2_with fail
    go_ret
    exact ⟨ret_bool (by rw [Bool.true_and]), HB2.out⟩
set_option maxRecDepth 100000 in
set_option maxHeartbeats 2000000 in
theorem specDictionaryLength_any (A B : Option Addr) (n c m d lo lo' : Nat) (sys : List SignT) (ws : List ByteArray) (w : World) (hx : Rd signS lo w.heap.size w A n sys) (hy : Rd strS lo' w.heap.size w B m ws) :
    Calls Try.prog 30 #[.slice A n c, .slice B m d] w fun e w' => e = .returned (.int .i64 (dictV sys ws)) ∧ Below w.heap.size w w' := by
  have HV := hid (l2Both_any A B n c m d lo lo' sys ws w hx hy)
  have HX := hid hx
  have HY := hid hy
  have F1 := hid hy.1
  have h63 := hy.2.1
  clear hx hy
  obtain ⟨so, hso⟩ : ∃ so, (sysOk sys && dictOk ws) = so := ⟨_, rfl⟩
  have HSO := hid hso
  cases so with
  | false =>
    have HF := hid (show dictV sys ws = -1 by unfold dictV; rw [hso]; rfl)
    clear hso
    go_enter Try.func30, Try.ntmps30
    go_wp2_with fail
    refine HV.out.mono ?_
    rintro e w1 ⟨rfl, hb1⟩
    rw [HSO.out]
    have HB1 := hid hb1
    clear hb1
    go_wp2_with fail
    go_ret
    exact ⟨ret_int HF.out.symm, HB1.out⟩
  | true =>
    have HF := hid (show dictV sys ws = dictSum sys ws by unfold dictV; rw [hso]; rfl)
    rw [Bool.and_eq_true] at hso
    have HSY := hid hso.1
    have hm20 : m ≤ 20 := by
      have h1 := (dictOk_iff.1 hso.2).1
      rw [F1.out]
      exact h1
    clear hso
    go_enter Try.func30, Try.ntmps30
    go_wp2_with fail
    refine HV.out.mono ?_
    rintro e w1 ⟨rfl, hb1⟩
    rw [HSO.out]
    have HB1 := hid hb1
    clear hb1
    go_wp2_with fail
    go_loopg [5, 6, 7, 8] m (fun gk x i _ _ wr => ∃ (k : Nat) (y : Int), k + gk = m ∧ i = .int .i64 k ∧ x = .int .i64 y ∧ dictSum sys ws = y + dictSum sys (ws.drop k) ∧ 0 ≤ y ∧ y ≤ 24 * k ∧ Below w.heap.size w wr)
    case atStart => exact ⟨0, 0, Nat.zero_add _, rfl, rfl, by rw [List.drop_zero, Int.zero_add], by omega, by omega, HB1.out⟩
    case round =>
      obtain ⟨k, y, hkg, rfl, rfl, hl, hy0, hy1, hb⟩ := hrel
      have HKG := hid hkg
      have HL := hid hl
      have HB := hid hb
      have hk : k ≤ m := by omega
      have hbz := hb.size
      clear hkg hl hb
      by_cases hlt : k < m
      case neg =>
        obtain rfl : k = m := by omega
        have hfin := HL.out
        rw [show ws.drop k = [] from List.drop_eq_nil_of_le (by rw [← F1.out]; exact Nat.le_refl _)] at hfin
        have HFI := hid (show y = dictV sys ws by rw [HF.out, hfin]; show y = y + 0; omega)
        clear hfin
        go_wp2_with fail
        go_ret
        exact ⟨ret_int HFI.out, HB.out⟩
      case pos =>
        have hlti : (k : Int) < (m : Int) := by omega
        have hkl : k < ws.length := by rw [← F1.out]; exact hlt
        have HD := hid (dictSum_drop sys hkl)
        obtain ⟨b, off, hA, _, hbb, hcx⟩ := HY.out.2.2 (by omega)
        subst hA
        obtain ⟨x0, x1⟩ := hcx.str hlt
        have cx0 := bcl HB.out x0
        obtain ⟨s, hs⟩ : ∃ s, gt ws k = s := ⟨_, rfl⟩
        rw [hs] at cx0 x1 HD
        have HWO := hid (specWordOutline_any A n c lo sys s wr (HX.out.bl HB.out) x1)
        obtain ⟨o, ho⟩ : ∃ o, outW sys s = o := ⟨_, rfl⟩
        rw [ho] at HWO
        have hbd := lenW_bd sys s
        have hlw : lenW sys s = lenO o := lenW_out HSY.out ho
        have hol := outW_len ho
        clear hcx x0 hs ho hkl
        cases o with
        | none =>
          have HLW := hid (show lenW sys s = 0 from hlw)
          clear hlw hbd
          go_wp2_with fail
          refine HWO.out.mono ?_
          intro e w4 hres
          unfold RetO at hres
          obtain ⟨B4, m4, c4, rfl, _, _, hb4⟩ := hres
          have HB4 := hid (HB.out.trans (hb4.mono hbz))
          clear hb4
          go_wp2_with fail
          go_roundg (gk - 1)
          case measure => have := HKG.out; omega
          case rel => exact ⟨k + 1, y, by have := HKG.out; omega, by go_num, rfl, by rw [HL.out, HD.out, HLW.out]; omega, by omega, by omega, HB4.out⟩
        | some o =>
          have HLW := hid (show lenW sys s = lenOf o from hlw)
          rw [HLW.out] at hbd
          clear hlw
          obtain ⟨q, hq⟩ : ∃ q, lenOf o = q := ⟨_, rfl⟩
          rw [hq] at hbd
          have HQ := hid hq
          have hwr : IntKind.i64.wrap (y + q) = y + q := IntWalk.i64_in _ (by omega)
          clear hq
          go_wp2_with fail
          refine HWO.out.mono ?_
          intro e w4 hres
          unfold RetO at hres
          obtain ⟨B4, m4, c4, rfl, hm4, hO4, hb4⟩ := hres
          have HB4 := hid (HB.out.trans (hb4.mono hbz))
          have hbz4 := HB4.out.size
          have hr4 := (hO4.rd (by omega)).2
          have HR4 := hid hr4
          clear hb4 hm4 hO4 hr4
          go_wp2_with fail
          refine (specOutlineLength_any _ _ _ _ _ _ HR4.out).mono ?_
          rintro e w5 ⟨rfl, hb5⟩
          have hqq : lenOf ((some o).getD []) = q := HQ.out
          rw [hqq]
          have HB5 := hid (HB4.out.trans (hb5.mono hbz4))
          clear hb5 hqq
          go_wp2_with fail
          go_roundg (gk - 1)
          case measure => have := HKG.out; omega
          case rel => exact ⟨k + 1, y + q, by have := HKG.out; omega, by go_num, rfl, by rw [HL.out, HD.out, HLW.out, HQ.out]; omega, by omega, by omega, HB5.out⟩
end Go.Proofs.Ytigemahbopligaa
