/- Dictionaries: what the program's writtenWords and DictionaryLength return. -/
import Derived.Test.YtigemahbopligaaDictI
import Derived.Test.YtigemahbopligaaDictS
import Derived.Test.YtigemahbopligaaOutI
namespace Go.Proofs.Ytigemahbopligaa
open Go.RowKit
attribute [local go_sem] Oper.semAt_some
abbrev OutT : Type := Int × List (Int × Int)
abbrev outdS : Shape OutT := pairS intS (sliceS strokeS)
/-- The written words from index i on. -/
def writF (sys : List SignT) : Nat → List ByteArray → List OutT
  | _, [] => []
  | i, x :: r => match outW sys x with
    | some o => ((i : Int), o) :: writF sys (i + 1) r
    | none => writF sys (i + 1) r
def lensF : List OutT → Int
  | [] => 0
  | x :: r => lenOf x.2 + lensF r
theorem writF_sum {sys : List SignT} (h : sysOk sys = true) : ∀ (ws : List ByteArray) (i : Nat), lensF (writF sys i ws) = dictSum sys ws
  | [], _ => rfl
  | x :: r, i => by
    obtain ⟨o, ho⟩ : ∃ o, outW sys x = o := ⟨_, rfl⟩
    have hl := lenW_out h ho
    unfold writF dictSum
    rw [ho, hl]
    cases o with
    | none => simp only []; rw [writF_sum h r (i + 1)]; simp [lenO]
    | some o => simp only [lensF]; rw [writF_sum h r (i + 1)]; rfl
theorem writF_len (sys : List SignT) : ∀ (ws : List ByteArray) (i : Nat), (writF sys i ws).length ≤ ws.length
  | [], _ => Nat.le_refl _
  | x :: r, i => by
    have := writF_len sys r (i + 1)
    unfold writF
    split
    · simp only [List.length_cons]; omega
    · simp only [List.length_cons]; omega
theorem writF_ok (sys : List SignT) : ∀ (ws : List ByteArray) (i : Nat), ∀ x ∈ writF sys i ws, outOk x.2 = true
  | [], _, x, hx => by cases hx
  | y :: r, i, x, hx => by
    unfold writF at hx
    split at hx
    · next o ho =>
      rcases List.mem_cons.1 hx with rfl | hx
      · unfold outW at ho
        split at ho
        · exact outlineW_ok ho
        · cases ho
      · exact writF_ok sys r (i + 1) x hx
    · exact writF_ok sys r (i + 1) x hx
theorem writF_drop {sys : List SignT} {ws : List ByteArray} {k : Nat} (h : k < ws.length) : writF sys k (ws.drop k) = match outW sys (gt ws k) with
    | some o => ((k : Int), o) :: writF sys (k + 1) (ws.drop (k + 1))
    | none => writF sys (k + 1) (ws.drop (k + 1)) := by
  rw [drop_gt h, writF]
theorem lensF_drop {l : List OutT} {k : Nat} (h : k < l.length) : lensF (l.drop k) = lenOf (gt l k).2 + lensF (l.drop (k + 1)) := by rw [drop_gt h, lensF]
theorem RdAt.outd {lo hi : Nat} {w : World} {b off n : Nat} {l : List OutT} (h : RdAt outdS (rng lo hi) w b off n l) {k : Nat} (hk : k < n) :
    ∃ A c, w.cell? ⟨b, off + k * 2, none⟩ = some (.int .i64 (gt l k).1) ∧ w.cell? ⟨b, off + k * 2 + 1, none⟩ = some (.slice A (gt l k).2.length c) ∧ Rd strokeS lo hi w A (gt l k).2.length (gt l k).2 := by
  obtain ⟨f, hf, h1, A, c, h3, h4, h5⟩ := h k hk
  have h0 := hf 0 (by show 0 < 2; omega)
  have h6 := hf 1 (by show 1 < 2; omega)
  rw [show f 0 = _ from h1] at h0
  rw [show f 1 = _ from h3] at h6
  exact ⟨A, c, h0, h6, Rd_iff.2 h5⟩
/-- The written words of the call's own and whether both lists are valid. -/
def RetWW (w : World) (o : Option (List OutT)) (e : Ending) (w' : World) : Prop :=
  ∃ B m cc, e = .returned (.tuple #[.slice B m cc, .bool o.isSome]) ∧ OwnR outdS w.heap.size w' 93 (.slice B m cc) (o.getD []) ∧ m = (o.getD []).length ∧ Below w.heap.size w w'
def wwV (sys : List SignT) (ws : List ByteArray) : Option (List OutT) := if sysOk sys && dictOk ws then some (writF sys 0 ws) else none
set_option maxRecDepth 100000 in
set_option maxHeartbeats 2000000 in
theorem writtenWords_any (A B : Option Addr) (n c m d lo lo' : Nat) (sys : List SignT) (ws : List ByteArray) (w : World) (hmd : m ≤ d) (hx : Rd signS lo w.heap.size w A n sys) (hy : Rd strS lo' w.heap.size w B m ws) :
    Calls Try.prog 58 #[.slice A n c, .slice B m d] w (RetWW w (wwV sys ws)) := by
  obtain ⟨i0, hi1, hz0, hz1, hz2⟩ := info_parts (show (Try.prog.info? 93).map (fun i => (i.zero, i.size, i.bytes)) = some (some (.agg #[.int .i64 0, .slice none 0 0]), 2, 32) by kernel_rfl)
  have HI := hid (And.intro hi1 (And.intro hz0 (And.intro hz1 hz2)))
  clear hi1 hz0 hz1 hz2
  have HSG := hid (signsOf_any A n c lo sys w hx)
  have HY := hid hy
  have F1 := hid hy.1
  have h63 := hy.2.1
  clear hx hy
  go_enter Try.func58, Try.ntmps58
  go_wp2_with fail
  refine HSG.out.mono ?_
  intro e w1 hres
  rcases hres with ⟨hok, b, rfl, hM, hb1⟩ | ⟨hno, rfl, hb1⟩
  case inr =>
    have HV := hid (show wwV sys ws = none by unfold wwV; rw [hno]; rfl)
    have HB1 := hid hb1
    clear hno hb1
    go_wp2_with fail
    go_ret2
    rw [HV.out]
    exact ⟨_, 0, 0, rfl, OwnR.nil0, rfl, HB1.out⟩
  case inl =>
  have HOK := hid hok
  have HM := hid hM
  have HB1 := hid hb1
  have hbz1 := hb1.size
  have HY1 := hid (HY.out.bl hb1)
  clear hok hM hb1
  obtain ⟨q, hq⟩ : ∃ q, dictOk ws = q := ⟨_, rfl⟩
  have HQ := hid hq
  cases q with
  | false =>
    have HV := hid (show wwV sys ws = none by unfold wwV; rw [hq, Bool.and_false]; rfl)
    clear hq
    go_wp2_with fail
    refine (implDictionaryValid_any B m d lo' ws w1 hmd HY1.out).mono ?_
    rw [HQ.out]
    rintro e w2 ⟨rfl, rfl⟩
    go_wp2_with fail
    go_ret2
    rw [HV.out]
    exact ⟨_, 0, 0, rfl, OwnR.nil0, rfl, HB1.out⟩
  | true =>
    have HV := hid (show wwV sys ws = some (writF sys 0 ws) by unfold wwV; rw [hq, HOK.out]; rfl)
    have hm20 : m ≤ 20 := by rw [F1.out]; exact (dictOk_iff.1 hq).1
    clear hq
    go_wp2_with fail
    refine (implDictionaryValid_any B m d lo' ws w1 hmd HY1.out).mono ?_
    rw [HQ.out]
    rintro e w2 ⟨rfl, rfl⟩
    have ON := hid (show OwnR outdS w.heap.size (w1.alloc (.cells #[] 93)) 93 (.slice (some ⟨w1.heap.size, 0, none⟩) 0 0) [] from OwnR.nil hbz1 #[] rfl)
    have HMN := hid (HM.out.bl (bnew w1 (.cells #[] 93)))
    have HBN := hid (bnew w1 (.cells #[] 93))
    go_wp2_with fail
    go_loopg [8, 9, 10, 11, 12, 28] m (fun gk v _ _ _ _ i wr => ∃ (k : Nat) (A5 : Option Addr) (c5 : Nat) (acc : List OutT), k + gk = m ∧ i = .int .i64 k ∧ v = .slice A5 acc.length c5 ∧ OwnR outdS w1.heap.size wr 93 (.slice A5 acc.length c5) acc ∧ writF sys 0 ws = acc ++ writF sys k (ws.drop k) ∧ acc.length ≤ k ∧ Below w1.heap.size w1 wr)
    case atStart => exact ⟨0, _, _, [], Nat.zero_add _, rfl, rfl, OwnR.nil (Nat.le_refl _) #[] rfl, rfl, Nat.zero_le _, HBN.out⟩
    case round =>
      clear ON HMN HBN
      obtain ⟨k, A5, c5, acc, hkg, rfl, rfl, hO, hw, hal, hb⟩ := hrel
      have HKG := hid hkg
      have HO := hid hO
      have HWF := hid hw
      have HB := hid hb
      have hk : k ≤ m := by omega
      have hbz := hb.size
      clear hkg hO hw hb
      by_cases hlt : k < m
      case neg =>
        obtain rfl : k = m := by omega
        have HF := hid (show wwV sys ws = some acc by
          rw [HV.out, HWF.out, List.drop_eq_nil_of_le (by rw [F1.out]; exact Nat.le_refl _)]
          simp [writF])
        go_wp2_with fail
        go_ret2
        rw [HF.out]
        exact ⟨_, _, _, rfl, HO.out.low hbz1, rfl, HB1.out.trans (HB.out.mono hbz1)⟩
      case pos =>
        have hlti : (k : Int) < (m : Int) := by omega
        have hkl : k < ws.length := by rw [← F1.out]; exact hlt
        have HD := hid (writF_drop (sys := sys) hkl)
        obtain ⟨bb, off, hA, _, hbb, hcx⟩ := HY1.out.2.2 (by omega)
        subst hA
        obtain ⟨x0, x1⟩ := hcx.str hlt
        have cx0 := bcl HB.out x0
        obtain ⟨s, hs⟩ : ∃ s, gt ws k = s := ⟨_, rfl⟩
        rw [hs] at cx0 x1 HD
        have HWO := hid (implOutline_any b sys s wr (HM.out.bl HB.out) HOK.out x1)
        obtain ⟨o, ho⟩ : ∃ o, outW sys s = o := ⟨_, rfl⟩
        rw [ho] at HWO HD
        have hol := outW_len ho
        clear hcx x0 hs ho hkl
        cases o with
        | none =>
          go_wp2_with fail
          refine HWO.out.mono ?_
          intro e w4 hres
          unfold RetO at hres
          obtain ⟨B4, m4, c4, rfl, _, _, hb4⟩ := hres
          have HB4 := hid (btr HB.out hb4)
          have HO4 := hid (HO.out.bl hb4)
          clear hb4
          go_wp2_with fail
          go_roundg (gk - 1)
          case measure => have := HKG.out; omega
          case rel => exact ⟨k + 1, A5, c5, acc, by have := HKG.out; omega, by go_num, rfl, HO4.out, by rw [HWF.out, HD.out], by omega, HB4.out⟩
        | some o =>
          go_wp2_with fail
          refine HWO.out.mono ?_
          intro e w4 hres
          unfold RetO at hres
          obtain ⟨B4, m4, c4, rfl, hm4, hO4, hb4⟩ := hres
          have hm4' : m4 = o.length := hm4
          have hO4' : OwnR strokeS wr.heap.size w4 64 (.slice B4 m4 c4) o := hO4
          have HOO := hid hO4'
          have HM4 := hid hm4'
          have hc4 : m4 ≤ c4 := by
            obtain ⟨A9, c9, e9, h9⟩ := hO4'.form
            injection e9 with _ e9 e10
            omega
          have HRO := hid (hO4'.rd (by omega)).2
          have HB4 := hid (btr HB.out hb4)
          have HO4 := hid (HO.out.bl hb4)
          have hwz := HB4.out.size
          have HOL := hid fun j (hj : (Value.slice A5 acc.length c5).ownBlock = some j) => (HO.out.own_lt hj).2
          have hbn4 := hb4.size
          clear hb4 hm4 hO4 hm4' hO4'
          go_wp2_with (at_builtin; go_loud (refine wpList_append_R rfl (.tmp 40) (.tmp 44) _ rfl outdS Try.underlying89 HI.out rfl (by decide) (v := .slice A5 acc.length c5) rfl (HO4.out.al _) (y := ((k : Int), o)) (cs := [.int .i64 k, .slice B4 m4 c4]) rfl (heap_alloc_new _ _) rfl (by simp [Value.oneCell']) ⟨rfl, B4, c4, by show Value.slice B4 m4 c4 = Value.slice B4 o.length c4; rw [HM4.out], by rw [← HM4.out]; exact hc4, ?_⟩ (by omega) (by omega) (by simp; omega) ?_))
          · have hr := HRO.out.below (bnew w4 (.cells #[.int .i64 (k : Int), .slice B4 m4 c4] 93)) (Nat.le_refl _)
            rw [HM4.out] at hr ⊢
            exact (Rd_iff.1 hr).wide (fun j hj => ⟨Nat.le_trans hbz hj.1, by have := hj.2; rw [World.size_alloc]; omega, fun e => by have := HOL.out j e; have := hj.1; omega⟩)
          intro A6 c6 w6 hO6 hb6
          have HO6 := hid hO6
          have HB6 := hid (HB4.out.trans (((bnew w4 _).mono hwz).trans hb6))
          clear hO6 hb6
          go_wp2_with fail
          go_roundg (gk - 1)
          case measure => have := HKG.out; omega
          case rel => exact ⟨k + 1, A6, c6, acc ++ [((k : Int), o)], by have := HKG.out; omega, by go_num, by rw [List.length_append]; rfl, by rw [List.length_append]; exact HO6.out, by rw [HWF.out, HD.out, List.append_assoc]; rfl, by rw [List.length_append]; show acc.length + 1 ≤ k + 1; omega, HB6.out⟩
set_option maxRecDepth 100000 in
set_option maxHeartbeats 2000000 in
theorem implDictionaryLength_any (A B : Option Addr) (n c m d lo lo' : Nat) (sys : List SignT) (ws : List ByteArray) (w : World) (hmd : m ≤ d) (hx : Rd signS lo w.heap.size w A n sys) (hy : Rd strS lo' w.heap.size w B m ws) :
    Calls Try.prog 29 #[.slice A n c, .slice B m d] w fun e w' => e = .returned (.int .i64 (dictV sys ws)) ∧ Below w.heap.size w w' := by
  have HW := hid (writtenWords_any A B n c m d lo lo' sys ws w hmd hx hy)
  obtain ⟨q, hq⟩ : ∃ q, (sysOk sys && dictOk ws) = q := ⟨_, rfl⟩
  cases q with
  | false =>
    have HV := hid (show wwV sys ws = none by unfold wwV; rw [hq]; rfl)
    have HF := hid (show dictV sys ws = -1 by unfold dictV; rw [hq]; rfl)
    clear hq
    go_enter Try.func29, Try.ntmps29
    go_wp2_with fail
    refine HW.out.mono ?_
    rw [HV.out]
    intro e w1 hres
    unfold RetWW at hres
    obtain ⟨B1, m1, c1, rfl, _, _, hb1⟩ := hres
    have HB1 := hid hb1
    clear hb1
    go_wp2_with fail
    go_ret
    exact ⟨ret_int HF.out.symm, HB1.out⟩
  | true =>
    obtain ⟨os, hos⟩ : ∃ os, writF sys 0 ws = os := ⟨_, rfl⟩
    have HV := hid (show wwV sys ws = some os by unfold wwV; rw [hq, if_pos rfl, hos])
    have hq2 := hq
    rw [Bool.and_eq_true] at hq2
    have HF := hid (show dictV sys ws = lensF os by
      unfold dictV
      rw [hq, if_pos rfl, ← hos, writF_sum hq2.1])
    have hl20 : os.length ≤ 20 := by
      rw [← hos]
      exact Nat.le_trans (writF_len sys ws 0) (dictOk_iff.1 hq2.2).1
    have HOK := hid (show ∀ x ∈ os, outOk x.2 = true by rw [← hos]; exact writF_ok sys ws 0)
    clear hq hq2 hos
    go_enter Try.func29, Try.ntmps29
    go_wp2_with fail
    refine HW.out.mono ?_
    rw [HV.out]
    intro e w1 hres
    unfold RetWW at hres
    obtain ⟨B1, m1, c1, rfl, hO1, hm1, hb1⟩ := hres
    have hm1' : m1 = os.length := hm1
    have hO1' : OwnR outdS w.heap.size w1 93 (.slice B1 m1 c1) os := hO1
    have HB1 := hid hb1
    have hm20 : m1 ≤ 20 := by omega
    have HR := hid (hO1'.rd (by omega)).2
    have HM1 := hid hm1'
    clear hb1 hm1 hO1 hm1' hO1'
    go_wp2_with fail
    go_loopg [7, 9, 20] m1 (fun gk x _ i wr => ∃ (k : Nat) (y : Int), k + gk = m1 ∧ i = .int .i64 k ∧ x = .int .i64 y ∧ lensF os = y + lensF (os.drop k) ∧ 0 ≤ y ∧ y ≤ 24 * k ∧ Below w1.heap.size w1 wr)
    case atStart => exact ⟨0, 0, Nat.zero_add _, rfl, rfl, by rw [List.drop_zero, Int.zero_add], by omega, by omega, Below.refl _ _⟩
    case round =>
      obtain ⟨k, y, hkg, rfl, rfl, hl, hy0, hy1, hb⟩ := hrel
      have HKG := hid hkg
      have HL := hid hl
      have HB := hid hb
      have hk : k ≤ m1 := by omega
      clear hkg hl hb
      by_cases hlt : k < m1
      case neg =>
        obtain rfl : k = m1 := by omega
        have hfin := HL.out
        rw [show os.drop k = [] from List.drop_eq_nil_of_le (by rw [← HM1.out]; exact Nat.le_refl _)] at hfin
        have HFI := hid (show y = dictV sys ws by rw [HF.out, hfin]; show y = y + 0; omega)
        clear hfin
        go_wp2_with fail
        go_ret
        exact ⟨ret_int HFI.out, btr HB1.out HB.out⟩
      case pos =>
        have hki : (k : Int) < (m1 : Int) := by omega
        have hkl : k < os.length := by rw [← HM1.out]; exact hlt
        have HD := hid (lensF_drop hkl)
        obtain ⟨b, off, hA, _, hbb, hcx⟩ := HR.out.2.2 (by omega)
        subst hA
        obtain ⟨A1, c2, x0, x1, x4⟩ := hcx.outd hlt
        have cx0 := bcl HB.out x0
        have cx1 := bcl HB.out x1
        have hwo := HOK.out _ (gt_mem hkl)
        have hbd := lenOf_bd' hwo
        have hcall := fun (o : Obj) => (implOutlineLength_any A1 _ c2 w.heap.size _ _ (((x4.below HB.out (Nat.le_refl _)).wide (Nat.le_refl _) HB.out.size).bl (bnew wr o)))
        obtain ⟨q, hq⟩ : ∃ q, lenOf (gt os k).2 = q := ⟨_, rfl⟩
        rw [hq] at hbd HD hcall
        have hwr : IntKind.i64.wrap (y + q) = y + q := IntWalk.i64_in _ (by omega)
        have HCA := hid hcall
        clear hcx x0 x1 x4 hwo hq hkl hcall
        go_wp2_with fail
        refine (HCA.out _).mono ?_
        rintro e w4 ⟨rfl, hb1⟩
        have HB4 := hid (btr HB.out (btr (bnew wr _) hb1))
        clear hb1 HCA
        go_wp2_with fail
        go_roundg (gk - 1)
        case measure => have := HKG.out; omega
        case rel => exact ⟨k + 1, y + q, by have := HKG.out; omega, by go_num, rfl, by rw [HL.out, HD.out]; omega, by omega, by omega, HB4.out⟩
end Go.Proofs.Ytigemahbopligaa
