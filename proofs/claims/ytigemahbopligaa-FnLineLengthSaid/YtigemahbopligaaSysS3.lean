/- Outlines of words: what the reference's WordOutline returns. -/
import Derived.Test.YtigemahbopligaaSysS2
namespace Go.Proofs.Ytigemahbopligaa
open Go.RowKit
attribute [local go_sem] Oper.semAt_some
def outW (sys : List SignT) (s : ByteArray) : Option (List (Int × Int)) := if sysOk sys then outlineW sys s else none
/-- An outline of the call's own and whether there is one. -/
def RetO (w : World) (o : Option (List (Int × Int))) (e : Ending) (w' : World) : Prop :=
  ∃ B m cc, e = .returned (.tuple #[.slice B m cc, .bool o.isSome]) ∧ m = (o.getD []).length ∧ OwnR strokeS w.heap.size w' 64 (.slice B m cc) (o.getD []) ∧ Below w.heap.size w w'
theorem heap_new2 (w : World) (o o' : Obj) : ((w.alloc o).alloc o').heap[w.heap.size + 1]? = some o' := by
  have := heap_alloc_new (w.alloc o) o'
  rwa [World.size_alloc] at this
theorem OwnR.nil2 {α : Type} [Inhabited α] {S : Shape α} {base : Nat} {w : World} {e : TypeId} (hb : base ≤ w.heap.size) (o : Obj) : OwnR S base ((w.alloc o).alloc (.cells #[] e)) e (.slice (some ⟨w.heap.size + 1, 0, none⟩) 0 0) [] := by
  have := OwnR.nil (S := S) (base := base) (w := w.alloc o) (e := e) (by rw [World.size_alloc]; omega) #[] rfl
  rwa [World.size_alloc] at this
theorem ext_one {s : ByteArray} {k : Nat} (h : k < s.size) : (s.extract k (k + 1)).data.toList = [gt s.data.toList k] := by
  have h2 : k < s.data.toList.length := h
  rw [ByteArray.data_extract, Array.toList_extract, List.extract_eq_take_drop, show k + 1 - k = 1 by omega, drop_gt h2]
  rfl
theorem bareV_list (s : ByteArray) : (bareV s).data.toList = bareL s := rfl
theorem bareV_size (s : ByteArray) : (bareV s).size ≤ 12 := bareL_len s
theorem outlineW_of {sys : List SignT} {s : ByteArray} (h : wordOk s = true) : outlineW sys s = match strokesOf sys (bareL s) with
    | none => none
    | some o => if outOk o then some o else none := by
  unfold outlineW
  rw [if_pos h]
  rfl
theorem outlineW_no {sys : List SignT} {s : ByteArray} (h : wordOk s = false) : outlineW sys s = none := by
  unfold outlineW
  rw [h]
  rfl
theorem map_app (o : Option (List (Int × Int))) (acc : List (Int × Int)) (p : Int × Int) : (o.map (p :: ·)).map (acc ++ ·) = o.map ((acc ++ [p]) ++ ·) := by
  cases o with
  | none => rfl
  | some x => simp
set_option maxRecDepth 100000 in
set_option maxHeartbeats 2000000 in
theorem specWordOutline_any (A : Option Addr) (n c lo : Nat) (l : List SignT) (s : ByteArray) (w : World) (hx : Rd signS lo w.heap.size w A n l) (hs : s.size ≤ 9223372036854775807) :
    Calls Try.prog 60 #[.slice A n c, .string s] w (RetO w (outW l s)) := by
  obtain ⟨i0, hi1, hz0, hz1, hz2⟩ := info_parts (show (Try.prog.info? 64).map (fun i => (i.zero, i.size, i.bytes)) = some (some (.agg #[.int .i64 0, .int .i64 0]), 2, 16) by kernel_rfl)
  have HI := hid (And.intro hi1 (And.intro hz0 (And.intro hz1 hz2)))
  clear hi1 hz0 hz1 hz2
  have hb1 := bnew w (.cells #[] 64)
  have ON := hid (show OwnR strokeS w.heap.size (w.alloc (.cells #[] 64)) 64 (.slice (some ⟨w.heap.size, 0, none⟩) 0 0) [] from OwnR.nil (Nat.le_refl _) #[] rfl)
  obtain ⟨w1, hw1⟩ : ∃ w1, w.alloc (.cells #[] 64) = w1 := ⟨_, rfl⟩
  rw [hw1] at hb1 ON
  have HW1 := hid hw1
  have HB1 := hid hb1
  have HX := hid hx
  have HSV := hid (specSystemValid_any A n c lo l w1 (hx.bl hb1))
  have HWV := hid (fun w => specWordValid_any s w hs)
  have hz1 := hb1.size
  clear hx hw1 hb1
  obtain ⟨so, hso⟩ : ∃ so, sysOk l = so := ⟨_, rfl⟩
  have HSO := hid hso
  cases so with
  | false =>
    have HV := hid (show outW l s = none by unfold outW; rw [hso]; rfl)
    clear hso
    go_enter Try.func60, Try.ntmps60
    go_wp2_with fail
    rw [HW1.out]
    refine HSV.out.mono ?_
    rintro e w2 ⟨rfl, hb2⟩
    rw [HSO.out]
    have ON2 := hid (ON.out.bl hb2)
    have HB2 := hid (HB1.out.trans (hb2.mono hz1))
    clear hb2
    go_wp2_with fail
    go_ret2
    rw [HV.out]
    exact ⟨_, 0, 0, rfl, rfl, ON2.out, HB2.out⟩
  | true =>
  obtain ⟨wo, hwo⟩ : ∃ wo, wordOk s = wo := ⟨_, rfl⟩
  have HWO := hid hwo
  cases wo with
  | false =>
    have HV := hid (show outW l s = none by unfold outW; rw [hso, outlineW_no hwo]; rfl)
    clear hso hwo
    go_enter Try.func60, Try.ntmps60
    go_wp2_with fail
    rw [HW1.out]
    refine HSV.out.mono ?_
    rintro e w2 ⟨rfl, hb2⟩
    rw [HSO.out]
    have ON2 := hid (ON.out.bl hb2)
    have HB2 := hid (HB1.out.trans (hb2.mono hz1))
    clear hb2
    go_wp2_with fail
    refine (HWV.out _).mono ?_
    rw [HWO.out]
    rintro e w3 ⟨rfl, rfl⟩
    go_wp2_with fail
    go_ret2
    rw [HV.out]
    exact ⟨_, 0, 0, rfl, rfl, ON2.out, HB2.out⟩
  | true =>
    have HV := hid (show outW l s = match strokesOf l (bareL s) with
        | none => none
        | some o => if outOk o then some o else none by unfold outW; rw [hso, outlineW_of hwo]; rfl)
    clear hso hwo
    go_enter Try.func60, Try.ntmps60
    go_wp2_with fail
    rw [HW1.out]
    refine HSV.out.mono ?_
    rintro e w2 ⟨rfl, hb2⟩
    rw [HSO.out]
    have ON2 := hid (ON.out.bl hb2)
    have HB2 := hid (HB1.out.trans (hb2.mono hz1))
    clear hb2
    go_wp2_with fail
    refine (HWV.out _).mono ?_
    rw [HWO.out]
    rintro e w3 ⟨rfl, rfl⟩
    go_wp2_with fail
    refine (specWordBare_any s _ hs).mono ?_
    rintro e w3 ⟨rfl, hb3⟩
    have ON3 := hid (ON2.out.bl hb3)
    have HB3 := hid (HB2.out.trans (hb3.mono HB2.out.size))
    clear hb3
    obtain ⟨B, hB⟩ : ∃ B, bareV s = B := ⟨_, rfl⟩
    have hBs := bareV_size s
    rw [hB] at hBs ⊢
    have HBL := hid (show B.data.toList = bareL s by rw [← hB]; rfl)
    clear hB
    go_wp2_with fail
    go_loopg [6, 8, 9, 10] B.size (fun gk v i _ _ wr => ∃ (k : Nat) (A5 : Option Addr) (c5 : Nat) (acc : List (Int × Int)), k + gk = B.size ∧ i = .int .i64 k ∧ v = .slice A5 k c5 ∧ OwnR strokeS w.heap.size wr 64 (.slice A5 k c5) acc ∧ strokesOf l (bareL s) = (strokesOf l ((bareL s).drop k)).map (acc ++ ·) ∧ acc.length = k ∧ Below w.heap.size w wr)
    case atStart => exact ⟨0, _, _, [], Nat.zero_add _, rfl, rfl, ON3.out, by simp, rfl, HB3.out⟩
    case round =>
      obtain ⟨k, A5, c5, acc, hkg, rfl, rfl, hO, hst, hal, hb⟩ := hrel
      have HKG := hid hkg
      have HO := hid hO
      have HST := hid hst
      have HB := hid hb
      have HAL := hid hal
      have hk : k ≤ B.size := by omega
      have hbz := hb.size
      clear hkg hO hst hb hal ON ON2 ON3
      by_cases hlt : k < B.size
      case neg =>
        obtain rfl : k = B.size := by omega
        have hni : ¬ (B.size : Int) < (B.size : Int) := by omega
        have HF := hid (show strokesOf l (bareL s) = some acc by
          rw [HST.out, ← HBL.out, size_len, List.drop_length]
          simp [strokesOf])
        have HR := hid (HO.out.rd (by have := HAL.out; omega)).2
        go_wp2_with fail
        refine (specOutlineValid_any _ _ _ _ acc _ HR.out).mono ?_
        rintro e w4 ⟨rfl, hb4⟩
        have HO4 := hid (HO.out.bl hb4)
        have HB4 := hid (HB.out.trans (hb4.mono hbz))
        clear hb4
        obtain ⟨oo, hoo⟩ : ∃ oo, outOk acc = oo := ⟨_, rfl⟩
        rw [hoo]
        have HOO := hid hoo
        clear hoo
        have hwz := HB4.out.size
        cases oo with
        | false =>
          have HVV := hid (show outW l s = none by rw [HV.out, HF.out]; simp [HOO.out])
          go_wp2_with fail
          go_ret2
          rw [HVV.out]
          exact ⟨_, 0, 0, rfl, rfl, OwnR.nil (by omega) #[] rfl, HB4.out.trans ((bnew w4 _).mono hwz)⟩
        | true =>
          have HVV := hid (show outW l s = some acc by rw [HV.out, HF.out]; simp [HOO.out])
          go_wp2_with fail
          go_ret2
          rw [HVV.out]
          exact ⟨_, _, _, rfl, HAL.out.symm, HO4.out, HB4.out⟩
      case pos =>
        have hlti : (k : Int) < (B.size : Int) := by omega
        have hkl : k < (bareL s).length := by rw [← HBL.out]; exact hlt
        have HD := hid (strokes_drop (sys := l) hkl)
        have hek := ext_one hlt
        have hk63 : B.size ≤ 9223372036854775807 := by omega
        obtain ⟨ch, hch⟩ : ∃ ch, gt B.data.toList k = ch := ⟨_, rfl⟩
        rw [hch] at hek
        rw [HBL.out] at hch
        rw [hch] at HD
        have HSS := hid (specSystemStroke_any A n c lo l (B.extract k (k + 1)) ch wr (HX.out.bl HB.out) HSO.out hek)
        clear hkl hek hch
        obtain ⟨o, ho⟩ : ∃ o, strokeAt l ch = o := ⟨_, rfl⟩
        rw [ho] at HSS HD
        clear ho
        cases o with
        | none =>
          have HF := hid (show outW l s = none by rw [HV.out, HST.out, HD.out]; rfl)
          have HS2 := hid (show Calls Try.prog 84 #[.slice A n c, .string (B.extract k (k + 1))] wr fun e w' => e = .returned (.tuple #[.agg #[.int .i64 0, .int .i64 0], .bool false]) ∧ Below wr.heap.size wr w' from HSS.out)
          clear HSS
          go_wp2_with fail
          refine HS2.out.mono ?_
          rintro e w4 ⟨rfl, hb4⟩
          have HB4 := hid (HB.out.trans (hb4.mono hbz))
          have hwz := HB4.out.size
          clear hb4
          go_wp2_with fail
          go_ret2
          rw [HF.out]
          exact ⟨_, 0, 0, rfl, rfl, OwnR.nil2 hwz _, HB4.out.trans ((bal (bnew w4 _) _).mono hwz)⟩
        | some p =>
          obtain ⟨d, z⟩ := p
          have HS2 := hid (show Calls Try.prog 84 #[.slice A n c, .string (B.extract k (k + 1))] wr fun e w' => e = .returned (.tuple #[.agg #[.int .i64 d, .int .i64 z], .bool true]) ∧ Below wr.heap.size wr w' from HSS.out)
          clear HSS
          have hal := HAL.out
          have hal12 : acc.length ≤ 12 := by omega
          clear hal
          go_wp2_with fail
          refine HS2.out.mono ?_
          rintro e w4 ⟨rfl, hb4⟩
          have HO4 := hid (HO.out.bl hb4)
          have HB4 := hid (HB.out.trans (hb4.mono hbz))
          have hwz := HB4.out.size
          clear hb4
          go_wp2_with (at_builtin; go_loud (refine wpList_append_R rfl (.tmp 42) (.tmp 44) _ rfl strokeS Try.underlying24 HI.out rfl (by decide) (v := .slice A5 k c5) rfl ((HO4.out.al _).al _) (y := (d, z)) (cs := [.int .i64 d, .int .i64 z]) rfl (heap_new2 _ _ _) rfl (by simp [Value.oneCell']) ⟨rfl, rfl⟩ (by omega) (by omega) (by simp; omega) ?_; intro A6 c6 w6 hO6 hb6; rw [HAL.out] at hO6 ⊢))
          have HO6 := hid hO6
          have HB6 := hid (HB4.out.trans (((bal (bnew w4 _) _).mono hwz).trans hb6))
          clear hO6 hb6
          go_wp2_with fail
          go_roundg (gk - 1)
          case measure => have := HKG.out; omega
          case rel => exact ⟨k + 1, A6, c6, acc ++ [(d, z)], by have := HKG.out; omega, by go_num, rfl, HO6.out, by rw [HST.out, HD.out]; exact map_app _ _ _, by rw [List.length_append, HAL.out]; rfl, HB6.out⟩
end Go.Proofs.Ytigemahbopligaa
