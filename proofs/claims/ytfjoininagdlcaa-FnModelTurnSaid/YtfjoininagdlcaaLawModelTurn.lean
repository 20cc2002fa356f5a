/- The law FnModelTurn returns true for all arguments that can be read. -/
import Derived.Test.YtfjoininagdlcaaDrawLs
import Derived.Test.YtfjoininagdlcaaLawFns
import Derived.Test.YtfjoininagdlcaaLawKit
import Derived.Test.YtfjoininagdlcaaTurnImpl
import Derived.Test.YtfjoininagdlcaaTurnFns
import Derived.Test.YtfjoininagdlcaaTurnPure
import Derived.Test.YtfjoininagdlcaaTurnDraw
import Derived.Test.YtfjoininagdlcaaTurnRd
import Derived.Test.YtfjoininagdlcaaSameRow
import Derived.Deep.RegionHeld3
import Derived.StillTailTactics
namespace Go.Proofs.Ytfjoininagdlcaa
open Go.RowKit
set_option maxRecDepth 100000 in
set_option maxHeartbeats 4000000 in
theorem lawModelTurn (A0 : Option Addr) (n0 c0 : Nat) (bs : List UInt8) (A9 : Option Addr) (n9 c9 : Nat) (bs9 : List UInt8) (w : World) (hnc : n0 ≤ c0) (hx : Rd byteS 0 w.heap.size w A0 n0 bs) (_hnc9 : n9 ≤ c9) (hx9 : Rd byteS 0 w.heap.size w A9 n9 bs9) :
    Calls Try.prog 12 #[.slice A0 n0 c0, .slice A9 n9 c9] w fun e w' => e = .returned (.bool true) ∧ Below w.heap.size w w' := by
  have hn63 := hx.2.1
  have HX := hid hx
  clear hx
  have hn93 := hx9.2.1
  clear hx9
  by_cases hn0 : n0 ≤ 1048576
  case neg =>
    have gn0 : (1048576 : Int) < (n0 : Int) := by omega
    go_enter Try.func12, Try.ntmps12
    go_wp2_with fail
    go_ret
    exact ⟨rfl, Below.refl _ _⟩
  by_cases hn9 : n9 ≤ 1048576
  case neg =>
    have gn9 : (1048576 : Int) < (n9 : Int) := by omega
    have gn0 : ¬ (1048576 : Int) < (n0 : Int) := by omega
    go_enter Try.func12, Try.ntmps12
    go_wp2_with fail
    go_ret
    exact ⟨rfl, Below.refl _ _⟩
  have gn0 : ¬ (1048576 : Int) < (n0 : Int) := by omega
  have gn9 : ¬ (1048576 : Int) < (n9 : Int) := by omega
  go_enter Try.func12, Try.ntmps12
  go_wp2_with fail
  refine (DrawModelTurn_any A0 n0 c0 bs w hnc HX.out).mono ?_
  rintro e w1 ⟨A, n, c, l, B, m, e0, r, x, y, rfl, a1, hx0, hx9, hy0, hy9, hb1⟩
  have LM2 := hid (LM.new (C := none) (q := 0) (page := []) (c := c) (e0 := e0) (t := 26) a1.hl a1.hr (Rd.nil _ _ _ _ _))
  have hln := a1.hl.1
  have hn1 := a1.n1
  have hn4 := a1.n4
  have hm4 := a1.m4
  have hmr := a1.hr.1
  have HLN := hid hln
  have HMR := hid hmr
  have HB2 := hid (bal hb1 (.cells #[.slice A n c, .slice B m e0] 26))
  clear a1 hb1 hln hmr
  go_wp2_with fail
  generalize (w1.alloc (.cells #[.slice A n c, .slice B m e0] 26)) = w2 at *
  obtain ⟨M, hM⟩ : ∃ M, w1.heap.size = M := ⟨_, rfl⟩
  rw [hM] at LM2 ⊢
  clear hM
  have HB := hid HB2.out
  obtain ⟨j0, hj1, hy0, hy1, hy2⟩ := info_parts (show (Try.prog.info? 23).map (fun i => (i.zero, i.size, i.bytes)) = some (some (.slice none 0 0), 1, 24) by kernel_rfl)
  have HJ := hid (And.intro hj1 (And.intro hy0 (And.intro hy1 hy2)))
  clear hj1 hy0 hy1 hy2
  obtain ⟨i0, hi1, hz0, hz1, hz2⟩ := info_parts (show (Try.prog.info? 3).map (fun i => (i.zero, i.size, i.bytes)) = some (some (.int .i64 0), 1, 8) by kernel_rfl)
  have HI0 := hid (And.intro hi1 (And.intro hz0 (And.intro hz1 hz2)))
  clear hi1 hz0 hz1 hz2
  have hmr := HMR.out
  have hln := HLN.out
  have hbd := turnV_bd l r x y
  have hl4 : l.length ≤ 4 := by omega
  have hr4 : r.length ≤ 4 := by omega
  clear hmr hln
  obtain ⟨V, hV⟩ : ∃ V, turnV l r x y = V := ⟨_, rfl⟩
  rw [hV] at hbd
  have HV := hid hV
  clear hV
  cases V with
  | none =>
    clear hbd
    have LM2a := LM2.out.at0
    have LM2b := LM2.out.at1
    have hres := implModelTurn_any A B n c m e0 x y l r w2 LM2.out.hl LM2.out.hr
    rw [HV.out] at hres
    refine hres.mono ?_
    clear hres
    clear LM2a LM2b
    intro e w3 hres
    obtain ⟨Ao, co, Bo, dd_o, rfl, hR1, hR2, hb⟩ := rm_rd hres (by simp only [Option.getD_some, Option.getD_none, List.length_nil]; omega) (by simp only [Option.getD_some, Option.getD_none, List.length_nil]; omega)
    clear hres
    simp only [Option.getD_some, Option.getD_none, Option.isSome_some, Option.isSome_none, List.length_nil] at hR1 hR2 ⊢
    have HB := hid (HB.out.trans (hb.mono HB.out.size))
    have LM2 := hid (LM2.out.bl hb)
    clear hb
    have LMo := hid (LM.new (C := none) (q := 0) (page := []) (c := co) (e0 := dd_o) (t := 26) hR1 hR2 (Rd.nil _ _ _ _ _))
    clear hR1 hR2
    have hb := bnew w3 (.cells #[.slice Ao 0 co, .slice Bo 0 dd_o] 26)
    have HB := hid (HB.out.trans (hb.mono HB.out.size))
    have LM2 := hid (LM2.out.bl hb)
    clear hb
    have LM2a := LM2.out.at0
    have LM2b := LM2.out.at1
    have LMoa := LMo.out.at0
    have LMob := LMo.out.at1
    go_wp2_with fail
    clear LM2a LM2b LMoa LMob
    generalize (w3.alloc (.cells #[.slice Ao 0 co, .slice Bo 0 dd_o] 26)) = w4 at *
    obtain ⟨Mo, hM⟩ : ∃ M, w3.heap.size = M := ⟨_, rfl⟩
    rw [hM] at LMo ⊢
    clear hM
    have LM2a := LM2.out.at0
    have LM2b := LM2.out.at1
    have LMoa := LMo.out.at0
    have LMob := LMo.out.at1
    have hres := specModelTurn_any A B n c m e0 x y l r w4 LM2.out.hl LM2.out.hr
    rw [HV.out] at hres
    refine hres.mono ?_
    clear hres
    clear LM2a LM2b LMoa LMob
    intro e w5 hres
    obtain ⟨Ag, cg, Bg, dd_g, rfl, hR1, hR2, hb⟩ := rm_rd hres (by simp only [Option.getD_some, Option.getD_none, List.length_nil]; omega) (by simp only [Option.getD_some, Option.getD_none, List.length_nil]; omega)
    clear hres
    simp only [Option.getD_some, Option.getD_none, Option.isSome_some, Option.isSome_none, List.length_nil] at hR1 hR2 ⊢
    have HB := hid (HB.out.trans (hb.mono HB.out.size))
    have LM2 := hid (LM2.out.bl hb)
    have LMo := hid (LMo.out.bl hb)
    clear hb
    have LMg := hid (LM.new (C := none) (q := 0) (page := []) (c := cg) (e0 := dd_g) (t := 26) hR1 hR2 (Rd.nil _ _ _ _ _))
    clear hR1 hR2
    have hb := bnew w5 (.cells #[.slice Ag 0 cg, .slice Bg 0 dd_g] 26)
    have HB := hid (HB.out.trans (hb.mono HB.out.size))
    have LM2 := hid (LM2.out.bl hb)
    have LMo := hid (LMo.out.bl hb)
    clear hb
    have LM2a := LM2.out.at0
    have LM2b := LM2.out.at1
    have LMoa := LMo.out.at0
    have LMob := LMo.out.at1
    have LMga := LMg.out.at0
    have LMgb := LMg.out.at1
    go_wp2_with fail
    clear LM2a LM2b LMoa LMob LMga LMgb
    generalize (w5.alloc (.cells #[.slice Ag 0 cg, .slice Bg 0 dd_g] 26)) = w6 at *
    obtain ⟨Mg, hM⟩ : ∃ M, w5.heap.size = M := ⟨_, rfl⟩
    rw [hM] at LMg ⊢
    clear hM
    have LM2a := LM2.out.at0
    have LM2b := LM2.out.at1
    have LMoa := LMo.out.at0
    have LMob := LMo.out.at1
    have LMga := LMg.out.at0
    have LMgb := LMg.out.at1
    refine (sameModel_any _ _ _ _ _ _ _ _ _ _ _ _ _ _ _ _ _ LMo.out.hl LMo.out.hr LMg.out.hl LMg.out.hr).mono ?_
    clear LM2a LM2b LMoa LMob LMga LMgb
    rintro e w7 ⟨rfl, hb⟩
    have HB := hid (HB.out.trans (hb.mono HB.out.size))
    have LM2 := hid (LM2.out.bl hb)
    have LMo := hid (LMo.out.bl hb)
    have LMg := hid (LMg.out.bl hb)
    clear hb
    rw [eqD_self, eqD_self, Bool.and_self]
    have LM2a := LM2.out.at0
    have LM2b := LM2.out.at1
    have LMoa := LMo.out.at0
    have LMob := LMo.out.at1
    have LMga := LMg.out.at0
    have LMgb := LMg.out.at1
    go_wp2_with fail
    refine (sameModel_any _ _ _ _ _ _ _ _ _ _ _ _ _ _ _ _ _ LMo.out.hl LMo.out.hr LMg.out.hl LMg.out.hr).mono ?_
    clear LM2a LM2b LMoa LMob LMga LMgb
    rintro e w8 ⟨rfl, hb⟩
    have HB := hid (HB.out.trans (hb.mono HB.out.size))
    have LM2 := hid (LM2.out.bl hb)
    have LMo := hid (LMo.out.bl hb)
    have LMg := hid (LMg.out.bl hb)
    clear hb
    rw [eqD_self, eqD_self, Bool.and_self]
    have LM2a := LM2.out.at0
    have LM2b := LM2.out.at1
    have LMoa := LMo.out.at0
    have LMob := LMo.out.at1
    have LMga := LMg.out.at0
    have LMgb := LMg.out.at1
    go_wp2_with fail
    go_ret
    exact ⟨rfl, HB.out⟩
  | some VV =>
    obtain ⟨l', r'⟩ := VV
    simp only [Option.getD_some] at hbd
    obtain ⟨hbl, hbr⟩ := hbd
    obtain ⟨g1, g2, g3, g4, g5⟩ := turn_law HV.out
    have G4 := hid g4
    have G5 := hid g5
    clear g1 g2 g3 g4 g5
    have hl5 : l'.length ≤ 4 := by omega
    have hr5 : r'.length ≤ 4 := by omega
    clear hbl hbr
    have LM2a := LM2.out.at0
    have LM2b := LM2.out.at1
    have hres := implModelTurn_any A B n c m e0 x y l r w2 LM2.out.hl LM2.out.hr
    rw [HV.out] at hres
    refine hres.mono ?_
    clear hres
    clear LM2a LM2b
    intro e w3 hres
    obtain ⟨Ao, co, Bo, dd_o, rfl, hR1, hR2, hb⟩ := rm_rd hres (by simp only [Option.getD_some, Option.getD_none, List.length_nil]; omega) (by simp only [Option.getD_some, Option.getD_none, List.length_nil]; omega)
    clear hres
    simp only [Option.getD_some, Option.getD_none, Option.isSome_some, Option.isSome_none, List.length_nil] at hR1 hR2 ⊢
    have HB := hid (HB.out.trans (hb.mono HB.out.size))
    have LM2 := hid (LM2.out.bl hb)
    clear hb
    have LMo := hid (LM.new (C := none) (q := 0) (page := []) (c := co) (e0 := dd_o) (t := 26) hR1 hR2 (Rd.nil _ _ _ _ _))
    clear hR1 hR2
    have hb := bnew w3 (.cells #[.slice Ao l'.length co, .slice Bo r'.length dd_o] 26)
    have HB := hid (HB.out.trans (hb.mono HB.out.size))
    have LM2 := hid (LM2.out.bl hb)
    clear hb
    have LM2a := LM2.out.at0
    have LM2b := LM2.out.at1
    have LMoa := LMo.out.at0
    have LMob := LMo.out.at1
    go_wp2_with fail
    clear LM2a LM2b LMoa LMob
    generalize (w3.alloc (.cells #[.slice Ao l'.length co, .slice Bo r'.length dd_o] 26)) = w4 at *
    obtain ⟨Mo, hM⟩ : ∃ M, w3.heap.size = M := ⟨_, rfl⟩
    rw [hM] at LMo ⊢
    clear hM
    have LM2a := LM2.out.at0
    have LM2b := LM2.out.at1
    have LMoa := LMo.out.at0
    have LMob := LMo.out.at1
    have hres := specModelTurn_any A B n c m e0 x y l r w4 LM2.out.hl LM2.out.hr
    rw [HV.out] at hres
    refine hres.mono ?_
    clear hres
    clear LM2a LM2b LMoa LMob
    intro e w5 hres
    obtain ⟨Ag, cg, Bg, dd_g, rfl, hR1, hR2, hb⟩ := rm_rd hres (by simp only [Option.getD_some, Option.getD_none, List.length_nil]; omega) (by simp only [Option.getD_some, Option.getD_none, List.length_nil]; omega)
    clear hres
    simp only [Option.getD_some, Option.getD_none, Option.isSome_some, Option.isSome_none, List.length_nil] at hR1 hR2 ⊢
    have HB := hid (HB.out.trans (hb.mono HB.out.size))
    have LM2 := hid (LM2.out.bl hb)
    have LMo := hid (LMo.out.bl hb)
    clear hb
    have LMg := hid (LM.new (C := none) (q := 0) (page := []) (c := cg) (e0 := dd_g) (t := 26) hR1 hR2 (Rd.nil _ _ _ _ _))
    clear hR1 hR2
    have hb := bnew w5 (.cells #[.slice Ag l'.length cg, .slice Bg r'.length dd_g] 26)
    have HB := hid (HB.out.trans (hb.mono HB.out.size))
    have LM2 := hid (LM2.out.bl hb)
    have LMo := hid (LMo.out.bl hb)
    clear hb
    have LM2a := LM2.out.at0
    have LM2b := LM2.out.at1
    have LMoa := LMo.out.at0
    have LMob := LMo.out.at1
    have LMga := LMg.out.at0
    have LMgb := LMg.out.at1
    go_wp2_with fail
    clear LM2a LM2b LMoa LMob LMga LMgb
    generalize (w5.alloc (.cells #[.slice Ag l'.length cg, .slice Bg r'.length dd_g] 26)) = w6 at *
    obtain ⟨Mg, hM⟩ : ∃ M, w5.heap.size = M := ⟨_, rfl⟩
    rw [hM] at LMg ⊢
    clear hM
    have LM2a := LM2.out.at0
    have LM2b := LM2.out.at1
    have LMoa := LMo.out.at0
    have LMob := LMo.out.at1
    have LMga := LMg.out.at0
    have LMgb := LMg.out.at1
    refine (sameModel_any _ _ _ _ _ _ _ _ _ _ _ _ _ _ _ _ _ LMo.out.hl LMo.out.hr LMg.out.hl LMg.out.hr).mono ?_
    clear LM2a LM2b LMoa LMob LMga LMgb
    rintro e w7 ⟨rfl, hb⟩
    have HB := hid (HB.out.trans (hb.mono HB.out.size))
    have LM2 := hid (LM2.out.bl hb)
    have LMo := hid (LMo.out.bl hb)
    have LMg := hid (LMg.out.bl hb)
    clear hb
    rw [eqD_self, eqD_self, Bool.and_self]
    have LM2a := LM2.out.at0
    have LM2b := LM2.out.at1
    have LMoa := LMo.out.at0
    have LMob := LMo.out.at1
    have LMga := LMg.out.at0
    have LMgb := LMg.out.at1
    clear LM2a LM2b LMoa LMob LMga LMgb
    clear LMg
    have LM2a := LM2.out.at0
    have LM2b := LM2.out.at1
    have LMoa := LMo.out.at0
    have LMob := LMo.out.at1
    go_wp2_with fail
    have hres := implModelTurn_any Ao Bo l'.length co r'.length dd_o x y l' r' w7 LMo.out.hl LMo.out.hr
    rw [G4.out] at hres
    refine hres.mono ?_
    clear hres
    clear LM2a LM2b LMoa LMob
    intro e w8 hres
    obtain ⟨Ax, cx, Bx, dx, rfl, hR1, hR2, hb⟩ := rm_rd hres (by simp only [Option.getD_some]; omega) (by simp only [Option.getD_some]; omega)
    clear hres
    simp only [Option.getD_some, Option.isSome_some] at hR1 hR2 ⊢
    have HB := hid (HB.out.trans (hb.mono HB.out.size))
    have LM2 := hid (LM2.out.bl hb)
    have LMo := hid (LMo.out.bl hb)
    clear hb
    have LMx := hid (LM.new (C := none) (q := 0) (page := []) (c := cx) (e0 := dx) (t := 26) hR1 hR2 (Rd.nil _ _ _ _ _))
    clear hR1 hR2
    have hb := bnew w8 (.cells #[.slice Ax l.length cx, .slice Bx r.length dx] 26)
    have HB := hid (HB.out.trans (hb.mono HB.out.size))
    have LM2 := hid (LM2.out.bl hb)
    have LMo := hid (LMo.out.bl hb)
    clear hb
    have hs8 : (w8.alloc (.cells #[.slice Ax l.length cx, .slice Bx r.length dx] 26)).heap.size = w8.heap.size + 1 := by simp
    have hON := OwnR.nil (S := intS) (base := (w8.alloc (.cells #[.slice Ax l.length cx, .slice Bx r.length dx] 26)).heap.size) (e := 3) (w := (w8.alloc (.cells #[.slice Ax l.length cx, .slice Bx r.length dx] 26))) (Nat.le_refl _) #[] rfl
    rw [hs8] at hON
    have ON0 := hid hON
    have HBN := hid (bnew (w8.alloc (.cells #[.slice Ax l.length cx, .slice Bx r.length dx] 26)) (.cells #[] 3))
    have HS8 := hid hs8
    clear hON hs8
    have mc0 := (LM2.out.bl HBN.out).at0
    have mc1 := (LM2.out.bl HBN.out).at1
    go_wp2_with fail
    clear mc0 mc1
    generalize (w8.alloc (.cells #[.slice Ax l.length cx, .slice Bx r.length dx] 26)) = w9 at *
    obtain ⟨Mx, hM⟩ : ∃ M, w8.heap.size = M := ⟨_, rfl⟩
    rw [hM] at LMx HS8 ON0 ⊢
    clear hM
    rw [← HS8.out] at ON0 ⊢
    have HB1 := HB
    clear HB
    go_loopg [14, 15] n (fun gk all i wr => ∃ (k : Nat) (g dd : Nat), k + gk = n ∧ i = .int .i64 k ∧ all = .slice (some ⟨g, 0, none⟩) (rowN k).length dd ∧ OwnR intS w9.heap.size wr 3 (.slice (some ⟨g, 0, none⟩) (rowN k).length dd) (rowN k) ∧ Below w9.heap.size w9 wr)
    case atStart => exact ⟨0, _, _, Nat.zero_add _, rfl, rfl, ON0.out, HBN.out⟩
    case round =>
      clear ON0 HBN
      obtain ⟨k, g, dd, hkg, rfl, rfl, hO, hb⟩ := hrel
      have HKG := hid hkg
      have HO := hid hO
      have HB := hid hb
      have hk : k ≤ n := by omega
      clear hkg hO
      have LM2r := hid (LM2.out.bl hb)
      clear LM2
      have LM2 := LM2r
      clear LM2r
      have LMor := hid (LMo.out.bl hb)
      clear LMo
      have LMo := LMor
      clear LMor
      have LMxr := hid (LMx.out.bl hb)
      clear LMx
      have LMx := LMxr
      clear LMxr
      have hws := hb.size
      clear hb
      have mc0 := LM2.out.at0
      obtain ⟨rn, hrn⟩ : ∃ rn, (rowN k).length = rn := ⟨_, rfl⟩
      have hrk : rn = k := by rw [← hrn, rowN_len]
      subst hrk
      by_cases hlt : rn < n
      case pos =>
        have hki : (rn : Int) < (n : Int) := by omega
        rw [hrn]
        have HRN := hid hrn
        have hO2 := HO.out
        rw [hrn] at hO2
        have HO2 := hid hO2
        clear hrn hO2
        go_wp2_with (at_builtin; refine wpList_append_R rfl (.tmp 82) (.tmp 84) _ rfl intS Try.underlying23 HI0.out rfl (by decide) (v := .slice (some ⟨g, 0, none⟩) rn dd) rfl (HO2.out.al _) (y := (rn : Int)) rfl (heap_alloc_new _ _) rfl (by simp [Value.oneCell']) rfl (by rw [HRN.out]; omega) (by rw [HRN.out]; omega) (by simp; omega) ?_; intro A2 c2 w6 hO4 hb4)
        rw [HRN.out] at hO4 ⊢
        obtain ⟨g4, rfl, _⟩ := hO4.blk (by omega)
        have HO4 := hid hO4
        have HB5 := hid (HB.out.trans (((bnew wr _).mono hws).trans hb4))
        clear hO4 hb4
        go_roundg (gk - 1)
        case measure => have := HKG.out; omega
        case rel => exact ⟨rn + 1, g4, c2, by have := HKG.out; omega, by go_num, by rw [rowN_len], by rw [rowN_len, rowN_succ]; exact HO4.out, HB5.out⟩
      case neg =>
        have HNR := hid (show rn = n by omega)
        have hki : ¬ (rn : Int) < (n : Int) := by omega
        clear hlt hk
        rw [hrn]
        have hO2 := HO.out
        rw [hrn] at hO2
        have hcap := hO2.form
        obtain ⟨Ac, cc, hcc, hle⟩ := hcap
        injection hcc with he1 he2 hcc
        subst hcc
        clear he1 he2
        rw [hrn] at hle
        have hra := (hO2.rd (by rw [hrn]; have := HNR.out; omega)).2.wide (lo' := 0) (Nat.zero_le _) (Nat.le_refl _)
        have HRA := hid hra
        clear hO2 hra HO hrn
        have N1 := hid (OwnR.nil (S := valS) (base := wr.heap.size) (e := 23) (Nat.le_refl wr.heap.size) #[] rfl)
        have HBN := hid (bnew wr (.cells #[] 23))
        obtain ⟨KN, hKN⟩ : ∃ a, n9 % 4 = a := ⟨_, rfl⟩
        have hk4 : KN < 4 := by omega
        have ha1 : (n9 : Int) % (4 : Int) = (KN : Int) := by omega
        have ha2 : Int.tmod (n9 : Int) (4 : Int) = (KN : Int) := by rw [Int.tmod_eq_emod_of_nonneg (by omega)]; exact ha1
        clear hKN ha1
        go_wp2_with fail
        clear mc0
        obtain ⟨wo, hwo⟩ : ∃ x : World, x = wr := ⟨_, rfl⟩
        subst hwo
        have HBO := HB
        clear HB
        obtain ⟨u, hu⟩ : ∃ u, Value.slice (some ⟨g, 0, none⟩) rn dd = u := ⟨_, rfl⟩
        have HU := hid hu
        clear hu
        go_loopg [16, 17] KN (fun gk pg i wr => ∃ (k : Nat) (g2 d2 : Nat), k + gk = KN ∧ i = .int .i64 k ∧ pg = .slice (some ⟨g2, 0, none⟩) k d2 ∧ OwnR valS wo.heap.size wr 23 (.slice (some ⟨g2, 0, none⟩) k d2) (List.replicate k u) ∧ Below wo.heap.size wo wr)
        case atStart => exact ⟨0, _, _, Nat.zero_add _, rfl, rfl, N1.out, HBN.out⟩
        case round =>
          clear N1 HBN
          obtain ⟨k, g2, d2, hkg, rfl, rfl, hO, hb⟩ := hrel
          have HKG2 := hid hkg
          have HO := hid hO
          have HB := hid hb
          have hk : k ≤ KN := by omega
          clear hkg hO
          have LM2r := hid (LM2.out.bl hb)
          clear LM2
          have LM2 := LM2r
          clear LM2r
          have LMor := hid (LMo.out.bl hb)
          clear LMo
          have LMo := LMor
          clear LMor
          have LMxr := hid (LMx.out.bl hb)
          clear LMx
          have LMx := LMxr
          clear LMxr
          have HRAr := hid (HRA.out.bl hb)
          clear HRA
          have HRA := HRAr
          clear HRAr
          have hws2 := hb.size
          clear hb
          by_cases hlk : k < KN
          case pos =>
            have hkk : (k : Int) < (KN : Int) := by omega
            go_wp2_with (at_builtin; refine wpList_append_R2 rfl (.tmp 94) (.tmp 96) _ rfl valS Try.underlying24 HJ.out rfl (by decide) (v := .slice (some ⟨g2, 0, none⟩) k d2) (cs := [.slice (some ⟨g, 0, none⟩) rn dd]) rfl (HO.out.al _) (y := u) rfl (heap_alloc_new _ _) rfl (fun q hq => by rw [List.mem_singleton] at hq; subst hq; rfl) HU.out (by rw [List.length_replicate]; omega) (by rw [List.length_replicate]; omega) (by simp; omega) ?_; intro A2 c2 w6 hO4 hc4 hv4)
            rw [List.length_replicate] at hO4
            obtain ⟨g4, rfl, _⟩ := hO4.blk (by omega)
            have HO4 := hid hO4
            have HB5 := hid (HB.out.trans (((bnew wr _).mono hws2).trans (hc4.below (B := wo.heap.size) (by simp; omega) (fun k hk => (HO.out.own_lt hk).1))))
            clear hO4 hc4 hv4
            go_roundg (gk - 1)
            case measure => have := HKG2.out; omega
            case rel => exact ⟨k + 1, g4, c2, by have := HKG2.out; omega, by go_num, rfl, by rw [List.replicate_succ']; exact HO4.out, HB5.out⟩
          case neg =>
            obtain rfl : KN = k := by omega
            clear hlk hk
            have hpg := same_rows HO.out HU.out (by have := HRA.out.1; omega) hle HRA.out (by omega)
            have hpg2 : Rd (sliceS intS) 0 wr.heap.size wr (some ⟨g2, 0, none⟩) KN (wholeP l.length KN) := by have h1 := HLN.out; have h2 := HNR.out; subst h2; subst h1; exact hpg
            have HPG := hid hpg2
            clear hpg hpg2
            have LM2a := LM2.out.at0
            have LM2b := LM2.out.at1
            have LMoa := LMo.out.at0
            have LMob := LMo.out.at1
            have LMxa := LMx.out.at0
            have LMxb := LMx.out.at1
            obtain ⟨mx, hmx⟩ : ∃ mx, manyV l r (wholeP l.length KN) = mx := ⟨_, rfl⟩
            have hmy : manyV l' r' (wholeP l.length KN) = mx := (G5.out KN (by omega)).trans hmx
            have HMX := hid hmx
            have HMY := hid hmy
            clear hmx hmy
            have CALL1 := hid fun X : Aft wr.heap.size wr => aft_call ((sameModel_any _ _ _ _ _ _ _ _ _ _ _ _ _ _ _ _ X.val (LMx.out.bl X.prop).hl (LMx.out.bl X.prop).hr (LM2.out.bl X.prop).hl (LM2.out.bl X.prop).hr : Calls Try.prog 48 #[.agg #[.slice Ax l.length cx, .slice Bx r.length dx], .agg #[.slice A n c, .slice B m e0]] X.val _).mono fun e w2 h => (show e = .returned (.bool true) ∧ Below X.val.heap.size X.val w2 from ⟨by rw [h.1, eqD_self, eqD_self]; rfl, h.2⟩)) (Nat.le_refl _)
            have CALL2 := hid fun X : Aft wr.heap.size wr => aft_call ((implReadingsMany_any Ao Bo (some ⟨g2, 0, none⟩) l'.length co r'.length dd_o KN d2 0 l' r' (wholeP l.length KN) X.val (LMo.out.bl X.prop).hl (LMo.out.bl X.prop).hr (HPG.out.bl X.prop)).mono fun e w2 h => (show e = .returned (.int .i64 mx) ∧ Below X.val.heap.size X.val w2 from ⟨by rw [h.1, HMY.out], h.2⟩)) (Nat.le_refl _)
            have CALL3 := hid fun X : Aft wr.heap.size wr => aft_call ((implReadingsMany_any A B (some ⟨g2, 0, none⟩) n c m e0 KN d2 0 l r (wholeP l.length KN) X.val (LM2.out.bl X.prop).hl (LM2.out.bl X.prop).hr (HPG.out.bl X.prop)).mono fun e w2 h => (show e = .returned (.int .i64 mx) ∧ Below X.val.heap.size X.val w2 from ⟨by rw [h.1, HMX.out], h.2⟩)) (Nat.le_refl _)
            have c1 := aft_cell (block_lt_of_cell LM2a) LM2a
            have c2 := aft_cell (block_lt_of_cell LM2b) LM2b
            have c3 := aft_cell (block_lt_of_cell LMoa) LMoa
            have c4 := aft_cell (block_lt_of_cell LMob) LMob
            have c5 := aft_cell (block_lt_of_cell LMxa) LMxa
            have c6 := aft_cell (block_lt_of_cell LMxb) LMxb
            go_wp2_with fail
            refine wp_region_aft (Below.refl wr.heap.size wr) (by kernel_rfl) (by kernel_rfl) ?_
            repeat (go_big_quiet_step (first | (go_at_call 48; exact CALL1.out _) | (go_at_call 14; with_reducible exact CALL2.out _) | (go_at_call 14; with_reducible exact CALL3.out _)))
            refine wpQuiet_nil ?_
            rintro w99 ⟨⟨_, hb⟩, rfl⟩
            go_wp2_with fail
            go_ret
            exact ⟨rfl, HB1.out.trans ((HBO.out.trans ((HB.out.trans (hb.mono HB.out.size)).mono HBO.out.size)).mono HB1.out.size)⟩
end Go.Proofs.Ytfjoininagdlcaa
