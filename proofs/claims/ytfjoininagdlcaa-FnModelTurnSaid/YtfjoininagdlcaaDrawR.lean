/- A model, a page and a list as they are drawn. -/
import Derived.Test.YtfjoininagdlcaaDrawB
import Derived.Test.YtfjoininagdlcaaPagePure
namespace Go.Proofs.Ytfjoininagdlcaa
open Go.RowKit
theorem chgF {w w' : World} (h : Below w.heap.size w w') : Chg (fun _ => False) w w' := ⟨h.os, h.tape, h.output, h.size, fun k hk _ => h.block k hk⟩
theorem DrM.bl {lo : Nat} {w w' : World} {A B : Option Addr} {n m : Nat} {l : List Int} {r : List (List Int)} (h : DrM lo w A B n m l r) (hb : Below w.heap.size w w') : DrM lo w' A B n m l r := h.chg (chgF hb) (fun _ e => e.elim)
theorem DrP.bl {lo : Nat} {w w' : World} {C : Option Addr} {q : Nat} {page : List (List Int)} (h : DrP lo w C q page) (hb : Below w.heap.size w w') : DrP lo w' C q page := h.chg (chgF hb) (fun _ e => e.elim)
theorem chgBl {D : Nat → Prop} {a b c : World} (h : Chg D a b) (k : Below b.heap.size b c) : Chg D a c := chgB h k h.size
set_option maxRecDepth 100000 in
set_option maxHeartbeats 4000000 in
theorem l92Reading_any (rb : Nat) (w : World) (p : Nat) (h : Rdr rb w p) (hp : p ≤ 500) :
    Calls Try.prog 58 #[.pointer (some ⟨rb, 0, none⟩)] w fun e w' => ∃ A n c l B m e0 r C q d page E xs d2, e = .returned (.tuple #[.agg #[.slice A n c, .slice B m e0], .slice C q d, .slice E (List.length xs) d2]) ∧ DrM w.heap.size w' A B n m l r ∧ DrP w.heap.size w' C q page ∧ Rd intS w.heap.size w'.heap.size w' E xs.length xs ∧ xs.length ≤ d2 ∧ xs.length ≤ 5 ∧ Chg (fun k => k = rb) w w' := by
  obtain ⟨i0, hi1, hz0, hz1, hz2⟩ := info_parts (show (Try.prog.info? 3).map (fun i => (i.zero, i.size, i.bytes)) = some (some (.int .i64 0), 1, 8) by kernel_rfl)
  have HI0 := hid (And.intro hi1 (And.intro hz0 (And.intro hz1 hz2)))
  clear hi1 hz0 hz1 hz2
  have hrl := h.lt
  have HR := hid (h.keep ((bnew w (.cells #[.slice none 0 0, .slice none 0 0] 26)).mono hrl))
  clear h
  go_enter Try.func58, Try.ntmps58
  go_wp2_with fail
  refine (l92Both_any rb _ p HR.out (by omega)).mono ?_
  rintro e w1 ⟨A, n, c, l, B, m, e0, r, C, q, d, page, p1, rfl, a1, a2, a3, a4, a5⟩
  have hs1 := a5.size
  rw [World.size_alloc] at hs1 a1 a2
  have hn4 := a1.n4
  have hn1 := a1.n1
  have hq5 := a2.q5
  have DM := hid a1
  have DP := hid a2
  have HR1 := hid a4
  have HRES := hid ((a5.block w.heap.size (by simp) (by omega)).trans (heap_alloc_new w (.cells #[.slice none 0 0, .slice none 0 0] 26)))
  have HC1 := hid ((chg_new _ _ _).trans a5)
  clear a1 a2 a4 a5 HR
  have b2 := bnew w1 (.cells #[.slice A n c, .slice B m e0] 26)
  have c2 := chgE w1 (.cells #[.slice A n c, .slice B m e0] 26)
  have HM := hid (heap_alloc_new w1 (.cells #[.slice A n c, .slice B m e0] 26))
  have HR2 := hid (HR1.out.keep (b2.mono (by omega)))
  have HRES2 := hid ((b2.block w.heap.size (by omega)).trans HRES.out)
  have DM2 := hid (DM.out.chg c2 (fun _ e => e.elim))
  have DP2 := hid (DP.out.chg c2 (fun _ e => e.elim))
  have HC2 := hid (HC1.out.trans (c2.wide (fun _ e => e.elim)))
  have HS2 := hid (show (w1.alloc (.cells #[.slice A n c, .slice B m e0] 26)).heap.size = w1.heap.size + 1 by simp)
  have hm2 : w1.heap.size < (w1.alloc (.cells #[.slice A n c, .slice B m e0] 26)).heap.size := by simp
  clear b2 c2 HR1 HRES DM DP HC1
  go_wp2_with fail
  generalize (w1.alloc (.cells #[.slice A n c, .slice B m e0] 26)) = w2 at *
  have ON0 := hid (OwnR.nil (S := intS) (base := w2.heap.size) (e := 3) (Nat.le_refl w2.heap.size) #[] rfl)
  have HRA0 := hid (HR2.out.keep ((bnew w2 (.cells #[] 3)).mono (by omega)))
  rw [← HS2.out]
  go_loopg [7, 8, 9] q (fun gk list before i wr => ∃ (k : Nat) (xs : List Int) (g d2 : Nat) (b : Int) (p' : Nat), k + gk = q ∧ i = .int .i64 k ∧ list = .slice (some ⟨g, 0, none⟩) xs.length d2 ∧ xs.length = k ∧ OwnR intS w2.heap.size wr 3 (.slice (some ⟨g, 0, none⟩) xs.length d2) xs ∧ before = .int .i64 b ∧ -1 ≤ b ∧ b < n ∧ p' ≤ p1 + k ∧ Rdr rb wr p' ∧ Chg (fun k => k = rb) w2 wr)
  case atStart => exact ⟨0, [], _, _, -1, p1, Nat.zero_add _, rfl, rfl, rfl, ON0.out, rfl, by omega, by omega, by omega, HRA0.out, chg_new _ _ _⟩
  case round =>
    clear ON0 HRA0
    obtain ⟨k, xs, g, d2, b, p', hkg, rfl, rfl, hxl, hO, rfl, hb0, hbn, hp', hR, hC⟩ := hrel
    have HKG := hid hkg
    have HXL := hid hxl
    have HO := hid hO
    have HR := hid hR
    have HC := hid hC
    have hkq : k ≤ q := by omega
    have hxl8 : xs.length ≤ 8 := by omega
    have hwz := hC.size
    have DMr := hid (DM2.out.chg hC (fun k e => by omega))
    have DPr := hid (DP2.out.chg hC (fun k e => by omega))
    have hmr := (hC.block w1.heap.size hm2 (fun e => by omega)).trans HM.out
    obtain ⟨mc0, mc1, _, _⟩ := at_get hmr
    have HMr := hid hmr
    clear hmr
    have hres := (hC.block w.heap.size (by omega) (fun e => by omega)).trans HRES2.out
    have HRESr := hid hres
    have ENDC := hid fun (W : World) (hW : Chg (fun _ => False) wr W) => (by
      have hz := hW.size
      obtain ⟨r0, r1, _, _⟩ := at_get (at_set1 (v := .slice B m e0) (at_set0 (v := .slice A n c) ((hW.block w.heap.size (by omega) (fun e => e)).trans HRESr.out)))
      have hc := ((Chg.refl (fun k => k = w.heap.size) W).set (p := ⟨w.heap.size, 0, none⟩) rfl (.slice A n c)).set (p := ⟨w.heap.size, 1, none⟩) rfl (.slice B m e0)
      have hf := HO.out.form
      obtain ⟨A0, c0, hf1, hf2⟩ := hf
      injection hf1 with _ _ hf1
      have ho := ((HO.out.flat intS_flat hW (fun k hk e => e)).flat intS_flat hc (fun k hk e => by have := (HO.out.own_lt hk).1; omega)).rd (by omega)
      exact And.intro r0 (And.intro r1 (And.intro (((DMr.out.chg hW (fun k e => e.elim)).chg hc (fun k e => by omega)).low (by omega : w.heap.size ≤ w.heap.size + 1)) (And.intro (((DPr.out.chg hW (fun k e => e.elim)).chg hc (fun k e => by omega)).low (by omega : w.heap.size ≤ w.heap.size + 1)) (And.intro (ho.2.wide (lo' := w.heap.size) (by omega) (Nat.le_refl _)) (And.intro (hf1 ▸ hf2) (chgN (chgN (HC2.out.trans HC.out) hW (fun k e => e.elim)) hc (fun k e => by omega))))))) : 
      ((W.setCell ⟨w.heap.size, 0, none⟩ (.slice A n c)).setCell ⟨w.heap.size, 1, none⟩ (.slice B m e0)).cell? ⟨w.heap.size, 0, none⟩ = some (.slice A n c) ∧ ((W.setCell ⟨w.heap.size, 0, none⟩ (.slice A n c)).setCell ⟨w.heap.size, 1, none⟩ (.slice B m e0)).cell? ⟨w.heap.size, 1, none⟩ = some (.slice B m e0) ∧
        DrM w.heap.size ((W.setCell ⟨w.heap.size, 0, none⟩ (.slice A n c)).setCell ⟨w.heap.size, 1, none⟩ (.slice B m e0)) A B n m l r ∧ DrP w.heap.size ((W.setCell ⟨w.heap.size, 0, none⟩ (.slice A n c)).setCell ⟨w.heap.size, 1, none⟩ (.slice B m e0)) C q page ∧
        Rd intS w.heap.size ((W.setCell ⟨w.heap.size, 0, none⟩ (.slice A n c)).setCell ⟨w.heap.size, 1, none⟩ (.slice B m e0)).heap.size ((W.setCell ⟨w.heap.size, 0, none⟩ (.slice A n c)).setCell ⟨w.heap.size, 1, none⟩ (.slice B m e0)) (some ⟨g, 0, none⟩) xs.length xs ∧ xs.length ≤ d2 ∧ Chg (fun k => k = rb) w ((W.setCell ⟨w.heap.size, 0, none⟩ (.slice A n c)).setCell ⟨w.heap.size, 1, none⟩ (.slice B m e0)))
    clear hkg hxl hO hR hC
    by_cases hlt : k < q
    case neg =>
      obtain rfl : q = k := by omega
      obtain ⟨rc0, rc1, rf0, rf1⟩ := at_get hres
      clear hres
      go_wp2_with fail
      have hE := ENDC.out wr (Chg.refl _ _)
      have HE := hid hE.2.2
      have r0 := hE.1
      have r1 := hE.2.1
      clear hE
      refine ⟨rfl, .tuple #[.agg #[.slice A n c, .slice B m e0], .slice C q d, .slice (some ⟨g, 0, none⟩) xs.length d2], by simp [results, Try.results58, go_sem, r0, r1], A, n, c, l, B, m, e0, r, C, q, d, page, _, xs, d2, rfl, HE.out.1, HE.out.2.1, HE.out.2.2.1, HE.out.2.2.2.1, by have := HXL.out; omega, HE.out.2.2.2.2⟩
    case pos =>
      have hki : (k : Int) < (q : Int) := by omega
      go_wp2_with fail
      refine (l5Both_any A B C n c m e0 q d _ l r page wr DMr.out.hl DMr.out.hr DPr.out.hp).mono ?_
      rintro e w3 ⟨rfl, hb3⟩
      clear mc0 mc1 hres
      have hs3 := hb3.size
      have HB3 := hid hb3
      clear hb3
      by_cases hok : bothOk l r page = true
      case neg =>
        have hok' : bothOk l r page = false := by simpa using hok
        rw [hok']
        clear hok hok'
        obtain ⟨mc0, mc1, _, _⟩ := at_get ((HB3.out.block w1.heap.size (by omega)).trans HMr.out)
        obtain ⟨rc0, rc1, rf0, rf1⟩ := at_get ((HB3.out.block w.heap.size (by omega)).trans HRESr.out)
        go_wp2_with fail
        have hE := ENDC.out w3 (chgF HB3.out)
        have HE := hid hE.2.2
        have r0 := hE.1
        have r1 := hE.2.1
        clear hE
        refine ⟨rfl, .tuple #[.agg #[.slice A n c, .slice B m e0], .slice C q d, .slice (some ⟨g, 0, none⟩) xs.length d2], by simp [results, Try.results58, go_sem, r0, r1], A, n, c, l, B, m, e0, r, C, q, d, page, _, xs, d2, rfl, HE.out.1, HE.out.2.1, HE.out.2.2.1, HE.out.2.2.2.1, by have := HXL.out; omega, HE.out.2.2.2.2⟩
      case pos =>
        rw [hok]
        have HOK := hid hok
        clear hok ENDC
        have hqp := DPr.out.hp.1
        obtain ⟨bC, off, rfl, hlo, hhi, hat⟩ := DPr.out.hp.2.2 (by omega)
        obtain ⟨AX, cX, cx, hcX, hRX⟩ := hat.row hlt
        obtain ⟨pl, hpl⟩ : ∃ pl, gt page k = pl := ⟨_, rfl⟩
        rw [hpl] at cx hcX hRX
        have hpk := (pageOk_yes (bothOk_yes HOK.out).2).2 (gt page k) (gt_mem (by omega))
        rw [hpl] at hpk
        have hln := DMr.out.hl.1
        have hpw : ∀ z, z < pl.length → 0 ≤ gt pl z ∧ gt pl z < (n : Int) := fun z hz => by
          have := hpk.2 _ (gt_mem hz)
          omega
        have hp0 : 0 < pl.length := List.length_pos_iff.2 hpk.1
        have hp6 : pl.length ≤ 6 := by rw [← hpl]; exact DPr.out.p6 _ (gt_mem (by omega))
        obtain ⟨bx, ox, rfl, hxlo, hxhi, hatx⟩ := hRX.2.2 hp0
        have hci : ∀ z, z < pl.length → wr.cell? ⟨bx, ox + z, none⟩ = some (.int .i64 (gt pl z)) := fun z hz => hatx.int hz
        obtain ⟨pn, hpn⟩ : ∃ pn, pl.length = pn := ⟨_, rfl⟩
        rw [hpn] at cx hpw hp0 hp6 hci
        have hp0i : (0 : Int) < (pn : Int) := by omega
        have cx3 := bcl HB3.out cx
        have HCI3 := hid fun z hz => bcl HB3.out (hci z hz)
        have HPW := hid hpw
        have HMK := hid (bothOk_yes HOK.out).1
        have hrx3 := HR.out.keep (HB3.out.mono HR.out.lt)
        have HR3 := hid hrx3
        clear hqp hat hpl hpk hln hRX hatx hci hpn hcX cx hpw hrx3
        go_wp2_with fail
        refine wp_region_invH (by kernel_rfl) (by kernel_rfl) (fun L a X => ∃ v10 v30 v31 v32 v33 v34 v35 v36 v37 v38 v39 v40 v41 v42 : Value, ∃ (qq : Nat), a = { tmps := #[.pointer (some ⟨rb, 0, none⟩), undef, .pointer (some ⟨w.heap.size, 0, none⟩), .slice none 0 0, .slice none 0 0, .pointer (some ⟨w1.heap.size, 0, none⟩), .slice (some ⟨bC, off, none⟩) q d, .slice (some ⟨g, 0, none⟩) xs.length d2, .int .i64 b, .int .i64 k, v10, u11, u12, .tuple #[.agg #[.slice A n c, .slice B m e0], .slice (some ⟨bC, off, none⟩) q d], .pointer (some ⟨rb, 0, none⟩), .tuple #[.agg #[.slice A n c, .slice B m e0], .slice (some ⟨bC, off, none⟩) q d], .agg #[.slice A n c, .slice B m e0], .slice (some ⟨bC, off, none⟩) q d, .slice (some ⟨w2.heap.size, 0, none⟩) 0 0, .int .i64 k, .slice (some ⟨bC, off, none⟩) q d, .int .i64 q, .bool true, .bool true, .agg #[.slice A n c, .slice B m e0], .slice (some ⟨bC, off, none⟩) q d, .bool true, .bool true, u28, u29, v30, v31, v32, v33, v34, v35, v36, v37, v38, v39, v40, v41, v42, u43, u44, u45, u46, u47, u48, u49, u50, u51, u52, u53, u54, u55, u56, u57, u58, u59, u60, u61, u62, u63, u64, u65, u66, u67, u68, u69, u70, u71, u72, u73, u74, u75, u76, undef, undef, undef], defers := [] } ∧
          (Rdr rb X qq) ∧ ((L 10 = false → qq = p') ∧ qq ≤ p' + 1) ∧ (Chg (fun k => k = rb) w3 X) ∧ (L 0 = true → v30 = .slice (some ⟨bC, off, none⟩) q d) ∧ (L 1 = true → v31 = .int .i64 k) ∧ (L 2 = true → v32 = .pointer (some ⟨bC, off + k, none⟩)) ∧ (L 3 = true → v33 = .slice (some ⟨bx, ox, none⟩) pn cX) ∧ (L 4 = true → v34 = .pointer (some ⟨rb, 0, none⟩)) ∧ (L 5 = true → v35 = .slice (some ⟨bC, off, none⟩) q d) ∧ (L 6 = true → v36 = .int .i64 k) ∧ (L 7 = true → v37 = .pointer (some ⟨bC, off + k, none⟩)) ∧ (L 8 = true → v38 = .slice (some ⟨bx, ox, none⟩) pn cX) ∧ (L 9 = true → v39 = .int .i64 pn) ∧ (L 10 = true → ∃ z : Nat, v40 = .int .i64 z ∧ z < pn) ∧ (L 11 = true → ∃ z : Nat, v41 = .pointer (some ⟨bx, ox + z, none⟩) ∧ z < pn) ∧ (L 12 = true → ∃ z : Nat, v42 = .int .i64 (gt pl z) ∧ z < pn) ∧ (L 13 = true → ∃ z : Nat, v10 = .int .i64 (gt pl z) ∧ z < pn)) ?_ ⟨?_, ?_, ?_, ?_, ?_, ?_, ?_, ?_, ?_, ?_, ?_, ?_, ?_, ?_, trivial⟩ ?_
        · exact ⟨_, _, _, _, _, _, _, _, _, _, _, _, _, _, p', rfl, HR3.out.keep (Below.refl _ _).drew, ⟨fun _ => rfl, by omega⟩, (Chg.refl _ _).drew, fun h => (by cases h), fun h => (by cases h), fun h => (by cases h), fun h => (by cases h), fun h => (by cases h), fun h => (by cases h), fun h => (by cases h), fun h => (by cases h), fun h => (by cases h), fun h => (by cases h), fun h => (by cases h), fun h => (by cases h), fun h => (by cases h), fun h => (by cases h)⟩
        · rintro L a X K0 ⟨v10, v30, v31, v32, v33, v34, v35, v36, v37, v38, v39, v40, v41, v42, qq, rfl, hRr, hq, hC, f0, f1, f2, f3, f4, f5, f6, f7, f8, f9, f10, f11, f12, f13⟩ hL hd hK
          clear hd
          refine ⟨rfl, ?_⟩
          go_simp
          exact hK _ _ ⟨_, _, _, _, _, _, _, _, _, _, _, _, _, _, qq, rfl, hRr, hq, hC, fun _ => rfl, f1, f2, f3, f4, f5, f6, f7, f8, f9, f10, f11, f12, f13⟩
        · rintro L a X K0 ⟨v10, v30, v31, v32, v33, v34, v35, v36, v37, v38, v39, v40, v41, v42, qq, rfl, hRr, hq, hC, f0, f1, f2, f3, f4, f5, f6, f7, f8, f9, f10, f11, f12, f13⟩ hL hd hK
          clear hd
          refine ⟨rfl, ?_⟩
          go_simp
          exact hK _ _ ⟨_, _, _, _, _, _, _, _, _, _, _, _, _, _, qq, rfl, hRr, hq, hC, f0, fun _ => rfl, f2, f3, f4, f5, f6, f7, f8, f9, f10, f11, f12, f13⟩
        · rintro L a X K0 ⟨v10, v30, v31, v32, v33, v34, v35, v36, v37, v38, v39, v40, v41, v42, qq, rfl, hRr, hq, hC, f0, f1, f2, f3, f4, f5, f6, f7, f8, f9, f10, f11, f12, f13⟩ hL hd hK
          have d0 := hd ⟨0, .data⟩ (by simp) rfl
          obtain rfl := f0 d0
          have d1 := hd ⟨1, .data⟩ (by simp) rfl
          obtain rfl := f1 d1
          clear hd
          refine ⟨rfl, ?_⟩
          go_simp
          exact hK _ _ ⟨_, _, _, _, _, _, _, _, _, _, _, _, _, _, qq, rfl, hRr, hq, hC, f0, f1, fun _ => rfl, f3, f4, f5, f6, f7, f8, f9, f10, f11, f12, f13⟩
        · rintro L a X K0 ⟨v10, v30, v31, v32, v33, v34, v35, v36, v37, v38, v39, v40, v41, v42, qq, rfl, hRr, hq, hC, f0, f1, f2, f3, f4, f5, f6, f7, f8, f9, f10, f11, f12, f13⟩ hL hd hK
          have d2 := hd ⟨2, .data⟩ (by simp) rfl
          obtain rfl := f2 d2
          have q0 := hC.cell (by omega) cx3
          clear hd
          refine ⟨rfl, ?_⟩
          go_simp
          exact hK _ _ ⟨_, _, _, _, _, _, _, _, _, _, _, _, _, _, qq, rfl, hRr, hq, hC, f0, f1, f2, fun _ => rfl, f4, f5, f6, f7, f8, f9, f10, f11, f12, f13⟩
        · rintro L a X K0 ⟨v10, v30, v31, v32, v33, v34, v35, v36, v37, v38, v39, v40, v41, v42, qq, rfl, hRr, hq, hC, f0, f1, f2, f3, f4, f5, f6, f7, f8, f9, f10, f11, f12, f13⟩ hL hd hK
          clear hd
          refine ⟨rfl, ?_⟩
          go_simp
          exact hK _ _ ⟨_, _, _, _, _, _, _, _, _, _, _, _, _, _, qq, rfl, hRr, hq, hC, f0, f1, f2, f3, fun _ => rfl, f5, f6, f7, f8, f9, f10, f11, f12, f13⟩
        · rintro L a X K0 ⟨v10, v30, v31, v32, v33, v34, v35, v36, v37, v38, v39, v40, v41, v42, qq, rfl, hRr, hq, hC, f0, f1, f2, f3, f4, f5, f6, f7, f8, f9, f10, f11, f12, f13⟩ hL hd hK
          clear hd
          refine ⟨rfl, ?_⟩
          go_simp
          exact hK _ _ ⟨_, _, _, _, _, _, _, _, _, _, _, _, _, _, qq, rfl, hRr, hq, hC, f0, f1, f2, f3, f4, fun _ => rfl, f6, f7, f8, f9, f10, f11, f12, f13⟩
        · rintro L a X K0 ⟨v10, v30, v31, v32, v33, v34, v35, v36, v37, v38, v39, v40, v41, v42, qq, rfl, hRr, hq, hC, f0, f1, f2, f3, f4, f5, f6, f7, f8, f9, f10, f11, f12, f13⟩ hL hd hK
          clear hd
          refine ⟨rfl, ?_⟩
          go_simp
          exact hK _ _ ⟨_, _, _, _, _, _, _, _, _, _, _, _, _, _, qq, rfl, hRr, hq, hC, f0, f1, f2, f3, f4, f5, fun _ => rfl, f7, f8, f9, f10, f11, f12, f13⟩
        · rintro L a X K0 ⟨v10, v30, v31, v32, v33, v34, v35, v36, v37, v38, v39, v40, v41, v42, qq, rfl, hRr, hq, hC, f0, f1, f2, f3, f4, f5, f6, f7, f8, f9, f10, f11, f12, f13⟩ hL hd hK
          have d5 := hd ⟨5, .data⟩ (by simp) rfl
          obtain rfl := f5 d5
          have d6 := hd ⟨6, .data⟩ (by simp) rfl
          obtain rfl := f6 d6
          clear hd
          refine ⟨rfl, ?_⟩
          go_simp
          exact hK _ _ ⟨_, _, _, _, _, _, _, _, _, _, _, _, _, _, qq, rfl, hRr, hq, hC, f0, f1, f2, f3, f4, f5, f6, fun _ => rfl, f8, f9, f10, f11, f12, f13⟩
        · rintro L a X K0 ⟨v10, v30, v31, v32, v33, v34, v35, v36, v37, v38, v39, v40, v41, v42, qq, rfl, hRr, hq, hC, f0, f1, f2, f3, f4, f5, f6, f7, f8, f9, f10, f11, f12, f13⟩ hL hd hK
          have d7 := hd ⟨7, .data⟩ (by simp) rfl
          obtain rfl := f7 d7
          have q0 := hC.cell (by omega) cx3
          clear hd
          refine ⟨rfl, ?_⟩
          go_simp
          exact hK _ _ ⟨_, _, _, _, _, _, _, _, _, _, _, _, _, _, qq, rfl, hRr, hq, hC, f0, f1, f2, f3, f4, f5, f6, f7, fun _ => rfl, f9, f10, f11, f12, f13⟩
        · rintro L a X K0 ⟨v10, v30, v31, v32, v33, v34, v35, v36, v37, v38, v39, v40, v41, v42, qq, rfl, hRr, hq, hC, f0, f1, f2, f3, f4, f5, f6, f7, f8, f9, f10, f11, f12, f13⟩ hL hd hK
          have d8 := hd ⟨8, .data⟩ (by simp) rfl
          obtain rfl := f8 d8
          clear hd
          refine ⟨rfl, ?_⟩
          go_simp
          exact hK _ _ ⟨_, _, _, _, _, _, _, _, _, _, _, _, _, _, qq, rfl, hRr, hq, hC, f0, f1, f2, f3, f4, f5, f6, f7, f8, fun _ => rfl, f10, f11, f12, f13⟩
        · rintro L a X K0 ⟨v10, v30, v31, v32, v33, v34, v35, v36, v37, v38, v39, v40, v41, v42, qq, rfl, hRr, hq, hC, f0, f1, f2, f3, f4, f5, f6, f7, f8, f9, f10, f11, f12, f13⟩ hL hd hK
          have d4 := hd ⟨4, .data⟩ (by simp) rfl
          obtain rfl := f4 d4
          have d9 := hd ⟨9, .data⟩ (by simp) rfl
          obtain rfl := f9 d9
          clear hd
          refine ⟨rfl, ?_⟩
          go_simp
          refine (pick_any rb X qq pn hRr (by omega) (by omega) (by omega)).mono ?_
          rintro e X2 ⟨z, rfl, z0, z1, hr2, hc⟩
          obtain ⟨z, rfl⟩ := Int.eq_ofNat_of_zero_le z0
          exact hK _ _ ⟨_, _, _, _, _, _, _, _, _, _, _, _, _, _, qq + 1, rfl, hr2, ⟨fun h => (by cases h), by have := hq.1 hL; omega⟩, hC.trans hc, f0, f1, f2, f3, f4, f5, f6, f7, f8, f9, fun _ => ⟨z, rfl, by have := z1 (by omega); omega⟩, f11, f12, f13⟩
        · rintro L a X K0 ⟨v10, v30, v31, v32, v33, v34, v35, v36, v37, v38, v39, v40, v41, v42, qq, rfl, hRr, hq, hC, f0, f1, f2, f3, f4, f5, f6, f7, f8, f9, f10, f11, f12, f13⟩ hL hd hK
          have d3 := hd ⟨3, .data⟩ (by simp) rfl
          obtain rfl := f3 d3
          have d10 := hd ⟨10, .data⟩ (by simp) rfl
          obtain ⟨z, rfl, hz⟩ := f10 d10
          have hzi : (z : Int) < (pn : Int) := by omega
          clear hd
          refine ⟨rfl, ?_⟩
          go_simp
          exact hK _ _ ⟨_, _, _, _, _, _, _, _, _, _, _, _, _, _, qq, rfl, hRr, hq, hC, f0, f1, f2, f3, f4, f5, f6, f7, f8, f9, fun _ => ⟨z, rfl, hz⟩, fun _ => ⟨z, rfl, hz⟩, f12, f13⟩
        · rintro L a X K0 ⟨v10, v30, v31, v32, v33, v34, v35, v36, v37, v38, v39, v40, v41, v42, qq, rfl, hRr, hq, hC, f0, f1, f2, f3, f4, f5, f6, f7, f8, f9, f10, f11, f12, f13⟩ hL hd hK
          have d11 := hd ⟨11, .data⟩ (by simp) rfl
          obtain ⟨z, rfl, hz⟩ := f11 d11
          have q0 := hC.cell (by omega) (HCI3.out z hz)
          clear hd
          refine ⟨rfl, ?_⟩
          go_simp
          exact hK _ _ ⟨_, _, _, _, _, _, _, _, _, _, _, _, _, _, qq, rfl, hRr, hq, hC, f0, f1, f2, f3, f4, f5, f6, f7, f8, f9, f10, fun _ => ⟨z, rfl, hz⟩, fun _ => ⟨z, rfl, hz⟩, f13⟩
        · rintro L a X K0 ⟨v10, v30, v31, v32, v33, v34, v35, v36, v37, v38, v39, v40, v41, v42, qq, rfl, hRr, hq, hC, f0, f1, f2, f3, f4, f5, f6, f7, f8, f9, f10, f11, f12, f13⟩ hL hd hK
          have d12 := hd ⟨12, .data⟩ (by simp) rfl
          obtain ⟨z, rfl, hz⟩ := f12 d12
          clear hd
          refine ⟨rfl, ?_⟩
          go_simp
          exact hK _ _ ⟨_, _, _, _, _, _, _, _, _, _, _, _, _, _, qq, rfl, hRr, hq, hC, f0, f1, f2, f3, f4, f5, f6, f7, f8, f9, f10, f11, fun _ => ⟨z, rfl, hz⟩, fun _ => ⟨z, rfl, hz⟩⟩
        · rintro L a X hLL ⟨v10, v30, v31, v32, v33, v34, v35, v36, v37, v38, v39, v40, v41, v42, qq, rfl, hRr, hq, hC, f0, f1, f2, f3, f4, f5, f6, f7, f8, f9, f10, f11, f12, f13⟩
          obtain ⟨z, rfl, hz⟩ := f13 (hLL 13 (by simp))
          clear f0 f1 f2 f3 f4 f5 f6 f7 f8 f9 f10 f11 f12 f13 hLL
          have hXs := hC.size
          have hq1 := hq.2
          obtain ⟨wo, hwo⟩ : ∃ x : World, x = wr := ⟨_, rfl⟩
          subst hwo
          obtain ⟨gko, hgo⟩ : ∃ x : Nat, x = gk := ⟨_, rfl⟩
          subst hgo
          have hs3 := HB3.out.size
          have cxX := hC.cell (by omega) cx3
          have HCIX := hid fun z hz => hC.cell (by omega) (HCI3.out z hz)
          have HMX := hid ((hC.block w1.heap.size (by omega) (fun e => by omega)).trans ((HB3.out.block w1.heap.size (by omega)).trans HMr.out))
          have DMX := hid ((DMr.out.bl HB3.out).chg hC (fun k e => by omega))
          have HOX := hid ((HO.out.flat intS_flat (chgF HB3.out) (fun k hk e => e)).flat intS_flat hC (fun k hk e => by have := (HO.out.own_lt hk).1; omega))
          have HRX := hid hRr
          have HCX := hid ((chgBl HC.out HB3.out).trans hC)
          clear cx3 HCI3 HR3 HB3 HO HR hRr hq hC
          go_wp2_with fail
          go_loopg [10, 11] pn (fun gk word i wr => ∃ (j z : Nat), j + gk = pn ∧ i = .int .i64 j ∧ word = .int .i64 (gt pl z) ∧ z < pn ∧ Below X.heap.size X wr)
          case atStart => exact ⟨0, z, Nat.zero_add _, rfl, rfl, hz, Below.refl _ _⟩
          case round =>
            clear hz z
            obtain ⟨j, z, hjg, rfl, rfl, hz, hb⟩ := hrel
            have HJG := hid hjg
            have HB := hid hb
            have hj : j ≤ pn := by omega
            have hwz2 := hb.size
            have cxr := bcl hb cxX
            clear hjg hb
            by_cases hjn : j < pn
            case neg =>
              obtain rfl : pn = j := by omega
              obtain ⟨y, hy⟩ : ∃ y, gt pl z = y := ⟨_, rfl⟩
              have hyw := HPW.out z hz
              rw [hy] at hyw
              rw [hy]
              clear hy cxX
              go_wp2_with (at_builtin; refine wpList_append_R rfl (.tmp 72) (.tmp 74) _ rfl intS Try.underlying23 HI0.out rfl (by decide) rfl ((HOX.out.flat intS_flat (chgF HB.out) (fun k hk e => e)).al _) (y := y) rfl (heap_alloc_new _ _) rfl (by simp [Value.oneCell']) rfl (by omega) (by omega) (by simp; omega) ?_; intro A2 c2 w6 hO4 hb4)
              obtain ⟨g4, rfl, _⟩ := hO4.blk (by omega)
              have HO4 := hid hO4
              have hb5 : Below w2.heap.size wr w6 := ((bnew _ _).mono (by omega)).trans hb4
              have HC5 := hid (chgB (chgB HCX.out HB.out (by omega)) hb5 (Nat.le_refl _))
              have HR5 := hid ((HRX.out.keep (HB.out.mono HRX.out.lt)).keep (hb5.mono (by omega)))
              clear hO4 hb4 hb5
              go_roundg (gko - 1)
              case measure => have := HKG.out; omega
              case rel => exact ⟨k + 1, xs ++ [y], g4, c2, y, qq, by have := HKG.out; omega, by go_num, by rw [List.length_append]; rfl, by rw [List.length_append, HXL.out]; rfl, by rw [List.length_append]; exact HO4.out, rfl, by omega, by omega, by omega, HR5.out, HC5.out⟩
            case pos =>
              have hji : (j : Int) < (pn : Int) := by omega
              have cj := bcl HB.out (HCIX.out j hjn)
              obtain ⟨y, hy⟩ : ∃ y, gt pl z = y := ⟨_, rfl⟩
              obtain ⟨x, hx⟩ : ∃ x, gt pl j = x := ⟨_, rfl⟩
              have hyw := HPW.out z hz
              have hxw := HPW.out j hjn
              rw [hy] at hyw ⊢
              rw [hx] at hxw cj
              have HY := hid hy
              have HX := hid hx
              obtain ⟨mc0, mc1, _, _⟩ := at_get ((HB.out.block w1.heap.size (by omega)).trans HMX.out)
              clear hy hx cxX
              go_wp2_with fail
              have DMw := hid (DMX.out.bl HB.out)
              refine (l5Weight_any A B n c m e0 _ l r b y _ DMw.out.hl DMw.out.hr HMK.out hbn hyw.1 hyw.2).mono ?_
              rintro e w4 ⟨rfl, hb4⟩
              have HB4 := hid (btr HB.out hb4)
              obtain ⟨u, hu⟩ : ∃ u, wgt l r b y = u := ⟨_, rfl⟩
              rw [hu]
              clear hu
              by_cases hu0 : u = 0
              case neg =>
                have hu1 : (u == 0) = false := by rw [beq_eq_false_iff_ne]; exact hu0
                clear mc0 mc1 hu0 hb4
                go_wp2_with fail
                go_roundg (gk - 1)
                case measure => have := HJG.out; omega
                case rel => exact ⟨j + 1, z, by have := HJG.out; omega, by go_num, by rw [HY.out], hz, HB4.out⟩
              case pos =>
                subst hu0
                have mc2 := bcl hb4 mc0
                have mc3 := bcl hb4 mc1
                have DM4 := hid (DMw.out.bl hb4)
                clear mc0 mc1 hb4
                go_wp2_with fail
                refine (l5Weight_any A B n c m e0 _ l r b x _ DM4.out.hl DM4.out.hr HMK.out hbn hxw.1 hxw.2).mono ?_
                rintro e w5 ⟨rfl, hb5⟩
                have HB5 := hid (btr HB4.out hb5)
                obtain ⟨u, hu⟩ : ∃ u, wgt l r b x = u := ⟨_, rfl⟩
                rw [hu]
                clear hu mc2 mc3 hb5
                by_cases hu0 : 0 < u
                case pos =>
                  go_wp2_with fail
                  go_roundg (gk - 1)
                  case measure => have := HJG.out; omega
                  case rel => exact ⟨j + 1, j, by have := HJG.out; omega, by go_num, by rw [HX.out], hjn, HB5.out⟩
                case neg =>
                  go_wp2_with fail
                  go_roundg (gk - 1)
                  case measure => have := HJG.out; omega
                  case rel => exact ⟨j + 1, z, by have := HJG.out; omega, by go_num, by rw [HY.out], hz, HB5.out⟩
end Go.Proofs.Ytfjoininagdlcaa
