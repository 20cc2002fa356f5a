/- The law FnReadingWeight returns true for all arguments that can be read. -/
import Derived.Test.YtfjoininagdlcaaDrawLs
import Derived.Test.YtfjoininagdlcaaLawFns
import Derived.Test.YtfjoininagdlcaaLawKit
import Derived.Test.YtfjoininagdlcaaKeeper
import Derived.Test.YtfjoininagdlcaaWeigh3
import Derived.Test.YtfjoininagdlcaaNestSet
import Derived.Deep.RegionHeld3
import Derived.StillTailTactics
namespace Go.Proofs.Ytfjoininagdlcaa
open Go.RowKit
set_option maxRecDepth 100000 in
set_option maxHeartbeats 4000000 in
theorem lawReadingWeight (A0 : Option Addr) (n0 c0 : Nat) (bs : List UInt8) (w : World) (hnc : n0 ≤ c0) (hx : Rd byteS 0 w.heap.size w A0 n0 bs) :
    Calls Try.prog 4 #[.slice A0 n0 c0] w fun e w' => e = .returned (.bool true) ∧ Below w.heap.size w w' := by
  have hn63 := hx.2.1
  have HX := hid hx
  clear hx
  by_cases hn0 : n0 ≤ 1048576
  case neg =>
    have gn0 : (1048576 : Int) < (n0 : Int) := by omega
    go_enter Try.func4, Try.ntmps4
    go_wp2_with fail
    go_ret
    exact ⟨rfl, Below.refl _ _⟩
  have gn0 : ¬ (1048576 : Int) < (n0 : Int) := by omega
  go_enter Try.func4, Try.ntmps4
  go_wp2_with fail
  refine (DrawReadingWeight_any A0 n0 c0 bs w hnc HX.out).mono ?_
  rintro e w1 ⟨A, n, c, l, B, m, e0, r, C, q, d, page, E, xs, d2, rfl, a1, a2, a3, hxd, hx5, hb1⟩
  have RL := hid (a3.bl (bnew w1 (.cells #[.slice A n c, .slice B m e0] 26)))
  have LM2 := hid (LM.new (c := c) (e0 := e0) (t := 26) a1.hl a1.hr a2.hp)
  have hqp := a2.hp.1
  have hq5 := a2.q5
  have hln := a1.hl.1
  have hn1 := a1.n1
  have hn4 := a1.n4
  have HQP := hid hqp
  have HLN := hid hln
  have HB2 := hid (bal hb1 (.cells #[.slice A n c, .slice B m e0] 26))
  clear a1 a2 hb1 hqp hln a3
  go_wp2_with fail
  generalize (w1.alloc (.cells #[.slice A n c, .slice B m e0] 26)) = w2 at *
  obtain ⟨M, hM⟩ : ∃ M, w1.heap.size = M := ⟨_, rfl⟩
  rw [hM] at LM2 ⊢
  clear hM
  have HB := hid HB2.out
  obtain ⟨j0, hj1, hy0, hy1, hy2⟩ := info_parts (show (Try.prog.info? 23).map (fun i => (i.zero, i.size, i.bytes)) = some (some (.slice none 0 0), 1, 24) by kernel_rfl)
  have HJ := hid (And.intro hj1 (And.intro hy0 (And.intro hy1 hy2)))
  clear hj1 hy0 hy1 hy2
  obtain ⟨K, hK⟩ : ∃ K, weightOf l r page xs = K := ⟨_, rfl⟩
  have mc0 := LM2.out.at0
  have mc1 := LM2.out.at1
  have hres := implReadingWeight_any A B C E n c m e0 q d xs.length d2 0 l r page xs w2 LM2.out.hl LM2.out.hr LM2.out.hp RL.out hxd
  rw [hK] at hres
  refine hres.mono ?_
  clear hres
  clear mc0 mc1
  rintro e w3 ⟨rfl, hb⟩
  have HB := hid (HB.out.trans (hb.mono HB.out.size))
  have LM2 := hid (LM2.out.bl hb)
  have RL := hid (RL.out.bl hb)
  clear hb
  have mc0 := LM2.out.at0
  have mc1 := LM2.out.at1
  go_wp2_with fail
  have hres := specReadingWeight_any A B C E n c m e0 q d xs.length d2 0 l r page xs w3 LM2.out.hl LM2.out.hr LM2.out.hp RL.out
  rw [hK] at hres
  refine hres.mono ?_
  clear hres
  clear mc0 mc1
  rintro e w4 ⟨rfl, hb⟩
  have HB := hid (HB.out.trans (hb.mono HB.out.size))
  have LM2 := hid (LM2.out.bl hb)
  have RL := hid (RL.out.bl hb)
  clear hb
  by_cases hneg : K < 0
  case pos =>
    go_wp2_with fail
    go_ret
    exact ⟨rfl, HB.out⟩
  obtain ⟨g1, g2, g3, g4, g5, b, g6, g7⟩ := weight_law (l := l) (r := r) (page := page) (xs := xs) (by omega)
  rw [hK] at g5 g7
  have GL := hid (And.intro g4 (And.intro g5 g6))
  obtain ⟨mn, hmn⟩ : ∃ mn, manyV l r page = mn := ⟨_, rfl⟩
  rw [hmn] at g3
  have HMN := hid hmn
  have hbw := g7
  obtain ⟨Wb, hWb⟩ : ∃ Wb, weightOf l r page b = Wb := ⟨_, rfl⟩
  rw [hWb] at hbw
  have HWB := hid hWb
  clear g1 g2 g4 g5 g6 g7 hmn hWb hK
  have mc0 := LM2.out.at0
  have mc1 := LM2.out.at1
  go_wp2_with fail
  have hbl := bestV_len l r page
  rw [GL.out.2.2] at hbl
  have hres := implReadingBest_any A B C n c m e0 q d l r page w4 LM2.out.hl LM2.out.hr LM2.out.hp
  rw [GL.out.2.2] at hres
  refine hres.mono ?_
  clear hres
  clear mc0 mc1
  intro e w5 hres
  have hres2 := ib_rd hres (hbl)
  simp only [Option.getD_some, Option.isSome_some] at hres2
  obtain ⟨ARB, cRB, rfl, hRB, hR, hb⟩ := hres2
  clear hres
  have HB := hid (HB.out.trans (hb.mono HB.out.size))
  have LM2 := hid (LM2.out.bl hb)
  have RL := hid (RL.out.bl hb)
  clear hb
  have RB := hid hR
  clear hR
  clear hbl
  go_wp2_with fail
  have n1 := NestR.nil (lo := w5.heap.size) (hi := w5.heap.size) (et := 23) (ei := 3) (w := w5) (Nat.le_refl _) #[] rfl
  have N1 := hid (n1.wide (hi' := (w5.alloc (.cells #[] 23)).heap.size) (by simp))
  have hbn := hid (bnew w5 (.cells #[] 23))
  clear n1
  go_loopg [10, 11] xs.length (fun gk only i wr => ∃ (k : Nat) (rs : List RowD) (g dd : Nat), k + gk = xs.length ∧ i = .int .i64 k ∧ only = .slice (some ⟨g, 0, none⟩) rs.length dd ∧ rs.length = k ∧ rs.map (·.2.2) = onlyL (xs.take k) ∧ NestR w5.heap.size wr.heap.size wr 23 3 (.slice (some ⟨g, 0, none⟩) rs.length dd) rs ∧ Below w5.heap.size w5 wr)
  case atStart => exact ⟨0, [], _, _, Nat.zero_add _, rfl, rfl, rfl, rfl, N1.out, hbn.out⟩
  case round =>
    clear N1 hbn
    obtain ⟨k, rs, g, dd, hkg, rfl, rfl, hrl, hrm, hN, hb⟩ := hrel
    have HKG := hid hkg
    have HRL := hid hrl
    have HRM := hid hrm
    have HN := hid hN
    have HBW := hid hb
    have hk : k ≤ xs.length := by omega
    have hrl8 : rs.length ≤ 8 := by omega
    clear hkg hrl hrm hN hb
    by_cases hlt : k < xs.length
    case neg =>
      have hkx : xs.length = k := by omega
      have hki : ¬ (k : Int) < (xs.length : Int) := by omega
      have hRO := (HN.out.rd (by omega)).2.wide (Nat.zero_le _) (Nat.le_refl _)
      rw [HRM.out, List.take_of_length_le (by omega)] at hRO
      have RO := hid hRO
      have LM3 := hid (LM2.out.bl HBW.out)
      have RL3 := hid (RL.out.bl HBW.out)
      have RB3 := hid (RB.out.bl HBW.out)
      have HB3 := hid (HB.out.trans (HBW.out.mono HB.out.size))
      clear hRO LM2 RL RB HB hlt hkx
      have LM2 := LM3
      have RL := RL3
      have RB := RB3
      have HB := HB3
      clear LM3 RL3 RB3 HB3
      have mc0 := LM2.out.at0
      have mc1 := LM2.out.at1
      go_wp2_with fail
      have hres := implReadingWeight_any A B C ARB n c m e0 q d b.length cRB 0 l r page b wr LM2.out.hl LM2.out.hr LM2.out.hp RB.out hRB
      rw [HWB.out] at hres
      refine hres.mono ?_
      clear hres
      clear mc0 mc1
      rintro e w6 ⟨rfl, hb⟩
      have HB := hid (HB.out.trans (hb.mono HB.out.size))
      have LM2 := hid (LM2.out.bl hb)
      have RL := hid (RL.out.bl hb)
      have RB := hid (RB.out.bl hb)
      have RO := hid (RO.out.bl hb)
      clear hb
      have mc0 := LM2.out.at0
      have mc1 := LM2.out.at1
      go_wp2_with fail
      have hres := implReadingsMany_any A B C n c m e0 q d 0 l r page w6 LM2.out.hl LM2.out.hr LM2.out.hp
      rw [HMN.out] at hres
      refine hres.mono ?_
      clear hres
      clear mc0 mc1
      rintro e w7 ⟨rfl, hb⟩
      have HB := hid (HB.out.trans (hb.mono HB.out.size))
      have LM2 := hid (LM2.out.bl hb)
      have RL := hid (RL.out.bl hb)
      have RB := hid (RB.out.bl hb)
      have RO := hid (RO.out.bl hb)
      clear hb
      have mc0 := LM2.out.at0
      have mc1 := LM2.out.at1
      go_wp2_with fail
      have hres := implReadingsMany_any A B (some ⟨g, 0, none⟩) n c m e0 rs.length dd 0 l r (onlyL xs) w7 LM2.out.hl LM2.out.hr RO.out
      rw [GL.out.1] at hres
      refine hres.mono ?_
      clear hres
      clear mc0 mc1
      rintro e w8 ⟨rfl, hb⟩
      have HB := hid (HB.out.trans (hb.mono HB.out.size))
      have LM2 := hid (LM2.out.bl hb)
      have RL := hid (RL.out.bl hb)
      have RB := hid (RB.out.bl hb)
      have RO := hid (RO.out.bl hb)
      clear hb
      have mc0 := LM2.out.at0
      have mc1 := LM2.out.at1
      go_wp2_with fail
      have hres := implReadingWeight_any A B (some ⟨g, 0, none⟩) E n c m e0 rs.length dd xs.length d2 0 l r (onlyL xs) xs w8 LM2.out.hl LM2.out.hr RO.out RL.out hxd
      rw [GL.out.2.1] at hres
      refine hres.mono ?_
      clear hres
      clear mc0 mc1
      rintro e w9 ⟨rfl, hb⟩
      have HB := hid (HB.out.trans (hb.mono HB.out.size))
      have LM2 := hid (LM2.out.bl hb)
      have RL := hid (RL.out.bl hb)
      have RB := hid (RB.out.bl hb)
      have RO := hid (RO.out.bl hb)
      clear hb
      go_wp2_with fail
      go_ret
      exact ⟨rfl, HB.out⟩
    case pos =>
      have hki : (k : Int) < (xs.length : Int) := by omega
      obtain ⟨bx, ox, rfl, _, _, hatx⟩ := RL.out.2.2 (by omega)
      have ci := bcl HBW.out (hatx.int hlt)
      obtain ⟨x, hxx⟩ : ∃ x, gt xs k = x := ⟨_, rfl⟩
      have HTK := hid (take_gt hlt)
      rw [hxx] at ci
      have HXX := hid hxx
      have hfr := hid (HN.out.fresh (Nat.le_refl _))
      have hws := HBW.out.size
      clear hatx hxx hlt
      go_wp2_with (at_builtin; refine wpList_append_row rfl (.tmp 52) (.tmp 58) _ rfl Try.underlying24 HJ.out (v := .slice (some ⟨g, 0, none⟩) rs.length dd) rfl rfl ((HN.out.al _).al _) (r := (wr.heap.size, 1, [x])) rfl rfl (by first | exact heap_alloc_new _ _ | (have := heap_alloc_new (wr.alloc (.cells #[.int .i64 x] 3)) (.cells #[.slice (some ⟨wr.heap.size, 0, none⟩) 1 1] 23); rwa [World.size_alloc] at this)) ((rowX x).al _) (by omega) hfr.out.1 hfr.out.2 (by omega) (by simp; omega) (by simp; omega) ?_; intro A3 c3 w3 hN3 hc3 hg3)
      obtain ⟨g3, rfl⟩ := hg3
      have HN3 := hid hN3
      have hb3 := (HBW.out.trans (((bnew wr _).trans ((bnew _ _).mono (by simp))).mono (Nat.le_trans hws (Nat.le_refl _)))).trans (hc3.below (B := w5.heap.size) (by simp; omega) (fun k hk => (HN.out.own.own_lt hk).1))
      have HB3 := hid hb3
      clear hN3 hc3 hb3
      go_roundg (gk - 1)
      case measure => have := HKG.out; omega
      case rel => exact ⟨k + 1, rs ++ [(wr.heap.size, 1, [x])], g3, c3, by have := HKG.out; omega, by go_num, by rw [List.length_append]; rfl, by rw [List.length_append, HRL.out]; rfl, by rw [List.map_append, HRM.out, HTK.out, HXX.out]; simp [onlyL], by rw [List.length_append]; exact HN3.out, HB3.out⟩
end Go.Proofs.Ytfjoininagdlcaa
