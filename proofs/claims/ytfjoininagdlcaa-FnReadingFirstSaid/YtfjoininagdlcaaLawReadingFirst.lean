/- The law FnReadingFirst returns true for all arguments that can be read. -/
import Derived.Test.YtfjoininagdlcaaDrawLs
import Derived.Test.YtfjoininagdlcaaLawFns
import Derived.Test.YtfjoininagdlcaaLawKit
import Derived.Test.YtfjoininagdlcaaBest
import Derived.Test.YtfjoininagdlcaaFirst
import Derived.Test.YtfjoininagdlcaaRank
import Derived.Test.YtfjoininagdlcaaKeeper
namespace Go.Proofs.Ytfjoininagdlcaa
open Go.RowKit
set_option maxRecDepth 100000 in
set_option maxHeartbeats 2000000 in
theorem lawReadingFirst (A0 : Option Addr) (n0 c0 : Nat) (bs : List UInt8) (w : World) (hnc : n0 ≤ c0) (hx : Rd byteS 0 w.heap.size w A0 n0 bs) :
    Calls Try.prog 5 #[.slice A0 n0 c0] w fun e w' => e = .returned (.bool true) ∧ Below w.heap.size w w' := by
  have hn63 := hx.2.1
  have HX := hid hx
  clear hx
  by_cases hn : n0 ≤ 1048576
  case neg =>
    have h1 : (1048576 : Int) < (n0 : Int) := by omega
    go_enter Try.func5, Try.ntmps5
    go_wp2_with fail
    go_ret
    exact ⟨rfl, Below.refl _ _⟩
  have h1 : ¬ (1048576 : Int) < (n0 : Int) := by omega
  go_enter Try.func5, Try.ntmps5
  go_wp2_with fail
  refine (DrawReadingFirst_any A0 n0 c0 bs w hnc HX.out).mono ?_
  rintro e w1 ⟨A, n, c, l, B, m, e0, r, C, q, d, page, rfl, a1, a2, hb1⟩
  have LM := hid (LM.new (c := c) (e0 := e0) (t := 26) a1.hl a1.hr a2.hp)
  have HB2 := hid (bal hb1 (.cells #[.slice A n c, .slice B m e0] 26))
  clear a1 a2 hb1
  go_wp2_with fail
  generalize (w1.alloc (.cells #[.slice A n c, .slice B m e0] 26)) = w2 at *
  obtain ⟨M, hM⟩ : ∃ M, w1.heap.size = M := ⟨_, rfl⟩
  rw [hM] at LM ⊢
  clear hM
  refine (implReadingFirst_any A B C n c m e0 q d l r page w2 LM.out.hl LM.out.hr LM.out.hp).mono ?_
  intro e w3 hres
  have SP := hid fun W hb => specReadingFirst_any A B C n c m e0 q d 0 l r page W (LM.out.bl hb).hl (LM.out.bl hb).hr (LM.out.bl hb).hp
  have hlen := firstV_len8 (l := l) (r := r) (page := page)
  obtain ⟨V, hV⟩ : ∃ V, firstV l r page = V := ⟨_, rfl⟩
  rw [hV] at hres SP hlen
  have HV := hid hV
  clear hV
  cases V with
  | none =>
    have hres' := ib_rd hres hlen
    simp only [Option.getD_none, Option.isSome_none, List.length_nil] at hres'
    obtain ⟨F, fc, rfl, hfc, hF, hb3⟩ := hres'
    have LM3 := hid (LM.out.bl hb3)
    have RF := hid hF
    have HB3 := hid hb3
    have mc0 := LM3.out.at0
    have mc1 := LM3.out.at1
    clear hF hb3 hres hlen
    go_wp2_with fail
    refine (SP.out w3 HB3.out).mono ?_
    intro e w4 hres
    have hres' := ib_rd hres (by simp)
    simp only [Option.getD_none, Option.isSome_none, List.length_nil] at hres'
    obtain ⟨G, gc, rfl, hgc, hG, hb4⟩ := hres'
    have RF4 := hid (RF.out.bl hb4)
    have RG4 := hid hG
    have HB4 := hid (btr HB3.out hb4)
    clear hG hb4 hres mc0 mc1
    go_wp2_with fail
    refine (sameInts_any _ _ _ _ _ _ _ _ _ _ _ RF4.out RG4.out).mono ?_
    rintro e w5 ⟨rfl, hb5⟩
    have HB5 := hid (btr HB4.out hb5)
    have RF5 := hid (RF4.out.bl hb5)
    have RG5 := hid (RG4.out.bl hb5)
    clear hb5
    rw [eqD_self]
    go_wp2_with fail
    refine (sameInts_any _ _ _ _ _ _ _ _ _ _ _ RF5.out RG5.out).mono ?_
    rintro e w6 ⟨rfl, hb6⟩
    have HB6 := hid (btr HB5.out hb6)
    clear hb6
    rw [eqD_self]
    go_wp2_with fail
    go_ret
    exact ⟨rfl, HB2.out.trans (HB6.out.mono HB2.out.size)⟩
  | some f =>
    obtain ⟨g1, g2, g3, g4, g5, b, g6, g7⟩ := first_law HV.out
    have GL := hid (And.intro g1 (And.intro g2 (And.intro g3 (And.intro g4 (And.intro g6 g7)))))
    have hfl : f.length ≤ 8 := by have := (pageOk_yes (bothOk_yes g1).2).1; omega
    clear g1 g2 g3 g4 g5 g6 g7
    have hres' := ib_rd hres hlen
    simp only [Option.getD_some, Option.isSome_some] at hres'
    obtain ⟨F, fc, rfl, hfc, hF, hb3⟩ := hres'
    have LM3 := hid (LM.out.bl hb3)
    have RF := hid hF
    have HB3 := hid hb3
    have mc0 := LM3.out.at0
    have mc1 := LM3.out.at1
    clear hF hb3 hres hlen
    go_wp2_with fail
    refine (SP.out w3 HB3.out).mono ?_
    intro e w4 hres
    have hres' := ib_rd hres (by simp; omega)
    simp only [Option.getD_some, Option.isSome_some] at hres'
    obtain ⟨G, gc, rfl, hgc, hG, hb4⟩ := hres'
    have RF4 := hid (RF.out.bl hb4)
    have RG4 := hid hG
    have LM4 := hid (LM3.out.bl hb4)
    have HB4 := hid (btr HB3.out hb4)
    clear hG hb4 hres mc0 mc1 SP
    go_wp2_with fail
    refine (sameInts_any _ _ _ _ _ _ _ _ _ _ _ RF4.out RG4.out).mono ?_
    rintro e w5 ⟨rfl, hb5⟩
    have HB5 := hid (btr HB4.out hb5)
    have RF5 := hid (RF4.out.bl hb5)
    have LM5 := hid (LM4.out.bl hb5)
    have mc0 := LM5.out.at0
    have mc1 := LM5.out.at1
    clear hb5
    rw [eqD_self]
    go_wp2_with fail
    have hres := implReadingBest_any A B C n c m e0 q d l r page w5 LM5.out.hl LM5.out.hr LM5.out.hp
    rw [GL.out.2.2.2.2.1] at hres
    refine hres.mono ?_
    clear hres mc0 mc1
    intro e w6 hres
    have hbl := bestV_len l r page
    rw [GL.out.2.2.2.2.1] at hbl
    have hres' := ib_rd hres hbl
    simp only [Option.getD_some, Option.isSome_some] at hres'
    obtain ⟨H, hc, rfl, hhc, hH, hb6⟩ := hres'
    have LM6 := hid (LM5.out.bl hb6)
    have RF6 := hid (RF5.out.bl hb6)
    have RH6 := hid hH
    have HB6 := hid (btr HB5.out hb6)
    have mc0 := LM6.out.at0
    have mc1 := LM6.out.at1
    clear hres hbl hH hb6
    go_wp2_with fail
    have hres := implReadingsRank_any A B C F n c m e0 q d f.length fc l r page f w6 LM6.out.hl LM6.out.hr LM6.out.hp RF6.out hfc
    rw [GL.out.2.2.1] at hres
    refine hres.mono ?_
    clear hres mc0 mc1
    rintro e w7 ⟨rfl, hb7⟩
    have LM7 := hid (LM6.out.bl hb7)
    have RF7 := hid (RF6.out.bl hb7)
    have RH7 := hid (RH6.out.bl hb7)
    have HB7 := hid (btr HB6.out hb7)
    have mc0 := LM7.out.at0
    have mc1 := LM7.out.at1
    clear hb7
    go_wp2_with fail
    have hres := implReadingWeight_any A B C F n c m e0 q d f.length fc 0 l r page f w7 LM7.out.hl LM7.out.hr LM7.out.hp RF7.out hfc
    obtain ⟨W0, hW0⟩ : ∃ W0, weightOf l r page f = W0 := ⟨_, rfl⟩
    have hwn := GL.out.2.2.2.1
    rw [hW0] at hres hwn
    refine hres.mono ?_
    clear hres mc0 mc1 hW0
    rintro e w8 ⟨rfl, hb8⟩
    have RF8 := hid (RF7.out.bl hb8)
    have RH8 := hid (RH7.out.bl hb8)
    have HB8 := hid (btr HB7.out hb8)
    clear hb8
    go_wp2_with fail
    refine (sameInts_any _ _ _ _ _ _ _ _ _ _ _ RF8.out RH8.out).mono ?_
    rintro e w9 ⟨rfl, hb9⟩
    have RF9 := hid (RF8.out.bl hb9)
    have RH9 := hid (RH8.out.bl hb9)
    have HB9 := hid (btr HB8.out hb9)
    have hor := GL.out.2.2.2.2.2
    clear hb9
    obtain ⟨T, hT⟩ : ∃ T, eqD f b = T := ⟨_, rfl⟩
    rw [hT] at hor ⊢
    clear hT
    cases T with
    | true =>
      clear hor
      go_wp2_with fail
      go_ret
      exact ⟨rfl, HB2.out.trans (HB9.out.mono HB2.out.size)⟩
    | false =>
      rw [Bool.false_or] at hor
      have HOR := hid hor
      clear hor
      go_wp2_with fail
      refine (ahead_any _ _ _ _ _ _ _ _ _ _ _ RF9.out RH9.out).mono ?_
      rintro e w10 ⟨rfl, hb10⟩
      have HB10 := hid (btr HB9.out hb10)
      rw [HOR.out]
      clear hb10
      go_wp2_with fail
      go_ret
      exact ⟨rfl, HB2.out.trans (HB10.out.mono HB2.out.size)⟩
end Go.Proofs.Ytfjoininagdlcaa
