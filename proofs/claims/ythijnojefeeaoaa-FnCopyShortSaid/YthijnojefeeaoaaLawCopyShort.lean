/- The law FnCopyShort returns true for all arguments that can be read. -/
import Derived.Test.YthijnojefeeaoaaDrawT
import Derived.Test.YthijnojefeeaoaaCopy5
namespace Go.Proofs.Ythijnojefeeaoaa
open Go.RowKit
attribute [local go_sem] Oper.semAt_some
set_option maxRecDepth 100000 in
set_option maxHeartbeats 4000000 in
theorem lawCopyShort (A0 : Option Addr) (n0 c0 : Nat) (l0 : List UInt8) (w : World) (hnc : n0 ≤ c0) (hx : Rd byteS 0 w.heap.size w A0 n0 l0) :
    Calls Try.prog 7 #[.slice A0 n0 c0] w fun e w' => e = .returned (.bool true) ∧ Below w.heap.size w w' := by
  have hn63 := hx.2.1
  have HX := hid hx
  clear hx
  by_cases hn : n0 ≤ 1048576
  case neg =>
    have h1 : (1048576 : Int) < (n0 : Int) := by omega
    go_enter Try.func7, Try.ntmps7
    go_wp2_with fail
    go_ret
    exact ⟨rfl, Below.refl _ _⟩
  have h1 : ¬ (1048576 : Int) < (n0 : Int) := by omega
  go_enter Try.func7, Try.ntmps7
  go_wp2_with fail
  refine (DrawCopyShort_any A0 n0 c0 l0 w hnc HX.out).mono ?_
  rintro e w1 ⟨A, n, c, bs, B, m, d, ws, rfl, ⟨hnc1, hn6, hsm⟩, ⟨hmd, hm8, hd63, hws⟩, hx1, hy1, hb1⟩
  have HB1 := hid hb1
  have RX := hid hx1
  have RY := hid hy1
  have hmw := hy1.1
  have HMW := hid hmw
  clear hx1 hy1 hb1 hmw
  go_wp2_with fail
  refine (implCopyShort_any A B n c m d bs ws w1 hnc1 hmd hd63 RX.out RY.out).mono ?_
  rintro e w2 ⟨rfl, hb2⟩
  have HB2 := hid hb2
  have RX2 := hid (RX.out.bl hb2)
  have RY2 := hid (RY.out.bl hb2)
  clear hb2
  obtain ⟨G, hG⟩ : ∃ G, leastV 0 1 bs ws = G := ⟨_, rfl⟩
  have HSP := hid (specCopyShort_any A B n c m d bs ws w2 hmd hd63 RX2.out RY2.out)
  rw [hG] at HSP ⊢
  have HG := hid hG
  clear hG
  go_wp2_with fail
  refine HSP.out.mono ?_
  rintro e w3 ⟨rfl, hb3⟩
  have HB3 := hid (btr HB2.out hb3)
  have RX3 := hid (RX2.out.bl hb3)
  have RY3 := hid (RY2.out.bl hb3)
  clear hb3 HSP
  by_cases hdo : deskOk bs ws = true
  case neg =>
    have hg : G = -1 := by
      have := HG.out
      unfold leastV at this
      rw [Bool.not_eq_true] at hdo
      rw [hdo] at this
      exact this.symm
    subst hg
    go_wp2_with fail
    go_ret
    exact ⟨rfl, HB1.out.trans (HB3.out.mono HB1.out.size)⟩
  case pos =>
    have hg := HG.out
    unfold leastV at hg
    rw [hdo] at hg
    dsimp only at hg
    obtain ⟨k1, k2, k3, k4, k5⟩ := desk_len hdo
    have hsl := short_law (bs := bs) ws k3
    have hnn := costs_nn 0 1 (by omega) (by omega) (fun b hb => (k3 b hb).1) ws
    rw [hg] at hsl hnn
    obtain ⟨s1, s2, s3, s4⟩ := hsl
    rw [← HMW.out] at s2 s3 s4
    have hbo : bestO bs ws = some (bestV bs ws) := by unfold bestO; rw [hdo]
    have hw3 : IntKind.i64.wrap (3 * G) = 3 * G := IntWalk.i64_in _ (by omega)
    have hsp : speechOk ws = true := (desk_yes hdo).2
    have hde : leastV 0 1 [] ws = m := by
      unfold leastV deskOk
      rw [hsp]
      exact s4
    have hbest := implCopyBest_any A B n c m d bs ws w3 hnc1 hmd hd63 RX3.out RY3.out
    rw [hbo] at hbest
    have hlt : ¬ G < 0 := by omega
    obtain ⟨L, hL⟩ : ∃ L, bestV bs ws = L := ⟨_, rfl⟩
    rw [hL] at s1 s2 hbest
    have HBE := hid hbest
    have HDE := hid hde
    clear hg k1 k2 k3 k4 k5 s4 hbo hsp hde hbest hL
    go_wp2_with fail
    refine HBE.out.mono ?_
    rintro e w4 ⟨A4, c4, rfl, hO4, hb4⟩
    have HB4 := hid (btr HB3.out hb4)
    have RX4 := hid (RX3.out.bl hb4)
    have RY4 := hid (RY3.out.bl hb4)
    simp only [Option.getD_some, Option.isSome_some]
    have s2' : (L.length : Int) ≤ (m : Int) := by omega
    have bl := bnew w4 (.cells #[] 31)
    have HEM := hid (implCopyShort_any (some ⟨w4.heap.size, 0, none⟩) B 0 0 m d [] ws (w4.alloc (.cells #[] 31)) (Nat.le_refl _) hmd hd63 (Rd.nil _ _ _ _ _) (RY4.out.bl bl))
    rw [HDE.out] at HEM
    have HBL := hid bl
    clear hO4 hb4 HBE bl
    go_wp2_with fail
    refine HEM.out.mono ?_
    rintro e w5 ⟨rfl, hb5⟩
    have HB5 := hid (btr HB4.out (HBL.out.trans (hb5.mono HBL.out.size)))
    clear hb5
    go_wp2_with fail
    go_ret
    exact ⟨rfl, HB1.out.trans (HB5.out.mono HB1.out.size)⟩
end Go.Proofs.Ythijnojefeeaoaa
