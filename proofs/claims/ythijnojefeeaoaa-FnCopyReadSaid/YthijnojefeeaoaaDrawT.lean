/- Talks as they are drawn. -/
import Derived.Test.YthijnojefeeaoaaDrawC
namespace Go.Proofs.Ythijnojefeeaoaa
open Go.RowKit
attribute [local go_sem] Oper.semAt_some
theorem own_cap {α : Type} [Inhabited α] {S : Shape α} {base : Nat} {w : World} {e : TypeId} {A : Option Addr} {n c : Nat} {l : List α} (h : OwnR S base w e (.slice A n c) l) : n ≤ c ∧ c ≤ 9223372036854775807 := by
  obtain ⟨xs, ⟨hl, h2⟩, hx⟩ := h
  rcases h2 with ⟨h3, h0⟩ | ⟨g', cap, cur, h3, hg, hh, hc, hcm, hcs, htake⟩
  · injection h3 with _ b c
    omega
  · injection h3 with _ b c
    simp only [maxLen] at hcm
    omega
set_option maxRecDepth 100000 in
set_option maxHeartbeats 1000000 in
theorem l91Talked_any (rb : Nat) (w : World) (h : Rdr rb w 0) :
    Calls Try.prog 55 #[.pointer (some ⟨rb, 0, none⟩)] w fun e w' => ∃ A n c bs B m d ws, e = .returned (.tuple #[.slice A n c, .slice B m d]) ∧ (n ≤ c ∧ n ≤ 6 ∧ ∀ b ∈ bs, smallB b) ∧ (m ≤ d ∧ m ≤ 8 ∧ d ≤ 9223372036854775807 ∧ ∀ s ∈ ws, s.size ≤ 10) ∧ Rd briefS w.heap.size w'.heap.size w' A n bs ∧ Rd strS w.heap.size w'.heap.size w' B m ws ∧ Chg (fun k => k = rb) w w' := by
  have hrl := h.lt
  have H1 := hid (l91Briefs_any rb 0 w h (by omega))
  clear h
  go_enter Try.func55, Try.ntmps55
  go_wp2_with fail
  refine H1.out.mono ?_
  rintro e w1 ⟨A, c, bs, p', rfl, hnc, hrd, ⟨hb6, hp', hsm⟩, hr, hc⟩
  have hz := hc.size
  have H2 := hid (l91Speech_any rb p' 8 w1 hr (by omega) (by omega))
  have HX := hid hrd
  have HS := hid hsm
  have HC := hid hc
  clear H1 hrd hsm hr hc
  go_wp2_with fail
  refine H2.out.mono ?_
  rintro e w2 ⟨B, d, ws, q, rfl, hO, ⟨hm8, _, hws⟩, hr2, hc2⟩
  have hz2 := hc2.size
  obtain ⟨hmd, hd⟩ := own_cap hO
  have hy := (hO.rd (by omega)).2
  have hx := (HX.out.chg hc2 (Nat.le_refl _) (fun k hk => .inr (by omega))).wide (Nat.le_refl _) hz2
  have HF := hid (And.intro hx (And.intro hy (HC.out.trans hc2)))
  have HG := hid (And.intro hws hd)
  clear H2 HX HC hO hc2 hr2 hx hy hws
  go_wp2_with fail
  go_ret2
  exact ⟨A, _, c, bs, B, _, d, ws, rfl, ⟨hnc, hb6, HS.out⟩, ⟨hmd, hm8, HG.out.2, HG.out.1⟩, HF.out.1, HF.out.2.1.wide hz (Nat.le_refl _), HF.out.2.2⟩
set_option maxRecDepth 100000 in
set_option maxHeartbeats 1000000 in
theorem DrawCopyShort_any (A0 : Option Addr) (n0 c0 : Nat) (l0 : List UInt8) (w : World) (hnc : n0 ≤ c0) (hx : Rd byteS 0 w.heap.size w A0 n0 l0) :
    Calls Try.prog 41 #[.slice A0 n0 c0] w fun e w' => ∃ A n c bs B m d ws, e = .returned (.tuple #[.slice A n c, .slice B m d]) ∧ (n ≤ c ∧ n ≤ 6 ∧ ∀ b ∈ bs, smallB b) ∧ (m ≤ d ∧ m ≤ 8 ∧ d ≤ 9223372036854775807 ∧ ∀ s ∈ ws, s.size ≤ 10) ∧ Rd briefS 0 w'.heap.size w' A n bs ∧ Rd strS 0 w'.heap.size w' B m ws ∧ Below w.heap.size w w' := by
  have HX := hid hx
  clear hx
  go_enter Try.func41, Try.ntmps41
  go_wp2_with fail
  refine (l6Open_any A0 n0 c0 l0 w hnc HX.out).mono ?_
  rintro e w1 ⟨rfl, hr1, hb1, hs1⟩
  have HB1 := hid hb1
  have HT := hid (l91Talked_any w.heap.size w1 hr1)
  clear hb1 hr1
  go_wp2_with fail
  refine HT.out.mono ?_
  rintro e w2 ⟨A, n, c, bs, B, m, d, ws, rfl, h1, h2, h3, h4, h5⟩
  have HH := hid (And.intro h1 (And.intro h2 (And.intro h3 (And.intro h4 h5))))
  clear h1 h2 h3 h4 h5 HT
  go_wp2_with fail
  go_ret2
  exact ⟨A, n, c, bs, B, m, d, ws, rfl, HH.out.1, HH.out.2.1, HH.out.2.2.1.wide (Nat.zero_le _) (Nat.le_refl _), HH.out.2.2.2.1.wide (Nat.zero_le _) (Nat.le_refl _), HB1.out.trans (HH.out.2.2.2.2.below (by omega) (fun k e => by omega))⟩
set_option maxRecDepth 100000 in
set_option maxHeartbeats 1000000 in
theorem DrawCopySaves_any (A0 : Option Addr) (n0 c0 : Nat) (l0 : List UInt8) (w : World) (hnc : n0 ≤ c0) (hx : Rd byteS 0 w.heap.size w A0 n0 l0) :
    Calls Try.prog 13 #[.slice A0 n0 c0] w fun e w' => ∃ A n c bs B m d ws, e = .returned (.tuple #[.slice A n c, .slice B m d]) ∧ (n ≤ c ∧ n ≤ 6 ∧ ∀ b ∈ bs, smallB b) ∧ (m ≤ d ∧ m ≤ 8 ∧ d ≤ 9223372036854775807 ∧ ∀ s ∈ ws, s.size ≤ 10) ∧ Rd briefS 0 w'.heap.size w' A n bs ∧ Rd strS 0 w'.heap.size w' B m ws ∧ Below w.heap.size w w' := by
  have HX := hid hx
  clear hx
  go_enter Try.func13, Try.ntmps13
  go_wp2_with fail
  refine (l6Open_any A0 n0 c0 l0 w hnc HX.out).mono ?_
  rintro e w1 ⟨rfl, hr1, hb1, hs1⟩
  have HB1 := hid hb1
  have HT := hid (l91Talked_any w.heap.size w1 hr1)
  clear hb1 hr1
  go_wp2_with fail
  refine HT.out.mono ?_
  rintro e w2 ⟨A, n, c, bs, B, m, d, ws, rfl, h1, h2, h3, h4, h5⟩
  have HH := hid (And.intro h1 (And.intro h2 (And.intro h3 (And.intro h4 h5))))
  clear h1 h2 h3 h4 h5 HT
  go_wp2_with fail
  go_ret2
  exact ⟨A, n, c, bs, B, m, d, ws, rfl, HH.out.1, HH.out.2.1, HH.out.2.2.1.wide (Nat.zero_le _) (Nat.le_refl _), HH.out.2.2.2.1.wide (Nat.zero_le _) (Nat.le_refl _), HB1.out.trans (HH.out.2.2.2.2.below (by omega) (fun k e => by omega))⟩
set_option maxRecDepth 100000 in
set_option maxHeartbeats 1000000 in
theorem DrawBriefsUsed_any (A0 : Option Addr) (n0 c0 : Nat) (l0 : List UInt8) (w : World) (hnc : n0 ≤ c0) (hx : Rd byteS 0 w.heap.size w A0 n0 l0) :
    Calls Try.prog 17 #[.slice A0 n0 c0] w fun e w' => ∃ A n c bs B m d ws, e = .returned (.tuple #[.slice A n c, .slice B m d]) ∧ (n ≤ c ∧ n ≤ 6 ∧ ∀ b ∈ bs, smallB b) ∧ (m ≤ d ∧ m ≤ 8 ∧ d ≤ 9223372036854775807 ∧ ∀ s ∈ ws, s.size ≤ 10) ∧ Rd briefS 0 w'.heap.size w' A n bs ∧ Rd strS 0 w'.heap.size w' B m ws ∧ Below w.heap.size w w' := by
  have HX := hid hx
  clear hx
  go_enter Try.func17, Try.ntmps17
  go_wp2_with fail
  refine (l6Open_any A0 n0 c0 l0 w hnc HX.out).mono ?_
  rintro e w1 ⟨rfl, hr1, hb1, hs1⟩
  have HB1 := hid hb1
  have HT := hid (l91Talked_any w.heap.size w1 hr1)
  clear hb1 hr1
  go_wp2_with fail
  refine HT.out.mono ?_
  rintro e w2 ⟨A, n, c, bs, B, m, d, ws, rfl, h1, h2, h3, h4, h5⟩
  have HH := hid (And.intro h1 (And.intro h2 (And.intro h3 (And.intro h4 h5))))
  clear h1 h2 h3 h4 h5 HT
  go_wp2_with fail
  go_ret2
  exact ⟨A, n, c, bs, B, m, d, ws, rfl, HH.out.1, HH.out.2.1, HH.out.2.2.1.wide (Nat.zero_le _) (Nat.le_refl _), HH.out.2.2.2.1.wide (Nat.zero_le _) (Nat.le_refl _), HB1.out.trans (HH.out.2.2.2.2.below (by omega) (fun k e => by omega))⟩
set_option maxRecDepth 100000 in
set_option maxHeartbeats 1000000 in
theorem DrawCopyBest_any (A0 : Option Addr) (n0 c0 : Nat) (l0 : List UInt8) (w : World) (hnc : n0 ≤ c0) (hx : Rd byteS 0 w.heap.size w A0 n0 l0) :
    Calls Try.prog 44 #[.slice A0 n0 c0] w fun e w' => ∃ A n c bs B m d ws, e = .returned (.tuple #[.slice A n c, .slice B m d]) ∧ (n ≤ c ∧ n ≤ 6 ∧ ∀ b ∈ bs, smallB b) ∧ (m ≤ d ∧ m ≤ 8 ∧ d ≤ 9223372036854775807 ∧ ∀ s ∈ ws, s.size ≤ 10) ∧ Rd briefS 0 w'.heap.size w' A n bs ∧ Rd strS 0 w'.heap.size w' B m ws ∧ Below w.heap.size w w' := by
  have HX := hid hx
  clear hx
  go_enter Try.func44, Try.ntmps44
  go_wp2_with fail
  refine (l6Open_any A0 n0 c0 l0 w hnc HX.out).mono ?_
  rintro e w1 ⟨rfl, hr1, hb1, hs1⟩
  have HB1 := hid hb1
  have HT := hid (l91Talked_any w.heap.size w1 hr1)
  clear hb1 hr1
  go_wp2_with fail
  refine HT.out.mono ?_
  rintro e w2 ⟨A, n, c, bs, B, m, d, ws, rfl, h1, h2, h3, h4, h5⟩
  have HH := hid (And.intro h1 (And.intro h2 (And.intro h3 (And.intro h4 h5))))
  clear h1 h2 h3 h4 h5 HT
  go_wp2_with fail
  go_ret2
  exact ⟨A, n, c, bs, B, m, d, ws, rfl, HH.out.1, HH.out.2.1, HH.out.2.2.1.wide (Nat.zero_le _) (Nat.le_refl _), HH.out.2.2.2.1.wide (Nat.zero_le _) (Nat.le_refl _), HB1.out.trans (HH.out.2.2.2.2.below (by omega) (fun k e => by omega))⟩
end Go.Proofs.Ythijnojefeeaoaa
