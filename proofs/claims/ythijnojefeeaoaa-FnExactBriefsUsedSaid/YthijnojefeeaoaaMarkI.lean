/- Marks of a returned row of numbers. -/
import Derived.Test.YthijnojefeeaoaaNestFns
namespace Go.Proofs.Ythijnojefeeaoaa
open Go.RowKit
set_option maxHeartbeats 1000000 in
theorem markIntS_res (A : Option Addr) (n c base : Nat) (l : List Int) (k0 : Int) (w : World) (h : OwnR intS base w 3 (.slice A n c) l) (hnl : n = l.length) (hn : n ≤ 1048576) (h0 : 0 ≤ k0) (h1 : k0 ≤ 1099511627776) :
    Calls Try.prog 32 #[.slice A n c, .int .i64 k0] w fun r w' => r = .returned (.int .i64 (k0 + n)) ∧ Rd intS base w'.heap.size w' A n (marksI k0 n) ∧ Chg (fun k => (Value.slice A n c).ownBlock = some k) w w' := by
  by_cases hz : n = 0
  case pos =>
    clear h hnl
    subst hz
    go_enter Try.func32, Try.ntmps32
    go_wp2_with fail
    go_loopg [1, 5] 0 (fun gk k i wr => i = .int .i64 0 ∧ k = .int .i64 k0 ∧ w = wr)
    case atStart => exact ⟨rfl, rfl, rfl⟩
    case round =>
      obtain ⟨rfl, rfl, rfl⟩ := hrel
      go_wp2_with fail
      go_ret
      exact ⟨ret_int (by simp), Rd.nil _ _ _ _ _, Chg.refl _ _⟩
  case neg =>
    obtain ⟨g, rfl, hg, hlt, _⟩ := h.blk (by omega)
    obtain ⟨_, hra, _⟩ := h.rowAt (by omega)
    refine (markIntS_row g n c 3 l k0 w hra hnl hn h0 h1).mono fun r w' ⟨q1, q2, q3⟩ => ⟨q1, ?_, q3.wide fun k hk => by rw [hk]; rfl⟩
    have := Rd_iff.2 (q2.rd (D := rng base w'.heap.size) ⟨hg, q2.lt⟩)
    rw [marksI_len] at this
    exact this
end Go.Proofs.Ythijnojefeeaoaa
