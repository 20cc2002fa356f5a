/- The law FnExactPageValid returns true for all arguments that can be read. -/
import Derived.Test.YtldhnljlhbbobaaPage
namespace Go.Proofs.Ytldhnljlhbbobaa
open Go.RowKit

theorem szI_le {n : Nat} {l : Int} (h : 0 ≤ szI n l) : (n : Int) ≤ l := by unfold szI at h; split at h <;> omega
theorem szGo_le : ∀ (ns : List Nat) (l : Int), 0 ≤ l → 0 ≤ szGo ns l → ∀ n ∈ ns, (n : Int) ≤ l
  | [], _, _, _ => fun n h => by cases h
  | m :: r, l, h0, h => fun n hn => by
    rw [szGo] at h
    by_cases hs : szI m l < 0
    · rw [if_pos hs] at h; omega
    · rw [if_neg hs] at h
      have h1 := szI_le (n := m) (l := l) (by omega)
      have h2 : szI m l = l - m := by unfold szI; rw [if_neg (by unfold szI at hs; split at hs <;> omega)]
      rcases List.mem_cons.1 hn with rfl | hn
      · exact h1
      · have := szGo_le r _ (by omega) h n hn
        omega
theorem szRows_le {rows : List (List Int)} {l : Int} (h0 : 0 ≤ l) (h : 0 ≤ szRows rows l) : (rows.length : Int) ≤ l ∧ ∀ r ∈ rows, (r.length : Int) ≤ l := by
  unfold szRows at h
  split at h
  · omega
  · refine ⟨by omega, fun r hr => ?_⟩
    have := szGo_le _ _ (by omega) h r.length (List.mem_map_of_mem hr)
    omega

set_option maxHeartbeats 1000000 in
theorem lawPageValid (A : Option Addr) (n c lo : Nat) (m : Int) (page : List (List Int)) (w : World) (hx : Rd (sliceS intS) lo w.heap.size w A n page) :
    Calls Try.prog 4 #[.int .i64 m, .slice A n c] w fun e w' => e = .returned (.bool true) ∧ Below w.heap.size w w' := by
  by_cases hs : szRows page 1048576 < 0
  · go_enter Try.func4, Try.ntmps4
    go_wp2_with fail
    refine (szIntSS_any _ _ _ lo _ _ _ hx (by omega) (by omega)).mono ?_
    rintro e w' ⟨rfl, rfl⟩
    go_wp2_with fail
    go_ret
    exact ⟨rfl, Below.refl _ _⟩
  · obtain ⟨s1, s2⟩ := szRows_le (by omega) (Int.not_lt.1 hs)
    have hn : n ≤ 1048576 := by have := hx.1; omega
    have S2 := hid (show ∀ r ∈ page, r.length ≤ 1048576 from fun r hr => by have := s2 r hr; omega)
    clear s1 s2
    go_enter Try.func4, Try.ntmps4
    go_wp2_with fail
    refine (szIntSS_any _ _ _ lo _ _ _ hx (by omega) (by omega)).mono ?_
    rintro e w' ⟨rfl, rfl⟩
    go_wp2_with fail
    refine (toIntSS_any _ _ _ lo _ _ hx hn S2.out).mono ?_
    rintro e w1 ⟨g1, rfl, r1, b1⟩
    go_wp2_with fail
    refine (specPageValid_any _ _ _ _ _ _ _ r1).mono ?_
    rintro e w' ⟨rfl, rfl⟩
    have hx1 := (hx.below b1 (Nat.le_refl _)).wide (Nat.le_refl _) b1.size
    go_wp2_with fail
    refine (toIntSS_any _ _ _ lo _ _ hx1 hn S2.out).mono ?_
    rintro e w2 ⟨g2, rfl, r2, b2⟩
    have hx2 := (hx1.below b2 (Nat.le_refl _)).wide (Nat.le_refl _) b2.size
    go_wp2_with fail
    refine (implPageValid_any _ _ _ _ _ _ _ r2).mono ?_
    rintro e w' ⟨rfl, rfl⟩
    go_wp2_with fail
    refine (toIntSS_any _ _ _ lo _ _ hx2 hn S2.out).mono ?_
    rintro e w3 ⟨g3, rfl, r3, b3⟩
    go_wp2_with fail
    refine (eqIntSS_any _ _ _ _ _ _ _ _ _ _ _ ((r2.below b3 (Nat.le_refl _)).wide (Nat.le_refl _) b3.size) r3).mono ?_
    rintro e w4 ⟨rfl, b4⟩
    rw [eqD_self]
    go_wp2_with fail
    go_ret
    exact ⟨rfl, ((b1.trans (b2.mono b1.size)).trans (b3.mono (Nat.le_trans b1.size b2.size))).trans (b4.mono (Nat.le_trans b1.size (Nat.le_trans b2.size b3.size)))⟩
end Go.Proofs.Ytldhnljlhbbobaa
