/- The law FnExactModelValid returns true for all arguments that can be read. -/
import Derived.Test.YtldhnljlhbbobaaModel
import Derived.Test.YtldhnljlhbbobaaLawPageValid
import Derived.Deep.RegionHeld3
namespace Go.Proofs.Ytldhnljlhbbobaa
open Go.RowKit
theorem szModelN_le {l : List Int} {r : List (List Int)} {left : Int} (h0 : 0 ≤ left) (h : 0 ≤ szModelN l r left) : (l.length : Int) ≤ left ∧ (r.length : Int) ≤ left ∧ ∀ x ∈ r, (x.length : Int) ≤ left := by
  unfold szModelN at h
  split at h
  · omega
  · rename_i h1
    split at h
    · omega
    · rename_i h2
      have e1 := szI_le (n := l.length) (l := left) (by omega)
      have e2 : szI l.length left ≤ left := by unfold szI; split <;> omega
      obtain ⟨e3, e4⟩ := szRows_le (by omega) (Int.not_lt.1 h2)
      exact ⟨e1, by omega, fun x hx => by have := e4 x hx; omega⟩
set_option maxHeartbeats 1000000 in
theorem lawExactModelValid (A : Option Addr) (n c : Nat) (l : List Int) (B : Option Addr) (m e : Nat) (r : List (List Int)) (w : World) (hl : Rd intS 0 w.heap.size w A n l) (hr : Rd (sliceS intS) 0 w.heap.size w B m r) :
    Calls Try.prog 6 #[.agg #[.slice A n c, .slice B m e]] w fun e w' => e = .returned (.bool true) ∧ Below w.heap.size w w' := by
  have HL := hid (fun w1 (h : Below w.heap.size w w1) => (hl.below h (Nat.le_refl _)).wide (Nat.le_refl 0) h.size)
  have HR := hid (fun w1 (h : Below w.heap.size w w1) => (hr.below h (Nat.le_refl _)).wide (Nat.le_refl 0) h.size)
  have hba : ∀ (o : Obj) (w1 : World), Below (w.alloc o).heap.size (w.alloc o) w1 → Below w.heap.size w w1 := fun o w1 h => ((Below.refl _ _).alloc (Nat.le_refl _) _).trans (h.mono (by simp))
  have HBA := hid hba; clear hba
  have hn0 := hl.1
  have hm0 := hr.1
  have HN := hid hn0
  have HM := hid hm0
  clear hl hr hn0 hm0
  by_cases hs : szModelN l r 1048576 < 0
  · go_enter Try.func6, Try.ntmps6
    go_wp2_with fail
    refine (szModel_any _ _ _ _ _ _ _ _ _ _ _ (HL.out _ (HBA.out _ _ (Below.refl _ _))) (HR.out _ (HBA.out _ _ (Below.refl _ _))) (by omega) (by omega)).mono ?_
    rintro e w1 ⟨rfl, b1⟩
    have B1 := hid (HBA.out _ _ b1)
    go_wp2_with fail
    go_ret
    exact ⟨rfl, B1.out⟩
  · obtain ⟨s1, s2, s3⟩ := szModelN_le (by omega) (Int.not_lt.1 hs)
    have hn : n ≤ 1048576 := by have := HN.out; omega
    have hm : m ≤ 1048576 := by have := HM.out; omega
    have S3 := hid (show ∀ x ∈ r, x.length ≤ 1048576 from fun x hx => by have := s3 x hx; omega)
    clear s1 s2 s3
    go_enter Try.func6, Try.ntmps6
    go_wp2_with fail
    refine (szModel_any _ _ _ _ _ _ _ _ _ _ _ (HL.out _ (HBA.out _ _ (Below.refl _ _))) (HR.out _ (HBA.out _ _ (Below.refl _ _))) (by omega) (by omega)).mono ?_
    rintro e w1 ⟨rfl, b1⟩
    have B1 := hid (HBA.out _ _ b1)
    obtain ⟨hc1, hf1⟩ := bcell b1
    have z1 : w.heap.size < w1.heap.size := by have := b1.size; simp at this; omega
    have x1 : w1.cell? ⟨w.heap.size, 0, none⟩ = some (.slice A n c) := by simp [hc1]
    have x1' : w1.cell? ⟨w.heap.size, 1, none⟩ = some (.slice B m e) := by simp [hc1]
    clear hc1 hf1 b1
    go_wp2_with fail
    refine (toModel_any _ _ _ _ _ _ _ _ _ _ (HL.out _ B1.out) (HR.out _ B1.out) hn hm S3.out).mono ?_
    rintro e w2 ⟨g2, h2, rfl, p2, q2, b2⟩
    have B2 := hid (B1.out.trans (b2.mono B1.out.size))
    have x2 := (b2.cell (p := ⟨w.heap.size, 0, none⟩) z1).trans x1
    have x2' := (b2.cell (p := ⟨w.heap.size, 1, none⟩) z1).trans x1'
    have z2 := Nat.lt_of_lt_of_le z1 b2.size
    have PQ2 := hid (And.intro p2 q2)
    clear x1 x1' b2 p2 q2
    go_wp2_with fail
    refine (specModelValid_any _ _ _ _ _ _ _ _ _ _ PQ2.out.1 PQ2.out.2).mono ?_
    rintro e w3 ⟨rfl, b3⟩
    have B3 := hid (B2.out.trans (b3.mono B2.out.size))
    have x3 := (b3.cell (p := ⟨w.heap.size, 0, none⟩) z2).trans x2
    have x3' := (b3.cell (p := ⟨w.heap.size, 1, none⟩) z2).trans x2'
    have z3 := Nat.lt_of_lt_of_le z2 b3.size
    clear x2 x2' b3 PQ2
    go_wp2_with fail
    refine (toModel_any _ _ _ _ _ _ _ _ _ _ (HL.out _ B3.out) (HR.out _ B3.out) hn hm S3.out).mono ?_
    rintro e w4 ⟨g4, h4, rfl, p4, q4, b4⟩
    have B4 := hid (B3.out.trans (b4.mono B3.out.size))
    have x4 := (b4.cell (p := ⟨w.heap.size, 0, none⟩) z3).trans x3
    have x4' := (b4.cell (p := ⟨w.heap.size, 1, none⟩) z3).trans x3'
    have z4 := Nat.lt_of_lt_of_le z3 b4.size
    have PQ4 := hid (fun (o : Obj) (w' : World) (h : Below (w4.alloc o).heap.size (w4.alloc o) w') => And.intro ((p4.below (((Below.refl _ _).alloc (Nat.le_refl _) o).trans (h.mono (by simp))) (Nat.le_refl _)).wide (Nat.le_refl _) (Nat.le_trans (by simp) h.size)) ((q4.below (((Below.refl _ _).alloc (Nat.le_refl _) o).trans (h.mono (by simp))) (Nat.le_refl _)).wide (Nat.le_refl _) (Nat.le_trans (by simp) h.size)))
    clear x3 x3' b4 p4 q4
    go_wp2_with fail
    refine (implModelValid_any _ _ _ _ _ _ _ _ _ _ (PQ4.out _ _ (Below.refl _ _)).1 (PQ4.out _ _ (Below.refl _ _)).2).mono ?_
    rintro e w5 ⟨rfl, b5⟩
    have b45 := btr (bnew _ _) b5
    have B5 := hid (btr B4.out b45)
    have x5 := bcl b45 x4
    have x5' := bcl b45 x4'
    have y5 := bcl b5 (cell_new w4 #[.slice (some ⟨g4, 0, none⟩) n n, .slice (some ⟨h4, 0, none⟩) m m] 42 0)
    have y5' := bcl b5 (cell_new w4 #[.slice (some ⟨g4, 0, none⟩) n n, .slice (some ⟨h4, 0, none⟩) m m] 42 1)
    have PQ5 := hid (PQ4.out _ _ b5)
    clear x4 x4' PQ4 b5 b45
    go_wp2_with fail
    have kx : ∀ w', Below w5.heap.size w5 w' → w'.cell? ⟨w.heap.size, 0, none⟩ = some (.slice A n c) := fun w' h => bcl h x5
    have kx' : ∀ w', Below w5.heap.size w5 w' → w'.cell? ⟨w.heap.size, 1, none⟩ = some (.slice B m e) := fun w' h => bcl h x5'
    have ky : ∀ w', Below w5.heap.size w5 w' → w'.cell? ⟨w4.heap.size, 0, none⟩ = some (.slice (some ⟨g4, 0, none⟩) n n) := fun w' h => bcl h y5
    have ky' : ∀ w', Below w5.heap.size w5 w' → w'.cell? ⟨w4.heap.size, 1, none⟩ = some (.slice (some ⟨h4, 0, none⟩) m m) := fun w' h => bcl h y5'
    go_region_held3 (fun w' => Below w5.heap.size w5 w') (first | assumption | exact (Below.refl _ _).drew) (first
      | (go_at_call 24; refine (toModel_any _ _ _ _ _ _ _ _ _ _ (HL.out _ (btr B5.out (bdr _))) (HR.out _ (btr B5.out (bdr _))) hn hm S3.out).mono ?_; rintro e w6 ⟨g6, h6, rfl, p6, q6, b6⟩; have b56 : Below w5.heap.size w5 w6 := btr (bdr _) b6)
      | (go_at_call 26; refine (eqModel_any _ _ _ _ _ _ _ _ _ _ _ _ _ _ _ _ _ _ _ (PQ5.out.1.bl (btr (bdr _) b6)) (PQ5.out.2.bl (btr (bdr _) b6)) p6 q6).mono ?_; rintro e w7 ⟨rfl, b7⟩; have b57 : Below w5.heap.size w5 w7 := btr (btr (bdr _) b6) b7))
    simp only [eqD_self, Bool.and_self, Bool.not_true]
    go_wp2_with fail
    go_ret
    exact ⟨rfl, btr B5.out b57⟩
end Go.Proofs.Ytldhnljlhbbobaa
