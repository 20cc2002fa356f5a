/- The law FnExactReadingsMany returns true for all arguments that can be read. -/
import Derived.Test.YtoincfpffioioaaManySpec
import Derived.Test.YtoincfpffioioaaSzUb
import Derived.Test.YtoincfpffioioaaLawExactModelValid
import Derived.Deep.RegionHeld3
namespace Go.Proofs.Ytoincfpffioioaa
open Go.RowKit
set_option maxRecDepth 100000 in
set_option maxHeartbeats 2000000 in
theorem lawExactReadingsMany (A : Option Addr) (n c : Nat) (l : List Int) (B : Option Addr) (m e0 : Nat) (r : List (List Int)) (C : Option Addr) (q d : Nat) (page : List (List Int)) (w : World)
    (hl : Rd intS 0 w.heap.size w A n l) (hr : Rd (sliceS intS) 0 w.heap.size w B m r) (hp : Rd (sliceS intS) 0 w.heap.size w C q page) :
    Calls Try.prog 3 #[.agg #[.slice A n c, .slice B m e0], .slice C q d] w fun e w' => e = .returned (.bool true) ∧ Below w.heap.size w w' := by
  have b0 := bnew w (.cells #[.slice A n c, .slice B m e0] 25)
  have c0 := heap_alloc_new w (.cells #[.slice A n c, .slice B m e0] 25)
  have z0 : (w.alloc (.cells #[.slice A n c, .slice B m e0] 25)).heap.size = w.heap.size + 1 := by simp
  have L := hid hl
  have R := hid hr
  have P := hid hp
  have B0 := hid b0
  have C0 := hid c0
  have Z0 := hid z0
  have hnl := hid hl.1
  have hmr := hid hr.1
  have hqp := hid hp.1
  clear hl hr hp b0 c0 z0
  go_enter Try.func3, Try.ntmps3
  go_wp2_with fail
  refine (szModel_any _ _ _ _ _ _ _ _ _ _ _ (L.out.bl B0.out) (R.out.bl B0.out) (by omega) (by omega)).mono ?_
  rintro e w1 ⟨rfl, hb1⟩
  have B1 := hid (btr B0.out hb1)
  have cc := (hb1.block w.heap.size (by rw [Z0.out]; omega)).trans C0.out
  have hz1 := hb1.size
  rw [Z0.out] at hz1
  have CC := hid cc
  obtain ⟨k1, k2, _, _⟩ := at_get' cc
  clear hb1 cc
  obtain ⟨s, hs⟩ : ∃ s, szModelN l r 1048576 = s := ⟨_, rfl⟩
  have sub := szModelN_ub (l := l) (r := r) (left := 1048576) (by omega)
  rw [hs] at sub ⊢
  by_cases hs0 : s < 0
  case pos =>
    go_wp2_with fail
    go_ret
    exact ⟨rfl, B1.out⟩
  case neg =>
  obtain ⟨s1, s2, s3⟩ := szModelN_le (l := l) (r := r) (left := 1048576) (by omega) (by omega)
  have hn : n ≤ 1048576 := by have := hnl.out; omega
  have hm : m ≤ 1048576 := by have := hmr.out; omega
  have S3 := hid (show ∀ x ∈ r, x.length ≤ 1048576 from fun x hx => by have := s3 x hx; omega)
  clear s1 s2 s3 hs
  go_wp2_with fail
  refine (szIntSS_any _ _ _ _ _ _ _ (P.out.bl B1.out) (by omega) sub).mono ?_
  rintro e w' ⟨rfl, rfl⟩
  obtain ⟨t, ht⟩ : ∃ t, szRows page s = t := ⟨_, rfl⟩
  have HTT := hid ht
  rw [ht]
  by_cases ht0 : t < 0
  case pos =>
    clear ht
    go_wp2_with fail
    go_ret
    exact ⟨rfl, B1.out⟩
  case neg =>
  obtain ⟨s1, s2⟩ := szRows_le (rows := page) (l := s) (by omega) (by omega)
  have hq : q ≤ 1048576 := by have := hqp.out; omega
  have S4 := hid (show ∀ x ∈ page, x.length ≤ 1048576 from fun x hx => by have := s2 x hx; omega)
  clear s1 s2 ht
  go_wp2_with fail
  refine (toModel_any _ _ _ _ _ _ _ _ _ _ (L.out.bl B1.out) (R.out.bl B1.out) hn hm S3.out).mono ?_
  rintro e w2 ⟨g2, h2, rfl, p2, q2, b2⟩
  have B2 := hid (btr B1.out b2)
  have k12 := bcl b2 k1
  have k22 := bcl b2 k2
  have M2 := hid (And.intro p2 q2)
  clear p2 q2 b2 k1 k2
  go_wp2_with fail
  refine (toIntSS_any _ _ _ _ _ _ (P.out.bl B2.out) hq S4.out).mono ?_
  rintro e w3 ⟨g3, rfl, r3, b3⟩
  have B3 := hid (btr B2.out b3)
  have k13 := bcl b3 k12
  have k23 := bcl b3 k22
  have M3 := hid (And.intro (M2.out.1.bl b3) (M2.out.2.bl b3))
  have PP3 := hid (r3.wide (lo' := 0) (Nat.zero_le _) (Nat.le_refl _))
  clear b3 k12 k22 r3
  go_wp2_with fail
  refine (specReadingsMany_any _ _ _ _ _ _ _ _ _ 0 _ _ _ _ (M3.out.1.wide (Nat.zero_le _) (Nat.le_refl _)) (M3.out.2.wide (Nat.zero_le _) (Nat.le_refl _)) PP3.out).mono ?_
  rintro e w5 ⟨rfl, b5⟩
  have B5 := hid (btr B3.out b5)
  have k15 := bcl b5 k13
  have k25 := bcl b5 k23
  clear b5 k13 k23
  obtain ⟨V, hV⟩ : ∃ V, manyV l r page = V := ⟨_, rfl⟩
  rw [hV]
  have HV := hid hV
  clear hV
  go_wp2_with fail
  refine (toModel_any _ _ _ _ _ _ _ _ _ _ (L.out.bl B5.out) (R.out.bl B5.out) hn hm S3.out).mono ?_
  rintro e w6 ⟨g6, h6, rfl, p6, q6, b6⟩
  have B6 := hid (btr B5.out b6)
  have k16 := bcl b6 k15
  have k26 := bcl b6 k25
  have b67 := bnew w6 (.cells #[.slice (some ⟨g6, 0, none⟩) n n, .slice (some ⟨h6, 0, none⟩) m m] 29)
  have c7 := heap_alloc_new w6 (.cells #[.slice (some ⟨g6, 0, none⟩) n n, .slice (some ⟨h6, 0, none⟩) m m] 29)
  have z7 : (w6.alloc (.cells #[.slice (some ⟨g6, 0, none⟩) n n, .slice (some ⟨h6, 0, none⟩) m m] 29)).heap.size = w6.heap.size + 1 := by simp
  have M6 := hid (And.intro ((p6.bl b67).wide (lo' := 0) (Nat.zero_le _) (Nat.le_refl _)) ((q6.bl b67).wide (lo' := 0) (Nat.zero_le _) (Nat.le_refl _)))
  clear b6 k15 k25 p6 q6
  go_wp2_with fail
  generalize w6.alloc (.cells #[.slice (some ⟨g6, 0, none⟩) n n, .slice (some ⟨h6, 0, none⟩) m m] 29) = w7 at *
  have B7 := hid (btr B6.out b67)
  have k17 := bcl b67 k16
  have k27 := bcl b67 k26
  have CM7 := hid (at_get' c7)
  have Z7 := hid z7
  clear b67 c7 k16 k26 z7
  refine (toIntSS_any _ _ _ _ _ _ (P.out.bl B7.out) hq S4.out).mono ?_
  rintro e w8 ⟨g8, rfl, r8, b8⟩
  have B8 := hid (btr B7.out b8)
  have k18 := bcl b8 k17
  have k28 := bcl b8 k27
  have j18 := bcl b8 CM7.out.1
  have j28 := bcl b8 CM7.out.2.1
  have M8 := hid (And.intro (M6.out.1.bl b8) (M6.out.2.bl b8))
  have PP8 := hid (r8.wide (lo' := 0) (Nat.zero_le _) (Nat.le_refl _))
  clear b8 k17 k27 r8
  go_wp2_with fail
  refine (implReadingsMany_any _ _ _ _ _ _ _ _ _ 0 _ _ _ _ M8.out.1 M8.out.2 PP8.out).mono ?_
  rintro e w10 ⟨rfl, b10⟩
  rw [HV.out]
  have B10 := hid (btr B8.out b10)
  have k110 := bcl b10 k18
  have k210 := bcl b10 k28
  have j110 := bcl b10 j18
  have j210 := bcl b10 j28
  have M10 := hid (And.intro (M8.out.1.bl b10) (M8.out.2.bl b10))
  have PP10 := hid (PP8.out.bl b10)
  clear b10 k18 k28 j18 j28
  go_wp2_with fail
  have kx : ∀ w', Below w10.heap.size w10 w' → w'.cell? ⟨w.heap.size, 0, none⟩ = some (.slice A n c) := fun w' h => bcl h k110
  have kx' : ∀ w', Below w10.heap.size w10 w' → w'.cell? ⟨w.heap.size, 1, none⟩ = some (.slice B m e0) := fun w' h => bcl h k210
  have ky : ∀ w', Below w10.heap.size w10 w' → w'.cell? ⟨w6.heap.size, 0, none⟩ = some (.slice (some ⟨g6, 0, none⟩) n n) := fun w' h => bcl h j110
  have ky' : ∀ w', Below w10.heap.size w10 w' → w'.cell? ⟨w6.heap.size, 1, none⟩ = some (.slice (some ⟨h6, 0, none⟩) m m) := fun w' h => bcl h j210
  go_region_held3 (fun w' => Below w10.heap.size w10 w') (first | assumption | exact (Below.refl _ _).drew) (first
    | (go_at_call 13; refine (toModel_any _ _ _ _ _ _ _ _ _ _ (L.out.bl (btr B10.out (bdr _))) (R.out.bl (btr B10.out (bdr _))) hn hm S3.out).mono ?_; rintro e w11 ⟨g11, h11, rfl, p11, q11, b11⟩; have b1011 : Below w10.heap.size w10 w11 := btr (bdr _) b11)
    | (go_at_call 16; refine (eqModel_any _ _ _ _ _ _ _ _ _ _ _ _ _ _ _ _ _ _ _ (M10.out.1.bl (btr (bdr _) b11)) (M10.out.2.bl (btr (bdr _) b11)) p11 q11).mono ?_; rintro e w12 ⟨rfl, b12⟩; have b1012 : Below w10.heap.size w10 w12 := btr (btr (bdr _) b11) b12))
  simp only [eqD_self, Bool.and_self, Bool.not_true]
  have B12 := hid (btr B10.out b1012)
  have PP12 := hid (PP10.out.bl b1012)
  clear kx kx' ky ky' k110 k210 j110 j210 b11 b12 b1011 b1012 p11 q11
  go_wp2_with fail
  refine (toIntSS_any _ _ _ _ _ _ (P.out.bl B12.out) hq S4.out).mono ?_
  rintro e w13 ⟨g13, rfl, r13, b13⟩
  have B13 := hid (btr B12.out b13)
  have PP13 := hid (PP12.out.bl b13)
  have RR13 := hid r13
  clear b13 r13
  go_wp2_with fail
  refine (eqIntSS_any _ _ _ _ _ _ _ _ _ _ _ PP13.out RR13.out).mono ?_
  rintro e w14 ⟨rfl, b14⟩
  rw [eqD_self]
  have B14 := hid (btr B13.out b14)
  clear b14
  go_wp2_with fail
  go_ret
  exact ⟨rfl, B14.out⟩
end Go.Proofs.Ytoincfpffioioaa
