/- The law FnExactReadingWeight returns true for all arguments that can be read. -/
import Derived.Test.YteccacnojmilcaaWeigh3
import Derived.Test.YteccacnojmilcaaLawExactModelValid
namespace Go.Proofs.Yteccacnojmilcaa
open Go.RowKit
theorem szI_ub {n : Nat} {l : Int} (h : 0 ≤ l) : szI n l ≤ l := by unfold szI; split <;> omega
theorem szGo_ub : ∀ (ns : List Nat) (l : Int), 0 ≤ l → szGo ns l ≤ l
  | [], l, _ => by simp [szGo]
  | m :: r, l, h => by
    rw [szGo]
    by_cases hs : szI m l < 0
    · rw [if_pos hs]; omega
    · rw [if_neg hs]
      have := szI_ub (n := m) h
      have := szGo_ub r (szI m l) (by omega)
      omega
theorem szRows_ub {rows : List (List Int)} {l : Int} (h : 0 ≤ l) : szRows rows l ≤ l := by
  unfold szRows
  split
  · omega
  · have := szGo_ub (rows.map List.length) (l - rows.length) (by omega)
    omega
theorem szModelN_ub {l : List Int} {r : List (List Int)} {left : Int} (h : 0 ≤ left) : szModelN l r left ≤ left := by
  unfold szModelN
  split
  · omega
  · rename_i h1
    split
    · omega
    · have := szI_ub (n := l.length) h
      have := szRows_ub (rows := r) (l := szI l.length left) (by omega)
      omega
set_option maxRecDepth 100000 in
set_option maxHeartbeats 2000000 in
theorem lawExactReadingWeight (A : Option Addr) (n c : Nat) (l : List Int) (B : Option Addr) (m e0 : Nat) (r : List (List Int)) (C : Option Addr) (q d : Nat) (page : List (List Int)) (D : Option Addr) (k0 d0 : Nat) (xs : List Int) (w : World)
    (hl : Rd intS 0 w.heap.size w A n l) (hr : Rd (sliceS intS) 0 w.heap.size w B m r) (hp : Rd (sliceS intS) 0 w.heap.size w C q page) (hx : Rd intS 0 w.heap.size w D k0 xs) :
    Calls Try.prog 7 #[.agg #[.slice A n c, .slice B m e0], .slice C q d, .slice D k0 d0] w fun e w' => e = .returned (.bool true) ∧ Below w.heap.size w w' := by
  have hk63 := hx.2.1
  have b0 := bnew w (.cells #[.slice A n c, .slice B m e0] 39)
  have c0 := heap_alloc_new w (.cells #[.slice A n c, .slice B m e0] 39)
  have z0 : (w.alloc (.cells #[.slice A n c, .slice B m e0] 39)).heap.size = w.heap.size + 1 := by simp
  have L := hid hl
  have R := hid hr
  have P := hid hp
  have X := hid hx
  have B0 := hid b0
  have C0 := hid c0
  have Z0 := hid z0
  have hnl := hid hl.1
  have hmr := hid hr.1
  have hqp := hid hp.1
  clear hl hr hp hx b0 c0 z0
  by_cases hk : k0 ≤ 1048576
  case neg =>
    have h1 : (1048576 : Int) < (k0 : Int) := by omega
    go_enter Try.func7, Try.ntmps7
    go_wp2_with fail
    go_ret
    exact ⟨rfl, B0.out⟩
  case pos =>
  have h1 : ¬ (1048576 : Int) < (k0 : Int) := by omega
  go_enter Try.func7, Try.ntmps7
  go_wp2_with fail
  refine (szModel_any _ _ _ _ _ _ _ _ _ _ _ (L.out.bl B0.out) (R.out.bl B0.out) (by omega) (by omega)).mono ?_
  rintro e w1 ⟨rfl, hb1⟩
  have B1 := hid (btr B0.out hb1)
  have cc := (hb1.block w.heap.size (by rw [Z0.out]; omega)).trans C0.out
  have hz1 := hb1.size
  rw [Z0.out] at hz1
  have CC := hid cc
  obtain ⟨k1, k2, _, _⟩ := at_get' cc
  clear hb1 cc
  obtain ⟨s, hs⟩ : ∃ s, szModelN l r 1048576 = s := ⟨_, rfl⟩
  have sub := szModelN_ub (l := l) (r := r) (left := 1048576) (by omega)
  rw [hs] at sub ⊢
  by_cases hs0 : s < 0
  case pos =>
    go_wp2_with fail
    go_ret
    exact ⟨rfl, B1.out⟩
  case neg =>
  obtain ⟨s1, s2, s3⟩ := szModelN_le (l := l) (r := r) (left := 1048576) (by omega) (by omega)
  have hn : n ≤ 1048576 := by have := hnl.out; omega
  have hm : m ≤ 1048576 := by have := hmr.out; omega
  have S3 := hid (show ∀ x ∈ r, x.length ≤ 1048576 from fun x hx => by have := s3 x hx; omega)
  clear s1 s2 s3 hs
  go_wp2_with fail
  refine (szIntSS_any _ _ _ _ _ _ _ (P.out.bl B1.out) (by omega) sub).mono ?_
  rintro e w' ⟨rfl, rfl⟩
  obtain ⟨t, ht⟩ : ∃ t, szRows page s = t := ⟨_, rfl⟩
  have HTT := hid ht
  rw [ht]
  by_cases ht0 : t < 0
  case pos =>
    clear ht
    go_wp2_with fail
    go_ret
    exact ⟨rfl, B1.out⟩
  case neg =>
  obtain ⟨s1, s2⟩ := szRows_le (rows := page) (l := s) (by omega) (by omega)
  have hq : q ≤ 1048576 := by have := hqp.out; omega
  have S4 := hid (show ∀ x ∈ page, x.length ≤ 1048576 from fun x hx => by have := s2 x hx; omega)
  clear s1 s2 ht
  go_wp2_with fail
  refine (toModel_any _ _ _ _ _ _ _ _ _ _ (L.out.bl B1.out) (R.out.bl B1.out) hn hm S3.out).mono ?_
  rintro e w2 ⟨g2, h2, rfl, p2, q2, b2⟩
  have B2 := hid (btr B1.out b2)
  have k12 := bcl b2 k1
  have k22 := bcl b2 k2
  have M2 := hid (And.intro p2 q2)
  clear p2 q2 b2 k1 k2
  go_wp2_with fail
  refine (toIntSS_any _ _ _ _ _ _ (P.out.bl B2.out) hq S4.out).mono ?_
  rintro e w3 ⟨g3, rfl, r3, b3⟩
  have B3 := hid (btr B2.out b3)
  have k13 := bcl b3 k12
  have k23 := bcl b3 k22
  have M3 := hid (And.intro (M2.out.1.bl b3) (M2.out.2.bl b3))
  have PP3 := hid (r3.wide (lo' := 0) (Nat.zero_le _) (Nat.le_refl _))
  clear b3 k12 k22 r3
  go_wp2_with fail
  refine (toIntS_any _ _ _ _ _ _ (X.out.bl B3.out) hk).mono ?_
  rintro e w4 ⟨g4, rfl, r4, b4⟩
  have B4 := hid (btr B3.out b4)
  have k14 := bcl b4 k13
  have k24 := bcl b4 k23
  have M4 := hid (And.intro ((M3.out.1.bl b4).wide (lo' := 0) (Nat.zero_le _) (Nat.le_refl _)) ((M3.out.2.bl b4).wide (lo' := 0) (Nat.zero_le _) (Nat.le_refl _)))
  have PP4 := hid (PP3.out.bl b4)
  have XX4 := hid (r4.wide (lo' := 0) (Nat.zero_le _) (Nat.le_refl _))
  clear b4 k13 k23 r4
  go_wp2_with fail
  refine (specReadingWeight_any _ _ _ _ _ _ _ _ _ _ _ _ _ _ _ _ _ _ M4.out.1 M4.out.2 PP4.out XX4.out).mono ?_
  rintro e w5 ⟨rfl, b5⟩
  have B5 := hid (btr B4.out b5)
  have k15 := bcl b5 k14
  have k25 := bcl b5 k24
  clear b5 k14 k24
  obtain ⟨V, hV⟩ : ∃ V, weightOf l r page xs = V := ⟨_, rfl⟩
  rw [hV]
  have HV := hid hV
  clear hV
  go_wp2_with fail
  refine (toModel_any _ _ _ _ _ _ _ _ _ _ (L.out.bl B5.out) (R.out.bl B5.out) hn hm S3.out).mono ?_
  rintro e w6 ⟨g6, h6, rfl, p6, q6, b6⟩
  have B6 := hid (btr B5.out b6)
  have k16 := bcl b6 k15
  have k26 := bcl b6 k25
  have b67 := bnew w6 (.cells #[.slice (some ⟨g6, 0, none⟩) n n, .slice (some ⟨h6, 0, none⟩) m m] 41)
  have c7 := heap_alloc_new w6 (.cells #[.slice (some ⟨g6, 0, none⟩) n n, .slice (some ⟨h6, 0, none⟩) m m] 41)
  have z7 : (w6.alloc (.cells #[.slice (some ⟨g6, 0, none⟩) n n, .slice (some ⟨h6, 0, none⟩) m m] 41)).heap.size = w6.heap.size + 1 := by simp
  have M6 := hid (And.intro ((p6.bl b67).wide (lo' := 0) (Nat.zero_le _) (Nat.le_refl _)) ((q6.bl b67).wide (lo' := 0) (Nat.zero_le _) (Nat.le_refl _)))
  clear b6 k15 k25 p6 q6
  go_wp2_with fail
  generalize w6.alloc (.cells #[.slice (some ⟨g6, 0, none⟩) n n, .slice (some ⟨h6, 0, none⟩) m m] 41) = w7 at *
  have B7 := hid (btr B6.out b67)
  have k17 := bcl b67 k16
  have k27 := bcl b67 k26
  have CM7 := hid (at_get' c7)
  have Z7 := hid z7
  clear b67 c7 k16 k26 z7
  refine (toIntSS_any _ _ _ _ _ _ (P.out.bl B7.out) hq S4.out).mono ?_
  rintro e w8 ⟨g8, rfl, r8, b8⟩
  have B8 := hid (btr B7.out b8)
  have k18 := bcl b8 k17
  have k28 := bcl b8 k27
  have j18 := bcl b8 CM7.out.1
  have j28 := bcl b8 CM7.out.2.1
  have M8 := hid (And.intro (M6.out.1.bl b8) (M6.out.2.bl b8))
  have PP8 := hid (r8.wide (lo' := 0) (Nat.zero_le _) (Nat.le_refl _))
  clear b8 k17 k27 r8
  go_wp2_with fail
  refine (toIntS_any _ _ _ _ _ _ (X.out.bl B8.out) hk).mono ?_
  rintro e w9 ⟨g9, rfl, r9, b9⟩
  have B9 := hid (btr B8.out b9)
  have k19 := bcl b9 k18
  have k29 := bcl b9 k28
  have j19 := bcl b9 j18
  have j29 := bcl b9 j28
  have M9 := hid (And.intro (M8.out.1.bl b9) (M8.out.2.bl b9))
  have PP9 := hid (PP8.out.bl b9)
  have XX9 := hid (r9.wide (lo' := 0) (Nat.zero_le _) (Nat.le_refl _))
  clear b9 k18 k28 j18 j28 r9
  go_wp2_with fail
  refine (implReadingWeight_any _ _ _ _ _ _ _ _ _ _ _ _ _ _ _ _ _ _ M9.out.1 M9.out.2 PP9.out XX9.out (Nat.le_refl _)).mono ?_
  rintro e w10 ⟨rfl, b10⟩
  rw [HV.out]
  have B10 := hid (btr B9.out b10)
  have k110 := bcl b10 k19
  have k210 := bcl b10 k29
  have j110 := bcl b10 j19
  have j210 := bcl b10 j29
  have M10 := hid (And.intro (M9.out.1.bl b10) (M9.out.2.bl b10))
  have PP10 := hid (PP9.out.bl b10)
  have XX10 := hid (XX9.out.bl b10)
  clear b10 k19 k29 j19 j29
  go_wp2_with fail
  have kx : ∀ w', Below w10.heap.size w10 w' → w'.cell? ⟨w.heap.size, 0, none⟩ = some (.slice A n c) := fun w' h => bcl h k110
  have kx' : ∀ w', Below w10.heap.size w10 w' → w'.cell? ⟨w.heap.size, 1, none⟩ = some (.slice B m e0) := fun w' h => bcl h k210
  have ky : ∀ w', Below w10.heap.size w10 w' → w'.cell? ⟨w6.heap.size, 0, none⟩ = some (.slice (some ⟨g6, 0, none⟩) n n) := fun w' h => bcl h j110
  have ky' : ∀ w', Below w10.heap.size w10 w' → w'.cell? ⟨w6.heap.size, 1, none⟩ = some (.slice (some ⟨h6, 0, none⟩) m m) := fun w' h => bcl h j210
  go_region_held3 (fun w' => Below w10.heap.size w10 w') (first | assumption | exact (Below.refl _ _).drew) (first
    | (go_at_call 23; refine (toModel_any _ _ _ _ _ _ _ _ _ _ (L.out.bl (btr B10.out (bdr _))) (R.out.bl (btr B10.out (bdr _))) hn hm S3.out).mono ?_; rintro e w11 ⟨g11, h11, rfl, p11, q11, b11⟩; have b1011 : Below w10.heap.size w10 w11 := btr (bdr _) b11)
    | (go_at_call 25; refine (eqModel_any _ _ _ _ _ _ _ _ _ _ _ _ _ _ _ _ _ _ _ (M10.out.1.bl (btr (bdr _) b11)) (M10.out.2.bl (btr (bdr _) b11)) p11 q11).mono ?_; rintro e w12 ⟨rfl, b12⟩; have b1012 : Below w10.heap.size w10 w12 := btr (btr (bdr _) b11) b12))
  simp only [eqD_self, Bool.and_self, Bool.not_true]
  have B12 := hid (btr B10.out b1012)
  have PP12 := hid (PP10.out.bl b1012)
  have XX12 := hid (XX10.out.bl b1012)
  clear kx kx' ky ky' k110 k210 j110 j210 b11 b12 b1011 b1012 p11 q11
  go_wp2_with fail
  refine (toIntSS_any _ _ _ _ _ _ (P.out.bl B12.out) hq S4.out).mono ?_
  rintro e w13 ⟨g13, rfl, r13, b13⟩
  have B13 := hid (btr B12.out b13)
  have PP13 := hid (PP12.out.bl b13)
  have XX13 := hid (XX12.out.bl b13)
  have RR13 := hid r13
  clear b13 r13
  go_wp2_with fail
  refine (eqIntSS_any _ _ _ _ _ _ _ _ _ _ _ PP13.out RR13.out).mono ?_
  rintro e w14 ⟨rfl, b14⟩
  rw [eqD_self]
  have B14 := hid (btr B13.out b14)
  have XX14 := hid (XX13.out.bl b14)
  clear b14
  go_wp2_with fail
  refine (toIntS_any _ _ _ _ _ _ (X.out.bl B14.out) hk).mono ?_
  rintro e w15 ⟨g15, rfl, r15, b15⟩
  have B15 := hid (btr B14.out b15)
  have XX15 := hid (XX14.out.bl b15)
  have RR15 := hid r15
  clear b15 r15
  go_wp2_with fail
  refine (eqIntS_any _ _ _ _ _ _ _ _ _ _ _ XX15.out RR15.out).mono ?_
  rintro e w16 ⟨rfl, b16⟩
  rw [eqD_self]
  have B16 := hid (btr B15.out b16)
  clear b16
  go_wp2_with fail
  go_ret
  exact ⟨rfl, B16.out⟩
end Go.Proofs.Yteccacnojmilcaa
