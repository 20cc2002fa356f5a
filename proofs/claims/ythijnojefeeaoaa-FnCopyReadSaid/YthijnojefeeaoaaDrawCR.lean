/- Copies as they are drawn. -/
import Derived.Test.YthijnojefeeaoaaDrawT
namespace Go.Proofs.Ythijnojefeeaoaa
open Go.RowKit
attribute [local go_sem] Oper.semAt_some
set_option maxRecDepth 100000 in
set_option maxHeartbeats 1000000 in
theorem DrawCopyRead_any (A0 : Option Addr) (n0 c0 : Nat) (l0 : List UInt8) (w : World) (hnc : n0 ≤ c0) (hx : Rd byteS 0 w.heap.size w A0 n0 l0) :
    Calls Try.prog 47 #[.slice A0 n0 c0] w fun e w' => ∃ A n c bs B m d ts, e = .returned (.tuple #[.slice A n c, .slice B m d]) ∧ (n ≤ c ∧ n ≤ 6 ∧ ∀ b ∈ bs, smallB b) ∧ (m ≤ d ∧ m ≤ 8 ∧ d ≤ 9223372036854775807 ∧ ∀ s ∈ ts, s.size ≤ 10) ∧ Rd briefS 0 w'.heap.size w' A n bs ∧ Rd strS 0 w'.heap.size w' B m ts ∧ Below w.heap.size w w' := by
  obtain ⟨i0, hi1, hz0, hz1, hz2⟩ := info_parts (show (Try.prog.info? 9).map (fun i => (i.zero, i.size, i.bytes)) = some (some (.string ByteArray.empty), 1, 16) by kernel_rfl)
  have HI := hid (And.intro hi1 (And.intro hz0 (And.intro hz1 hz2)))
  clear hi1 hz0 hz1 hz2
  have HX := hid hx
  clear hx
  go_enter Try.func47, Try.ntmps47
  go_wp2_with fail
  refine (l6Open_any A0 n0 c0 l0 w hnc HX.out).mono ?_
  rintro e w1 ⟨rfl, hr1, hb1, hs1⟩
  have HB1 := hid hb1
  have HT := hid (l91Briefs_any w.heap.size 0 w1 hr1 (by omega))
  clear hb1 hr1
  go_wp2_with fail
  refine HT.out.mono ?_
  rintro e w2 ⟨A, c, bs, p', rfl, hnc2, hrd, ⟨hb6, hp', hsm⟩, hr2, hc2⟩
  have hz2 := hc2.size
  have HRD := hid hrd
  have HSM := hid hsm
  have HC2 := hid hc2
  have HR := hid (hr2.chgR (bnew w2 (.cells #[] 9)))
  have HOL := hid (OwnR.nil (S := strS) (e := 9) (base := w2.heap.size) (w := w2) (Nat.le_refl _) #[] rfl)
  have HC0 := hid (chg_new w2 (.cells #[] 9) (fun k => k = w.heap.size))
  obtain ⟨n, hn⟩ : ∃ n, bs.length = n := ⟨_, rfl⟩
  rw [hn] at hnc2 HRD hb6 ⊢
  have HN := hid hn
  clear hrd hsm hr2 hc2 HT hn
  go_wp2_with fail
  refine (pick_any _ _ p' 7 HR.out (by omega) (by omega) (by omega)).mono ?_
  rintro e w3 ⟨v, rfl, hv0, hv1, hr3, hc3⟩
  obtain ⟨N, rfl⟩ := Int.eq_ofNat_of_zero_le hv0
  have hN : N ≤ 6 := by have := hv1 (by omega); omega
  have HR3 := hid hr3
  have HO3 := hid (HOL.out.chg hc3 (fun k hk => by omega))
  have HC3 := hid (HC0.out.trans hc3)
  have hz3 := hc3.size
  rw [World.size_alloc] at hz3
  clear hv0 hv1 hr3 hc3 HR HOL HC0
  go_wp2_with fail
  go_loopg [6, 8] N (fun gk l6 i wr => ∃ (k : Nat) (A6 : Option Addr) (c6 : Nat) (l : List ByteArray) (q : Nat), k + gk = N ∧ i = .int .i64 k ∧ l6 = .slice A6 l.length c6 ∧ OwnR strS w2.heap.size wr 9 (.slice A6 l.length c6) l ∧ l.length = k ∧ (q ≤ p' + 1 + 3 * k ∧ ∀ s ∈ l, s.size ≤ 10) ∧ Rdr w.heap.size wr q ∧ Chg (fun k => k = w.heap.size) w2 wr)
  case atStart => exact ⟨0, _, _, [], p' + 1, Nat.zero_add _, rfl, rfl, HO3.out, rfl, ⟨Nat.le_refl _, fun s hs => by cases hs⟩, HR3.out, HC3.out⟩
  case round =>
    clear HO3 HR3 HC3
    obtain ⟨k, A6, c6, l, q, hkg, rfl, rfl, hO, hll, hq, hr, hc⟩ := hrel
    have HKG := hid hkg
    have HO := hid hO
    have HLL := hid hll
    have HQ := hid hq
    have HRR := hid hr
    have HC := hid hc
    have hk : k ≤ N := by omega
    have hq1 := hq.1
    have hwz := hc.size
    have hl8 : l.length ≤ 8 := by omega
    clear hkg hO hll hq hr hc
    by_cases hlt : k < N
    · have hki : (k : Int) < (N : Int) := by omega
      have hno : ∀ (q2 : Nat) (W : World), Chg (fun k => k = w.heap.size) wr W → Rdr w.heap.size W q2 → q2 ≤ q + 1 → Calls Try.prog 76 #[.pointer (some ⟨w.heap.size, 0, none⟩), .slice (some ⟨W.heap.size, 0, none⟩) 4 4] (W.alloc (.cells #[.string ⟨#[119, 101]⟩, .string ⟨#[97, 114, 101]⟩, .string ⟨#[110, 111, 116]⟩, .string ⟨#[104, 101, 114, 101]⟩] 9)) fun e w' => ∃ s : ByteArray, s.size ≤ 10 ∧ e = .returned (.string s) ∧ Rdr w.heap.size w' (q2 + 1) ∧ Chg (fun k => k = w.heap.size) W w' := fun q2 W hcW hrW hq2 => by
        have bl := bnew W (.cells #[.string ⟨#[119, 101]⟩, .string ⟨#[97, 114, 101]⟩, .string ⟨#[110, 111, 116]⟩, .string ⟨#[104, 101, 114, 101]⟩] 9)
        have nl := heap_alloc_new W (.cells #[.string ⟨#[119, 101]⟩, .string ⟨#[97, 114, 101]⟩, .string ⟨#[110, 111, 116]⟩, .string ⟨#[104, 101, 114, 101]⟩] 9)
        have hlit := lit_rd (l := [⟨#[119, 101]⟩, ⟨#[97, 114, 101]⟩, ⟨#[110, 111, 116]⟩, ⟨#[104, 101, 114, 101]⟩]) nl rfl (by decide) (by decide)
        have hzW := hcW.size
        refine (of_any w.heap.size W.heap.size 4 q2 _ _ (hrW.chgR bl) (by omega) hlit (by omega) (by omega) (by omega)).mono ?_
        rintro e w' ⟨s, hsm, rfl, h1, h2⟩
        exact ⟨s, by revert s; decide, rfl, h1, (chgW bl).trans h2⟩
      have HNO := hid hno
      clear hno
      by_cases hn0 : n = 0
      · have hni : ¬ (0 : Int) < (n : Int) := by omega
        clear hn0
        go_wp2_with fail
        refine (HNO.out q wr (Chg.refl _ _) HRR.out (by omega)).mono ?_
        rintro e w4 ⟨s, hs10, rfl, hr4, hc4⟩
        have HR4 := hid hr4
        have HO4 := hid (HO.out.chg hc4 (fun j hj => by omega))
        have HC4 := hid (HC.out.trans hc4)
        have hz4 := hc4.size
        clear hr4 hc4 HNO
        go_wp2_with (at_builtin; refine wpList_append_R rfl (.tmp 40) (.tmp 44) _ rfl strS Try.underlying24 HI.out rfl (by decide) rfl (HO4.out.al _) (y := s) rfl (heap_alloc_new _ _) rfl (by simp [Value.oneCell']) ⟨rfl, by omega⟩ (by omega) (by omega) (by simp; omega) ?_; intro A7 c7 w5 hO5 hb5)
        have hb6 := ((bnew w4 (.cells #[.string s] 9)).mono (B' := w2.heap.size) (by omega)).trans hb5
        go_roundg (gk - 1)
        case measure => have := HKG.out; omega
        case rel =>
          refine ⟨k + 1, A7, c7, l ++ [s], q + 1, by have := HKG.out; omega, by go_num, by rw [List.length_append]; rfl, by rw [List.length_append]; exact hO5, by rw [List.length_append, HLL.out]; rfl, ⟨by omega, fun t ht => ?_⟩, HR4.out.low hb6 (by omega), chg_hi HC4.out (bel_chg hb6) (fun j e => e)⟩
          rcases List.mem_append.1 ht with ht | ht
          · exact HQ.out.2 t ht
          · rw [List.mem_singleton] at ht
            rw [ht]
            exact hs10
      · have hni : (0 : Int) < (n : Int) := by omega
        go_wp2_with fail
        refine (pick_any _ _ q 2 HRR.out (by omega) (by omega) (by omega)).mono ?_
        rintro e w4 ⟨v, rfl, hv0, hv1, hr4, hc4⟩
        have HR4 := hid hr4
        have HO4 := hid (HO.out.chg hc4 (fun j hj => by omega))
        have HC4 := hid hc4
        have hz4 := hc4.size
        clear hr4 hc4 hv1
        by_cases h0 : v = 0
        · subst h0
          clear HNO
          go_wp2_with fail
          refine (pick_any _ _ (q + 1) n HR4.out (by omega) (by omega) (by omega)).mono ?_
          rintro e w5 ⟨v, rfl, hv0, hv1, hr5, hc5⟩
          obtain ⟨z, rfl⟩ := Int.eq_ofNat_of_zero_le hv0
          have hzn : z < n := by have := hv1 (by omega); omega
          have hzi : (z : Int) < (n : Int) := by omega
          have HR5 := hid hr5
          have HO5 := hid (HO4.out.chg hc5 (fun j hj => by omega))
          have HC5 := hid (HC.out.trans (HC4.out.trans hc5))
          have hz5 := hc5.size
          obtain ⟨bA, oA, rfl, hlo, hbA, hcA⟩ := HRD.out.2.2 (by omega)
          obtain ⟨_, _, x0, _, _, _, _⟩ := hcA.brief hzn
          have x1 := HC5.out.cell (by omega) x0
          have hms := (HSM.out _ (gt_mem (l := bs) (k := z) (by rw [HN.out]; exact hzn))).1
          obtain ⟨s, hs⟩ : ∃ s, (gt bs z).1 = s := ⟨_, rfl⟩
          rw [hs] at x1 hms
          clear hr5 hc5 hv1 hcA x0 hs hv0
          go_wp2_with (at_builtin; refine wpList_append_R rfl (.tmp 29) (.tmp 38) _ rfl strS Try.underlying24 HI.out rfl (by decide) rfl (HO5.out.al _) (y := s) rfl (heap_alloc_new _ _) rfl (by simp [Value.oneCell']) ⟨rfl, by omega⟩ (by omega) (by omega) (by simp; omega) ?_; intro A7 c7 w6 hO6 hb6)
          have hb7 := ((bnew w5 (.cells #[.string s] 9)).mono (B' := w2.heap.size) (by omega)).trans hb6
          go_roundg (gk - 1)
          case measure => have := HKG.out; omega
          case rel =>
            refine ⟨k + 1, A7, c7, l ++ [s], q + 2, by have := HKG.out; omega, by go_num, by rw [List.length_append]; rfl, by rw [List.length_append]; exact hO6, by rw [List.length_append, HLL.out]; rfl, ⟨by omega, fun t ht => ?_⟩, HR5.out.low hb7 (by omega), chg_hi HC5.out (bel_chg hb7) (fun j e => e)⟩
            rcases List.mem_append.1 ht with ht | ht
            · exact HQ.out.2 t ht
            · rw [List.mem_singleton] at ht
              rw [ht]
              exact hms
        · go_wp2_with fail
          refine (HNO.out (q + 1) _ HC4.out HR4.out (by omega)).mono ?_
          rintro e w5 ⟨s, hs10, rfl, hr5, hc5⟩
          have HR5 := hid hr5
          have HO5 := hid (HO4.out.chg hc5 (fun j hj => by omega))
          have HC5 := hid (HC.out.trans (HC4.out.trans hc5))
          have hz5 := hc5.size
          clear hr5 hc5 HNO
          go_wp2_with (at_builtin; refine wpList_append_R rfl (.tmp 40) (.tmp 44) _ rfl strS Try.underlying24 HI.out rfl (by decide) rfl (HO5.out.al _) (y := s) rfl (heap_alloc_new _ _) rfl (by simp [Value.oneCell']) ⟨rfl, by omega⟩ (by omega) (by omega) (by simp; omega) ?_; intro A7 c7 w6 hO6 hb6)
          have hb7 := ((bnew w5 (.cells #[.string s] 9)).mono (B' := w2.heap.size) (by omega)).trans hb6
          go_roundg (gk - 1)
          case measure => have := HKG.out; omega
          case rel =>
            refine ⟨k + 1, A7, c7, l ++ [s], q + 2, by have := HKG.out; omega, by go_num, by rw [List.length_append]; rfl, by rw [List.length_append]; exact hO6, by rw [List.length_append, HLL.out]; rfl, ⟨by omega, fun t ht => ?_⟩, HR5.out.low hb7 (by omega), chg_hi HC5.out (bel_chg hb7) (fun j e => e)⟩
            rcases List.mem_append.1 ht with ht | ht
            · exact HQ.out.2 t ht
            · rw [List.mem_singleton] at ht
              rw [ht]
              exact hs10
    · obtain rfl : k = N := by omega
      go_wp2_with fail
      refine (pick_any _ _ q 16 HRR.out (by omega) (by omega) (by omega)).mono ?_
      rintro e w5 ⟨v, rfl, hv0, hv1, hr5, hc5⟩
      have HR5 := hid hr5
      have HO5 := hid (HO.out.chg hc5 (fun k hk => by omega))
      have HC5 := hid (HC.out.trans hc5)
      have hz5 := hc5.size
      clear hr5 hc5 hv1
      by_cases h0 : v = 0
      case pos =>
        subst h0
        have bl := bnew w5 (.cells #[.string ⟨#[]⟩, .string ⟨#[88]⟩, .string ⟨#[97, 49]⟩] 9)
        have nl := heap_alloc_new w5 (.cells #[.string ⟨#[]⟩, .string ⟨#[88]⟩, .string ⟨#[97, 49]⟩] 9)
        have hlit := lit_rd (l := [⟨#[]⟩, ⟨#[88]⟩, ⟨#[97, 49]⟩]) nl rfl (by decide) (by decide)
        have hof := of_any w.heap.size w5.heap.size 3 (q + 1) _ _ (HR5.out.chgR bl) (by omega) hlit (by omega) (by omega) (by omega)
        have HOF := hid hof
        have HBL := hid bl
        clear bl nl hlit hof
        go_wp2_with fail
        refine HOF.out.mono ?_
        rintro e w6 ⟨s, hsm, rfl, hr6, hc6⟩
        have hs10 : s.size ≤ 10 := by
          revert s
          decide
        have HO6 := hid ((HO5.out.bl HBL.out).chg hc6 (fun j hj => by omega))
        have HC6 := hid (HC5.out.trans ((chgW HBL.out).trans hc6))
        have hz6 := hc6.size
        rw [World.size_alloc] at hz6
        clear hsm hr6 hc6 HOF HBL
        go_wp2_with (at_builtin; refine wpList_append_R rfl (.tmp 50) (.tmp 54) _ rfl strS Try.underlying24 HI.out rfl (by decide) rfl (HO6.out.al _) (y := s) rfl (heap_alloc_new _ _) rfl (by simp [Value.oneCell']) ⟨rfl, by omega⟩ (by omega) (by omega) (by simp; omega) ?_; intro A7 c7 w7 hO7 hb7)
        have hb8 := ((bnew w6 (.cells #[.string s] 9)).mono (B' := w2.heap.size) (by omega)).trans hb7
        have hC7 := chg_hi HC6.out (bel_chg hb8) (fun j e => e)
        have hlen : (l ++ [s]).length = l.length + 1 := by simp
        have hsa : ∀ t ∈ l ++ [s], t.size ≤ 10 := fun t ht => by
          rcases List.mem_append.1 ht with ht | ht
          · exact HQ.out.2 t ht
          · rw [List.mem_singleton] at ht
            rw [ht]
            exact hs10
        go_ret2
        exact ⟨A, n, c, bs, _, _, _, _, rfl, ⟨hnc2, by omega, HSM.out⟩, ⟨(own_cap hO7).1, by have := HLL.out; omega, (own_cap hO7).2, hsa⟩, ((HRD.out.chg hC7 (Nat.le_refl _) (fun k hk => .inr (by omega))).wide (Nat.zero_le _) hC7.size), (hO7.rd (by omega)).2.wide (Nat.zero_le _) (Nat.le_refl _), HB1.out.trans ((HC2.out.trans hC7).below (by omega) (fun k e => by omega))⟩
      case neg =>
        go_wp2_with fail
        go_ret2
        exact ⟨A, n, c, bs, _, _, _, _, rfl, ⟨hnc2, by omega, HSM.out⟩, ⟨(own_cap HO5.out).1, by omega, (own_cap HO5.out).2, HQ.out.2⟩, ((HRD.out.chg HC5.out (Nat.le_refl _) (fun k hk => .inr (by omega))).wide (Nat.zero_le _) HC5.out.size), (HO5.out.rd (by omega)).2.wide (Nat.zero_le _) (Nat.le_refl _), HB1.out.trans ((HC2.out.trans HC5.out).below (by omega) (fun k e => by omega))⟩
end Go.Proofs.Ythijnojefeeaoaa
