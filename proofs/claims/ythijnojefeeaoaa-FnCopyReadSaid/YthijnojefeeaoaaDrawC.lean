/- Briefs as they are drawn: the walk. -/
import Derived.Test.YthijnojefeeaoaaDrawB
namespace Go.Proofs.Ythijnojefeeaoaa
open Go.RowKit
attribute [local go_sem] Oper.semAt_some
theorem drawn_out {rb p q c n : Nat} {w w' : World} {A : Option Addr} {ds : List BrD} (hn : n = ds.length) (hL : Lse w.heap.size w' (.slice A n c) ds) (h6 : ds.length ≤ 6) (hq : q ≤ p + 150) (hs : ∀ d ∈ ds, smallB (brT d)) (hr : Rdr rb w' q) (hc : Chg (fun k => k = rb) w w') :
    ∃ A' c' bs p', Ending.returned (.slice A n c) = .returned (.slice A' (List.length bs) c') ∧ List.length bs ≤ c' ∧ Rd briefS w.heap.size w'.heap.size w' A' (List.length bs) bs ∧ (List.length bs ≤ 6 ∧ p' ≤ p + 150 ∧ ∀ b ∈ bs, smallB b) ∧ Rdr rb w' p' ∧ Chg (fun k => k = rb) w w' := by
  subst hn
  obtain ⟨A1, c1, hf, hle⟩ := hL.own.form
  injection hf with _ _ f3
  have hlm : (ds.map brT).length = ds.length := List.length_map _
  refine ⟨A, c, ds.map brT, q, by rw [hlm], by rw [hlm]; rw [List.length_map] at hle; omega, ?_, ⟨by rw [hlm]; exact h6, hq, fun b hb => ?_⟩, hr, hc⟩
  · rw [hlm]; exact (hL.rd (by omega)).2
  · obtain ⟨d, hd, rfl⟩ := List.mem_map.1 hb
    exact hs d hd
set_option maxRecDepth 100000 in
set_option maxHeartbeats 4000000 in
theorem l91Briefs_any (rb p : Nat) (w : World) (h : Rdr rb w p) (hp : p ≤ 100) :
    Calls Try.prog 74 #[.pointer (some ⟨rb, 0, none⟩)] w fun e w' => ∃ A c bs p', e = .returned (.slice A (List.length bs) c) ∧ List.length bs ≤ c ∧ Rd briefS w.heap.size w'.heap.size w' A (List.length bs) bs ∧ (List.length bs ≤ 6 ∧ p' ≤ p + 150 ∧ ∀ b ∈ bs, smallB b) ∧ Rdr rb w' p' ∧ Chg (fun k => k = rb) w w' := by
  obtain ⟨i0, hi1, hz0, hz1, hz2⟩ := info_parts (show (Try.prog.info? 9).map (fun i => (i.zero, i.size, i.bytes)) = some (some (.string ByteArray.empty), 1, 16) by kernel_rfl)
  have HI := hid (And.intro hi1 (And.intro hz0 (And.intro hz1 hz2)))
  clear hi1 hz0 hz1 hz2
  obtain ⟨i1, hi1, hz0, hz1, hz2⟩ := info_parts (show (Try.prog.info? 31).map (fun i => (i.zero, i.size, i.bytes)) = some (some (.agg #[.string ⟨#[]⟩, .slice none 0 0]), 2, 40) by kernel_rfl)
  have HJ := hid (And.intro hi1 (And.intro hz0 (And.intro hz1 hz2)))
  have hrl := h.lt
  have HR := hid (h.chgR (bnew w (.cells #[] 31)))
  have HOL := hid (show Lse w.heap.size (w.alloc (.cells #[] 31)) (.slice (some ⟨w.heap.size, 0, none⟩) 0 0) [] from ⟨OwnR.nil (Nat.le_refl _) #[] rfl, fun d hd => by cases hd⟩)
  have HC0 := hid (chg_new w (.cells #[] 31) (fun k => k = rb))
  clear h hi1 hz0 hz1 hz2
  go_enter Try.func74, Try.ntmps74
  go_wp2_with fail
  refine (pick_any rb _ p 5 HR.out (by omega) (by omega) (by omega)).mono ?_
  rintro e w1 ⟨v, rfl, hv0, hv1, hr1, hc1⟩
  obtain ⟨N, rfl⟩ := Int.eq_ofNat_of_zero_le hv0
  have hN : N ≤ 4 := by have := hv1 (by omega); omega
  have HR1 := hid hr1
  have HO1 := hid (HOL.out.keep hc1 (fun k hk => by omega))
  have HC1 := hid (HC0.out.trans hc1)
  have hz1 := hc1.size
  rw [World.size_alloc] at hz1
  clear hv0 hv1 hr1 hc1
  go_wp2_with fail
  go_loopg [3, 5, 6, 7, 8] N (fun gk l3 i l6 l7 l8 wr => ∃ (k : Nat) (A3 : Option Addr) (c3 : Nat) (ds : List BrD) (q : Nat), k + gk = N ∧ i = .int .i64 k ∧ l3 = .slice A3 ds.length c3 ∧ Lse w.heap.size wr (.slice A3 ds.length c3) ds ∧ (ds.length ≤ k ∧ q ≤ p + 1 + 22 * k ∧ ∀ d ∈ ds, smallB (brT d)) ∧ Rdr rb wr q ∧ Chg (fun k => k = rb) w wr)
  case atStart => exact ⟨0, _, _, [], p + 1, Nat.zero_add _, rfl, rfl, HO1.out, ⟨Nat.le_refl _, Nat.le_refl _, fun s hs => by cases hs⟩, HR1.out, HC1.out⟩
  case round =>
    clear HO1 HR1 HC1 HOL HC0 HR
    obtain ⟨k, A3, c3, ds, q, hkg, rfl, rfl, hO, hq, hr, hc⟩ := hrel
    have HKG := hid hkg
    have HO := hid hO
    have HQ := hid hq
    have HRR := hid hr
    have HC := hid hc
    have hk : k ≤ N := by omega
    have hwz := hc.size
    clear hkg hO hq hr hc
    by_cases hlt : k < N
    · have hki : (k : Int) < (N : Int) := by omega
      have HSP := hid (l91Speech_any rb q 2 wr HRR.out (by have := HQ.out; omega) (by omega))
      go_wp2_with fail
      refine HSP.out.mono ?_
      rintro e w3 ⟨A4, c4, l, q', rfl, hO4, ⟨hl2, hq', hls⟩, hr3, hc3⟩
      have hl8 : l.length ≤ 8 := by omega
      have HL := hid (And.intro hl2 (And.intro hq' hls))
      have HR3 := hid hr3
      have HO4 := hid hO4
      have HC3 := hid hc3
      have hz3 := hc3.size
      clear hl2 hq' hls hr3 hO4 hc3 HSP HRR
      have bl := bnew w3 (.cells #[.string ⟨#[119, 101]⟩, .string ⟨#[97, 114, 101]⟩, .string ⟨#[110, 111, 116]⟩] 9)
      have nl := heap_alloc_new w3 (.cells #[.string ⟨#[119, 101]⟩, .string ⟨#[97, 114, 101]⟩, .string ⟨#[110, 111, 116]⟩] 9)
      have hlit := lit_rd (l := [⟨#[119, 101]⟩, ⟨#[97, 114, 101]⟩, ⟨#[110, 111, 116]⟩]) nl rfl (by decide) (by decide)
      have hof := of_any rb w3.heap.size 3 q' _ _ (HR3.out.chgR bl) (by have := HL.out; have := HQ.out; omega) hlit (by omega) (by omega) (by omega)
      have HOF := hid hof
      have HBL := hid bl
      clear bl nl hlit hof
      go_wp2_with fail
      refine HOF.out.mono ?_
      rintro e w4 ⟨s, hsm, rfl, hr4, hc4⟩
      have hs10 : s.size ≤ 10 := by
        revert s
        decide
      have HR4 := hid hr4
      have HO5 := hid ((HO4.out.bl HBL.out).chg hc4 (fun j hj => by omega))
      have HC4 := hid (HC3.out.trans ((chgW HBL.out).trans hc4))
      have hz4 := hc4.size
      rw [World.size_alloc] at hz4
      clear hsm hr4 hc4 HOF HBL HO4 HR3 HC3
      go_wp2_with (at_builtin; refine wpList_append_R rfl (.tmp 18) (.tmp 22) _ rfl strS Try.underlying24 HI.out rfl (by decide) rfl (HO5.out.al _) (y := s) rfl (heap_alloc_new _ _) rfl (by simp [Value.oneCell']) ⟨rfl, by omega⟩ (by omega) (by omega) (by simp; omega) ?_; intro A6 c6 w5 hO5 hb5)
      have hb6 := ((bnew w4 (.cells #[.string s] 9)).mono (B' := wr.heap.size) (by omega)).trans hb5
      have hz5 := hb6.size
      have HR5 := hid (HR4.out.low hb6 (by omega))
      have HC5 := hid (chg_hi HC4.out (bel_chg hb6) (fun j e => e))
      have HO6 := hid hO5
      clear hO5 hb5 hb6 HR4 HC4 HO5
      have bl := bnew w5 (.cells #[.string ⟨#[65]⟩, .string ⟨#[66]⟩, .string ⟨#[87, 69]⟩, .string ⟨#[78, 79, 84]⟩, .string ⟨#[81]⟩] 9)
      have nl := heap_alloc_new w5 (.cells #[.string ⟨#[65]⟩, .string ⟨#[66]⟩, .string ⟨#[87, 69]⟩, .string ⟨#[78, 79, 84]⟩, .string ⟨#[81]⟩] 9)
      have hlit := lit_rd (l := [⟨#[65]⟩, ⟨#[66]⟩, ⟨#[87, 69]⟩, ⟨#[78, 79, 84]⟩, ⟨#[81]⟩]) nl rfl (by decide) (by decide)
      have hof := of_any rb w5.heap.size 5 (q' + 1) _ _ (HR5.out.chgR bl) (by have := HL.out; have := HQ.out; omega) hlit (by omega) (by omega) (by omega)
      have HOF := hid hof
      have HBL := hid bl
      clear bl nl hlit hof
      go_wp2_with fail
      refine HOF.out.mono ?_
      rintro e w6 ⟨t, htm, rfl, hr6, hc6⟩
      have ht10 : t.size ≤ 10 := by
        revert t
        decide
      have HR6 := hid hr6
      have HO7 := hid ((HO6.out.bl HBL.out).chg hc6 (fun j hj => by omega))
      have HC6 := hid (HC5.out.trans ((chgW HBL.out).trans hc6))
      have hz6 := hc6.size
      rw [World.size_alloc] at hz6
      have HOL := hid (HO.out.keep HC6.out (fun j hj => by omega))
      clear htm hr6 hc6 HOF HBL HO6 HR5 HC5
      have hyr := HO7.out.rd (by simp; omega)
      have hxr := HOL.out.rd (by have := HQ.out; omega)
      have hsm : ∀ b ∈ ds.map brT, smallB b := fun b hb => by
        obtain ⟨d, hd, rfl⟩ := List.mem_map.1 hb
        exact HQ.out.2.2 d hd
      have HAD := hid (specBriefsAdd_any A3 A6 ds.length c3 (l.length + 1) c6 (ds.map brT) t (l ++ [s]) w6 (hxr.2.wide (Nat.zero_le _) (Nat.le_refl _)) (hyr.2.wide (Nat.zero_le _) (Nat.le_refl _)) (by omega) (by have := HQ.out; omega) (fun b hb => by have := (hsm b hb).2.1; omega) (by omega))
      have HSM := hid hsm
      clear hyr hxr hsm
      go_wp2_with fail
      refine HAD.out.mono ?_
      rintro e w7 ⟨A8, n8, c8, ds8, rfl, hN8, rfl, hd8, hb7⟩
      have hz7 := hb7.size
      have HR7 := hid (HR6.out.low hb7 (by omega))
      have HC7 := hid (chg_hi HC6.out (bel_chg hb7) (fun j e => by omega))
      have HL8 := hid (hN8.lse (lo' := w.heap.size) (by omega))
      have HD8 := hid hd8
      clear hN8 hd8 HAD HR6 HC6
      by_cases hok : briefsOk (ds.map brT ++ [(t, l ++ [s])]) = true
      · have ha : addB (ds.map brT) (t, l ++ [s]) = some (ds.map brT ++ [(t, l ++ [s])]) := by unfold addB; rw [if_pos hok]
        rw [ha] at HD8 ⊢
        simp only [Option.isSome_some, Option.getD_some] at HD8 ⊢
        clear ha
        go_wp2_with fail
        go_roundg (gk - 1)
        case measure => have := HKG.out; omega
        case rel =>
          have hl8 := congrArg List.length HD8.out
          simp only [List.length_map, List.length_append, List.length_cons, List.length_nil] at hl8
          refine ⟨k + 1, A8, c8, ds8, q' + 2, by have := HKG.out; omega, by go_num, rfl, HL8.out, ⟨by have := HQ.out.1; omega, by have := HQ.out.2.1; have := HL.out.2.1; omega, fun d hd => ?_⟩, HR7.out, HC.out.trans HC7.out⟩
          have hm : brT d ∈ ds8.map brT := List.mem_map.2 ⟨d, hd, rfl⟩
          rw [HD8.out] at hm
          rcases List.mem_append.1 hm with hm | hm
          · exact HSM.out _ hm
          · rw [List.mem_singleton] at hm
            rw [hm]
            refine ⟨ht10, by simp; have := HL.out.1; omega, fun x hx => ?_⟩
            rcases List.mem_append.1 hx with hx | hx
            · exact HL.out.2.2 x hx
            · rw [List.mem_singleton] at hx
              rw [hx]
              exact hs10
      · have ha : addB (ds.map brT) (t, l ++ [s]) = none := by unfold addB; rw [if_neg hok]
        rw [ha] at HD8 ⊢
        simp only [Option.isSome_none, Option.getD_none] at HD8 ⊢
        clear ha
        go_wp2_with fail
        go_roundg (gk - 1)
        case measure => have := HKG.out; omega
        case rel =>
          exact ⟨k + 1, A3, c3, ds, q' + 2, by have := HKG.out; omega, by go_num, rfl, HO.out.keep HC7.out (fun j hj => by omega), ⟨by have := HQ.out.1; omega, by have := HQ.out.2.1; have := HL.out.2.1; omega, HQ.out.2.2⟩, HR7.out, HC.out.trans HC7.out⟩
    · obtain rfl : k = N := by omega
      have hds4 : ds.length ≤ 5 := by have := HQ.out.1; omega
      cases ds with
      | nil =>
        go_wp2_with fail
        go_ret
        exact drawn_out rfl HO.out (by simp) (by have := HQ.out.2.1; omega) HQ.out.2.2 HRR.out HC.out
      | cons d ds =>
        have hl0 : (0 : Int) < ((d :: ds).length : Int) := by simp
        go_wp2_with fail
        refine (pick_any rb _ q 40 HRR.out (by have := HQ.out; omega) (by omega) (by omega)).mono ?_
        rintro e w3 ⟨v, rfl, hv0, hv1, hr3, hc3⟩
        have hv2 := hv1 (by omega)
        have HR3 := hid hr3
        have HO3 := hid (HO.out.keep hc3 (fun k hk => by omega))
        have HC3 := hid (HC.out.trans hc3)
        have hz3 := hc3.size
        clear hr3 hc3 hv1
        by_cases h0 : v = 0
        · subst h0
          have bl := bnew w3 (.cells #[.string ⟨#[]⟩, .string ⟨#[97]⟩, .string ⟨#[65, 66, 67, 68]⟩] 9)
          have nl := heap_alloc_new w3 (.cells #[.string ⟨#[]⟩, .string ⟨#[97]⟩, .string ⟨#[65, 66, 67, 68]⟩] 9)
          have hlit := lit_rd (l := [⟨#[]⟩, ⟨#[97]⟩, ⟨#[65, 66, 67, 68]⟩]) nl rfl (by decide) (by decide)
          have hof := of_any rb w3.heap.size 3 (q + 1) _ _ (HR3.out.chgR bl) (by have := HQ.out; omega) hlit (by omega) (by omega) (by omega)
          have HOF := hid hof
          have HBL := hid bl
          clear bl nl hlit hof
          go_wp2_with fail
          refine HOF.out.mono ?_
          rintro e w4 ⟨s, hsm, rfl, hr4, hc4⟩
          have hs10 : s.size ≤ 10 := by
            revert s
            decide
          have HR4 := hid hr4
          have hO4 := (HO3.out.bl HBL.out).keep hc4 (fun j hj => by omega)
          have HC4 := hid (HC3.out.trans ((chgW HBL.out).trans hc4))
          clear hsm hr4 hc4 HOF HBL
          obtain ⟨g, rfl, hgw, hgl⟩ := own_pos hO4.own (by simp)
          obtain ⟨y1, y2, y3, y4, y5⟩ := hO4.at0
          obtain ⟨r1, r2, r3⟩ := hO4.row d List.mem_cons_self
          have hg : d.2.1 ≠ g := fun e => r2 (by rw [e]; rfl)
          have HO4 := hid (hO4.set0 (d' := (s, d.2)) (o := 0) (v := .string s) (.inl ⟨rfl, rfl, by show s.size ≤ _; omega, rfl⟩) r3 r1 hg)
          clear hO4 r2 r3
          go_wp2_with fail
          go_ret
          have hbs : Below w.heap.size w4 (w4.setCell ⟨g, 0, none⟩ (.string s)) := (Below.refl w.heap.size w4).setCell hgw _
          refine drawn_out (ds := (s, d.2) :: ds) rfl HO4.out (by simp at hds4 ⊢; omega) (q := q + 2) (by have := HQ.out.2.1; omega) (fun x hx => ?_) (HR4.out.low hbs hrl) (chg_hi HC4.out (bel_chg hbs) (fun j e => e))
          rcases List.mem_cons.1 hx with rfl | hx
          · exact ⟨hs10, (HQ.out.2.2 d List.mem_cons_self).2⟩
          · exact HQ.out.2.2 x (List.mem_cons_of_mem _ hx)
        by_cases h1 : v = 1
        · subst h1
          have bl := bnew w3 (.cells #[] 9)
          have hO4 := HO3.out.bl bl
          have hrow : RowS (w3.alloc (.cells #[] 9)) (w3.heap.size, 0, []) := ⟨#[], heap_alloc_new _ _, Nat.le_refl _, Nat.le_refl _, by simp, fun j hj => by cases hj⟩
          obtain ⟨g, rfl, hgw, hgl⟩ := own_pos HO3.out.own (by simp)
          obtain ⟨y1, y2, y3, y4, y5⟩ := hO4.at0
          have HO4 := hid (hO4.set0 (d' := (d.1, w3.heap.size, 0, [])) (o := 1) (v := .slice (some ⟨w3.heap.size, 0, none⟩) 0 0) (.inr ⟨rfl, rfl, rfl⟩) hrow (by show w.heap.size ≤ w3.heap.size; omega) (by show w3.heap.size ≠ g; omega))
          have hbs : Below w.heap.size w3 ((w3.alloc (.cells #[] 9)).setCell ⟨g, 1, none⟩ (.slice (some ⟨w3.heap.size, 0, none⟩) 0 0)) := (bl.mono (by omega)).setCell hgw _
          have HBS := hid hbs
          clear hO4 hrow bl hbs
          go_wp2_with fail
          go_ret
          rw [← World.setCell_alloc_past _ _ _ _ hgl]
          refine drawn_out (ds := (d.1, w3.heap.size, 0, []) :: ds) rfl HO4.out (by simp at hds4 ⊢; omega) (q := q + 1) (by have := HQ.out.2.1; omega) (fun x hx => ?_) (HR3.out.low HBS.out hrl) (chg_hi HC3.out (bel_chg HBS.out) (fun j e => e))
          rcases List.mem_cons.1 hx with rfl | hx
          · exact ⟨(HQ.out.2.2 d List.mem_cons_self).1, by simp [brT], fun x hx => by cases hx⟩
          · exact HQ.out.2.2 x (List.mem_cons_of_mem _ hx)
        by_cases h2 : v = 2
        · subst h2
          obtain ⟨g, rfl, hgw, hgl⟩ := own_pos HO3.out.own (by simp)
          obtain ⟨y1, y2, y3, y4, y5⟩ := HO3.out.at0
          have hlm : (List.map brV (d :: ds)).length = (d :: ds).length := List.length_map _
          have hla : ((d :: ds) ++ [d]).length = (d :: ds).length + 1 := by simp
          go_wp2_with (at_builtin; go_loud (refine wpList_append_R2 rfl (.tmp 57) (.tmp 61) _ rfl brvS Try.underlying23 HJ.out rfl (by decide) rfl (HO3.out.own.al _) (y := brV d) rfl (heap_alloc_new _ _) rfl (by simp [Value.oneCell', rowTV]) ⟨rfl, y5, rfl⟩ (by omega) (by omega) (by simp; omega) ?_; intro A6 c6 w5 hO5 hc5 hv5))
          go_ret
          have bl := bnew w3 (.cells #[.string d.1, rowTV d.2] 31)
          have hL5 := (HO3.out.bl bl).grow List.mem_cons_self hc5 hO5 (hv5.imp id fun e => ⟨_, e, Nat.le_refl _⟩)
          have hb5 : Below w.heap.size (w3.alloc (.cells #[.string d.1, rowTV d.2] 31)) w5 := ⟨hc5.os, hc5.tape, hc5.output, hc5.size, fun j hj => hc5.block j (by simp; omega) (fun e => by have := (HO3.out.own.own_lt e).1; omega)⟩
          have hb6 := (bl.mono (B' := w.heap.size) (by omega)).trans hb5
          rw [hlm] at hL5
          refine drawn_out (n := ds.length + 1 + 1) (by rw [hla]; rfl) hL5 (by rw [hla]; omega) (q := q + 1) (by have := HQ.out.2.1; omega) (fun x hx => ?_) (HR3.out.low hb6 hrl) (chg_hi HC3.out (bel_chg hb6) (fun j e => e))
          rcases List.mem_append.1 hx with hx | hx
          · exact HQ.out.2.2 x hx
          · rw [List.mem_singleton] at hx
            rw [hx]
            exact HQ.out.2.2 d List.mem_cons_self
        go_wp2_with fail
        go_ret
        exact drawn_out rfl HO3.out (by omega) (by have := HQ.out.2.1; omega) HQ.out.2.2 HR3.out HC3.out
end Go.Proofs.Ythijnojefeeaoaa
