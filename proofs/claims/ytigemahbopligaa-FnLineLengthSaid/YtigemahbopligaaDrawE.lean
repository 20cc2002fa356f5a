/- A line of written words as it is drawn. -/
import Derived.Test.YtigemahbopligaaDrawN
namespace Go.Proofs.Ytigemahbopligaa
open Go.RowKit
attribute [local go_sem] Oper.semAt_some
def DrawnE (rb p : Nat) (w : World) (e : Ending) (w' : World) : Prop :=
  ∃ B cc q o p', e = .returned (.agg #[.slice B (List.length o) cc, .int .i64 q]) ∧ List.length o ≤ cc ∧ List.length o ≤ 8 ∧ OwnR strokeS w.heap.size w' 64 (.slice B (List.length o) cc) o ∧ p' ≤ p + 110 ∧ Rdr rb w' p' ∧ Chg (fun k => k = rb) w w'
theorem pair_at (w : World) (x y : Int) (e : TypeId) {j : Nat} (hj : j < 2) : ∃ u : Int, (w.alloc (.cells #[.int .i64 x, .int .i64 y] e)).cell? ⟨w.heap.size, j, none⟩ = some (.int .i64 u) := by
  have h := at_get (heap_alloc_new w (.cells #[.int .i64 x, .int .i64 y] e))
  rcases (show j = 0 ∨ j = 1 by omega) with rfl | rfl
  · exact ⟨x, h.1⟩
  · exact ⟨y, h.2.1⟩
theorem chg_app {D D' : Nat → Prop} {a b c : World} (h : Chg D a b) (k : Chg D' b c) (hd : ∀ j, D' j → D j ∨ a.heap.size ≤ j) : Chg D a c :=
  ⟨k.os.trans h.os, k.tape.trans h.tape, k.output.trans h.output, Nat.le_trans h.size k.size, fun i hi hn => (k.block i (Nat.lt_of_lt_of_le hi h.size) (fun e => (hd i e).elim hn (fun x => absurd hi (by omega)))).trans (h.block i hi hn)⟩
set_option maxHeartbeats 2000000 in
theorem l91Written_any (rb p : Nat) (w : World) (h : Rdr rb w p) (hp : p ≤ 900) :
    Calls Try.prog 98 #[.pointer (some ⟨rb, 0, none⟩)] w (DrawnE rb p w) := by
  have hrl := h.lt
  have hb1 := bnew w (.cells #[.slice none 0 0, .int .i64 0] 51)
  have hn1 := heap_alloc_new w (.cells #[.slice none 0 0, .int .i64 0] 51)
  have hz1 := World.size_alloc w (.cells #[.slice none 0 0, .int .i64 0] 51)
  have hc1 := chg_new w (.cells #[.slice none 0 0, .int .i64 0] 51) (fun k => k = rb)
  obtain ⟨w1, hw1⟩ : ∃ w1, w.alloc (.cells #[.slice none 0 0, .int .i64 0] 51) = w1 := ⟨_, rfl⟩
  rw [hw1] at hb1 hn1 hz1 hc1
  have HW1 := hid hw1
  have HC1 := hid hc1
  have HN1 := hid hn1
  have HR1 := hid (h.keep (hb1.mono hrl))
  clear h hb1 hn1 hw1 hc1
  go_enter Try.func98, Try.ntmps98
  go_wp2_with fail
  rw [HW1.out]
  refine (l91Outline_any rb w1 p 4 HR1.out (by omega) (by omega)).mono ?_
  intro e w2 hres
  obtain ⟨B, d, o, p2, rfl, hod, ho, hO, hp2, hr2, hc2, _⟩ := hres
  have HO2 := hid hO
  have HR2 := hid hr2
  have HC2 := hid hc2
  have hz2 := hc2.size
  clear hO hr2 hc2
  go_wp2_with fail
  refine (pick_any rb w2 p2 3 HR2.out (by omega) (by omega) (by omega)).mono ?_
  rintro e w3 ⟨q, rfl, _, _, hr3, hc3⟩
  have HR3 := hid hr3
  have HC3 := hid hc3
  have hz3 := hc3.size
  have HO3 := hid (HO2.out.chg hc3 (fun k hk => by omega))
  have HOL := hid fun k (hk : (Value.slice B o.length d).ownBlock = some k) => HO3.out.own_lt hk
  have HT3 := hid ((HC3.out.block w.heap.size (by omega) (fun e => by omega)).trans ((HC2.out.block w.heap.size (by omega) (fun e => by omega)).trans HN1.out))
  clear hr3 hc3
  have hn4 := heap_alloc_new w3 (.cells #[.slice B o.length d, .int .i64 q] 51)
  have hz4 := World.size_alloc w3 (.cells #[.slice B o.length d, .int .i64 q] 51)
  have hb4 := bnew w3 (.cells #[.slice B o.length d, .int .i64 q] 51)
  obtain ⟨w4, hw4⟩ : ∃ w4, w3.alloc (.cells #[.slice B o.length d, .int .i64 q] 51) = w4 := ⟨_, rfl⟩
  rw [hw4] at hn4 hz4 hb4
  have HW4 := hid hw4
  have HN4 := hid hn4
  have HB4 := hid hb4
  have HR4 := hid (HR3.out.chgR hb4)
  clear hn4 hb4 hw4
  go_wp2_with fail
  rw [HW4.out]
  refine (pick_any rb w4 (p2 + 1) 40 HR4.out (by omega) (by omega) (by omega)).mono ?_
  rintro e w5 ⟨u, rfl, _, _, hr5, hc5⟩
  have HR5 := hid hr5
  have HC5 := hid hc5
  have hz5 := hc5.size
  have HN5 := hid ((hc5.block w3.heap.size (by omega) (fun e => by omega)).trans HN4.out)
  have HT5 := hid ((hc5.block w.heap.size (by omega) (fun e => by omega)).trans ((HB4.out.block w.heap.size (by omega)).trans HT3.out))
  have HC35 := hid ((chgW (D := fun k => k = rb) HB4.out).trans hc5)
  clear hr5 hc5
  have hne1 : ¬ w3.heap.size = w.heap.size := by omega
  have hne2 : ¬ w.heap.size = w3.heap.size := by omega
  obtain ⟨t0, t1, tf0, tf1⟩ := at_get HT5.out
  obtain ⟨c0, c1, f0, f1⟩ := at_get HN5.out
  by_cases hu : u = 0
  case neg =>
    have hub : (u == 0) = false := by rw [beq_eq_false_iff_ne]; exact hu
    go_wp2_with fail
    refine bodyPost_ret (v := .agg #[.slice B o.length d, .int .i64 q]) (by simp [results, Try.results98, go_sem, t0, t1]) rfl ⟨B, d, q, o, p2 + 1 + 1, rfl, hod, by omega, ?_, by omega, ?_, ?_⟩
    · exact (HO3.out.flat strokeS_flat (D := fun k => k = rb ∨ k = w.heap.size) (((HC35.out.wide (fun k hk => .inl hk)).set (.inr rfl) _).set (.inr rfl) _) (fun k hk => by have := HOL.out k hk; omega)).low (by omega)
    · exact HR5.out.low (((Below.refl w.heap.size w5).setCell (Nat.le_refl _) _).setCell (Nat.le_refl _) _) hrl
    · exact chg_set (chg_set (HC1.out.trans (HC2.out.trans (HC3.out.trans HC35.out))) (Nat.le_refl _) _) (Nat.le_refl _) _
  case pos =>
    subst hu
    have hb6 := bnew w5 (.cells #[.int .i64 (-1), .int .i64 3] 3)
    have HB6 := hid hb6
    clear t0 t1 tf0 tf1 c0 c1 f0 f1
    go_wp2_with fail
    refine (pick_any rb _ (p2 + 1 + 1) 2 (HR5.out.chgR HB6.out) (by omega) (by omega) (by omega)).mono ?_
    rintro e w7 ⟨v, rfl, v0, v1, hr7, hc7⟩
    have v2 := v1 (by omega)
    obtain ⟨j, rfl⟩ := Int.eq_ofNat_of_zero_le v0
    have hj : j < 2 := by omega
    have hji : (j : Int) < 2 := by omega
    obtain ⟨z, hz⟩ := pair_at w5 (-1) 3 3 hj
    have hzz := World.size_alloc w5 (.cells #[.int .i64 (-1), .int .i64 3] 3)
    have hcz := hc7.cell (show ¬ w5.heap.size = rb by omega) hz
    have hz7 := hc7.size
    have HR7 := hid hr7
    have HC57 := hid ((chgW (D := fun k => k = rb) HB6.out).trans hc7)
    obtain ⟨t0, t1, tf0, tf1⟩ := at_get ((HC57.out.block w.heap.size (by omega) (fun e => by omega)).trans HT5.out)
    obtain ⟨c0, c1, f0, f1⟩ := at_get ((HC57.out.block w3.heap.size (by omega) (fun e => by omega)).trans HN5.out)
    clear hr7 hc7 v0 v1 v2 hz
    go_wp2_with fail
    refine bodyPost_ret (v := .agg #[.slice B o.length d, .int .i64 z]) (by simp [results, Try.results98, go_sem, t0, t1, hne1, hne2]) rfl ⟨B, d, z, o, p2 + 1 + 1 + 1, rfl, hod, by omega, ?_, by omega, ?_, ?_⟩
    · exact (HO3.out.flat strokeS_flat (D := fun k => k = rb ∨ k = w.heap.size) (((chg_set ((HC35.out.trans HC57.out).wide (fun k hk => .inl hk)) (Nat.le_refl _) _).set (.inr rfl) _).set (.inr rfl) _) (fun k hk => by have := HOL.out k hk; omega)).low (by omega)
    · exact HR7.out.low ((((Below.refl w.heap.size w7).setCell (by show w.heap.size ≤ w3.heap.size; omega) _).setCell (Nat.le_refl _) _).setCell (Nat.le_refl _) _) hrl
    · exact chg_set (chg_set (chg_set (HC1.out.trans (HC2.out.trans (HC3.out.trans (HC35.out.trans HC57.out)))) (by omega) _) (Nat.le_refl _) _) (Nat.le_refl _) _
def DrawnL (rb : Nat) (w : World) (e : Ending) (w' : World) : Prop :=
  ∃ A c l, e = .returned (.slice A (List.length l) c) ∧ List.length l ≤ c ∧ List.length l ≤ 4 ∧ (∀ x ∈ l, List.length (Prod.fst x) ≤ 8) ∧ OwnR writtenS w.heap.size w' 51 (.slice A (List.length l) c) l ∧ Chg (fun k => k = rb) w w'
set_option maxRecDepth 100000 in
set_option maxHeartbeats 4000000 in
theorem l91Line_any (A B : Option Addr) (n c m d rb p : Nat) (sys : List SignT) (ws : List ByteArray) (w : World) (h : Rdr rb w p) (hp : p ≤ 400) (hx : Rd signS (rb + 1) w.heap.size w A n sys) (hy : Rd strS (rb + 1) w.heap.size w B m ws) (hm : m ≤ 1000) :
    Calls Try.prog 85 #[.pointer (some ⟨rb, 0, none⟩), .slice A n c, .slice B m d] w (DrawnL rb w) := by
  obtain ⟨i0, hi1, hz0, hz1, hz2⟩ := info_parts (show (Try.prog.info? 51).map (fun i => (i.zero, i.size, i.bytes)) = some (some (.agg #[.slice none 0 0, .int .i64 0]), 2, 32) by kernel_rfl)
  have HI := hid (And.intro hi1 (And.intro hz0 (And.intro hz1 hz2)))
  clear hi1 hz0 hz1 hz2
  have hrl := h.lt
  have HXX := hid fun X (hC : Chg (fun k => k = rb) w X) => ((hx.chg hC (Nat.le_refl _) (fun k hk => .inr (by omega))).wide (Nat.le_refl _) hC.size : Rd signS (rb + 1) X.heap.size X A n sys)
  have HYY := hid fun X (hC : Chg (fun k => k = rb) w X) => ((hy.chg hC (Nat.le_refl _) (fun k hk => .inr (by omega))).wide (Nat.le_refl _) hC.size : Rd strS (rb + 1) X.heap.size X B m ws)
  have HY := hid hy
  have bl := bnew w (.cells #[] 51)
  have zl := World.size_alloc w (.cells #[] 51)
  have ON := hid (OwnR.nil (S := writtenS) (e := 51) (Nat.le_refl w.heap.size) #[] rfl)
  have HR0 := hid (h.chgR bl)
  have HC0 := hid (chgW (D := fun k => k = rb) bl)
  clear h hx hy bl
  go_enter Try.func85, Try.ntmps85
  go_wp2_with fail
  refine (pick_any rb _ p 5 HR0.out (by omega) (by omega) (by omega)).mono ?_
  rintro e w2 ⟨N, rfl, hN0, hN1, hr2, hc2⟩
  obtain ⟨N, rfl⟩ := Int.eq_ofNat_of_zero_le hN0
  have hN4 : N ≤ 4 := by have := hN1 (by omega); omega
  have HR2 := hid hr2
  have HC2 := hid (HC0.out.trans hc2)
  have HO2 := hid (ON.out.chg hc2 (fun k hk => by omega))
  have hz2 := hc2.size
  clear hr2 hc2 hN0 hN1
  go_wp2_with fail
  refine (specDictionaryWritten_any A B n c m d _ _ sys ws w2 (HXX.out w2 HC2.out) (HYY.out w2 HC2.out) hm).mono ?_
  intro e w3 hres
  obtain ⟨A3, c3, is, rfl, hl3, hx3, hO3, hb3⟩ := hres
  have hz3 := hb3.size
  have HR3 := hid (HR2.out.chgR hb3)
  have HC3 := hid (HC2.out.trans (chgW hb3))
  have HIS := hid (hO3.rd (by omega)).2
  have HIX := hid hx3
  have HO3 := hid (HO2.out.bl hb3)
  obtain ⟨L, hL⟩ : ∃ L, is.length = L := ⟨_, rfl⟩
  have HL := hid hL
  rw [hL] at hl3 HIS ⊢
  clear hO3 hb3 hx3 hL HO2 ON
  go_wp2_with fail
  go_loopg [7, 10, 11, 12] N (fun gk v i _ _ wr => ∃ (k : Nat) (A5 : Option Addr) (c5 : Nat) (acc : List WrT) (q : Nat), k + gk = N ∧ i = .int .i64 k ∧ v = .slice A5 acc.length c5 ∧ OwnR writtenS w.heap.size wr 51 (.slice A5 acc.length c5) acc ∧ acc.length ≤ k ∧ (∀ x ∈ acc, x.1.length ≤ 8) ∧ q ≤ p + 1 + 115 * k ∧ Rdr rb wr q ∧ Chg (fun k => k = rb) w wr ∧ Chg (fun k => k = rb ∨ k = w.heap.size) w3 wr ∧ ∀ j, (Value.slice A5 acc.length c5).ownBlock = some j → j = w.heap.size ∨ w3.heap.size ≤ j)
  case atStart => exact ⟨0, _, _, [], p + 1, Nat.zero_add _, rfl, rfl, HO3.out, Nat.le_refl _, fun x hx => (by cases hx), by omega, HR3.out, HC3.out, Chg.refl _ _, fun j hj => (by have h' : some w.heap.size = some j := hj; injection h' with h'; exact .inl h'.symm)⟩
  case round =>
    clear HR3 HC3 HO3 HR2 HC2 HR0 HC0
    obtain ⟨k, A5, c5, acc, q, hkg, rfl, rfl, hO, hal, hax, hq, hR, hC, hD, hv⟩ := hrel
    have HKG := hid hkg
    have HO := hid hO
    have HAX := hid hax
    have HR := hid hR
    have HC := hid hC
    have HD := hid hD
    have HV := hid hv
    have hk : k ≤ N := by omega
    have hwz := hC.size
    have hwz3 := hD.size
    clear hkg hO hax hR hC hD hv
    by_cases hlt : k < N
    case neg =>
      obtain rfl : k = N := by omega
      have hni : ¬ (k : Int) < (k : Int) := by omega
      go_wp2_with fail
      go_ret
      exact ⟨A5, c5, acc, rfl, own_cap2 HO.out, by omega, HAX.out, HO.out, HC.out⟩
    case pos =>
      have hlti : (k : Int) < (N : Int) := by omega
      have hqn : q ≤ 890 := by omega
      by_cases hL0 : L = 0
      case pos =>
        subst hL0
        go_wp2_with fail
        refine (l91Written_any rb q wr HR.out (by omega)).mono ?_
        intro e w4 hres
        obtain ⟨B4, c4, z4, o4, q4, rfl, hcc, ho8, hO4, hq4, hr4, hc4⟩ := hres
        have hz4 := hc4.size
        have HRO := hid (hO4.rd (by omega)).2
        have HCC := hid hcc
        have HOB := hid (show (o4, z4).1.length ≤ 8 from ho8)
        have HOL := hid fun j (hj : (Value.slice A5 acc.length c5).ownBlock = some j) => (HO.out.own_lt hj).2
        have HO8 := hid (HO.out.chg hc4 (fun k hk => by omega))
        have HR4 := hid hr4
        have HC4 := hid (HC.out.trans hc4)
        have HD4 := hid (HD.out.trans (hc4.wide (fun k hk => .inl hk)))
        clear hcc hO4 hr4 hc4
        go_wp2_with (at_builtin; go_loud (refine wpList_append_R2 rfl (.tmp 32) (.tmp 35) _ rfl writtenS Try.underlying40 HI.out rfl (by decide) (v := .slice A5 acc.length c5) rfl (HO8.out.al _) (y := (o4, z4)) (cs := [.slice B4 o4.length c4, .int .i64 z4]) rfl (heap_alloc_new _ _) rfl (by simp [Value.oneCell']) ⟨⟨B4, c4, rfl, HCC.out, ?_⟩, rfl⟩ (by omega) (by omega) (by simp <;> omega) ?_))
        · have hr := HRO.out.below (bnew w4 (.cells #[.slice B4 o4.length c4, .int .i64 z4] 51)) (Nat.le_refl _)
          exact (Rd_iff.1 hr).wide (fun j hj => ⟨by have := hj.1; omega, by have := hj.2; simp only [World.size_alloc]; omega, fun e => by have := HOL.out j e; have := hj.1; omega⟩)
        intro A6 c6 w9 hO9 hc9 hv9
        have HO9 := hid hO9
        have hb9 : Below w.heap.size (w4.alloc (.cells #[.slice B4 o4.length c4, .int .i64 z4] 51)) w9 := hc9.below (by simp only [World.size_alloc]; omega) (fun j hj => (HO8.out.own_lt hj).1)
        have HB9 := hid (((bnew w4 (.cells #[.slice B4 o4.length c4, .int .i64 z4] 51)).mono (show w.heap.size ≤ w4.heap.size by omega)).trans hb9)
        have HV9 := hid fun j (hj : (Value.slice A6 (acc.length + 1) c6).ownBlock = some j) => (show j = w.heap.size ∨ w3.heap.size ≤ j by
          rcases hv9 with e | e
          · exact HV.out j (e.symm.trans hj)
          · rw [hj] at e
            injection e with e
            exact .inr (by have hs1 := World.size_alloc w4 (.cells #[.slice B4 o4.length c4, .int .i64 z4] 51); omega))
        have HD9 := hid (chg_app (HD4.out.trans ((chgW (D := fun k => k = rb ∨ k = w.heap.size) (bnew w4 (.cells #[.slice B4 o4.length c4, .int .i64 z4] 51))))) hc9 (fun j hj => by
          rcases HV.out j hj with h | h
          · exact .inl (.inr h)
          · exact .inr h))
        have HC9 := hid (chg_bl HC4.out HB9.out (Nat.le_refl _))
        have HR9 := hid (HR4.out.low HB9.out hrl)
        clear hO9 hc9 hv9 hb9
        go_wp2_with fail
        go_roundg (gk - 1)
        case measure => have := HKG.out; omega
        case rel =>
          refine ⟨k + 1, A6, c6, acc ++ [(o4, z4)], q4, by have := HKG.out; omega, by go_num, by rw [List.length_append]; rfl, by rw [List.length_append]; exact HO9.out, by rw [List.length_append]; show acc.length + 1 ≤ k + 1; omega, fun x hx => ?_, by omega, HR9.out, HC9.out, HD9.out, by rw [List.length_append]; exact HV9.out⟩
          rcases List.mem_append.1 hx with h | h
          · exact HAX.out x h
          · rw [List.mem_singleton] at h
            subst h
            exact HOB.out
      case neg =>
      have hLb : ((L : Int) == 0) = false := by rw [beq_eq_false_iff_ne]; omega
      have hLn : ¬ (L : Int) = 0 := by omega
      go_wp2_with fail
      refine (pick_any rb wr q 8 HR.out (by omega) (by omega) (by omega)).mono ?_
      rintro e wQ ⟨u, rfl, _, _, hrq, hcq⟩
      have HRQ := hid hrq
      have HOQ := hid (HO.out.chg hcq (fun k hk => by omega))
      have HCQ := hid (HC.out.trans hcq)
      have HDQ := hid (HD.out.trans (hcq.wide (fun k hk => .inl hk)))
      have hwzq := hcq.size
      clear hrq hcq HO HR HC HD
      by_cases hu : u = 0
      case pos =>
        subst hu
        go_wp2_with fail
        refine (l91Written_any rb (q + 1) wQ HRQ.out (by omega)).mono ?_
        intro e w4 hres
        obtain ⟨B4, c4, z4, o4, q4, rfl, hcc, ho8, hO4, hq4, hr4, hc4⟩ := hres
        have hz4 := hc4.size
        have HRO := hid (hO4.rd (by omega)).2
        have HCC := hid hcc
        have HOB := hid (show (o4, z4).1.length ≤ 8 from ho8)
        have HOL := hid fun j (hj : (Value.slice A5 acc.length c5).ownBlock = some j) => (HOQ.out.own_lt hj).2
        have HO8 := hid (HOQ.out.chg hc4 (fun k hk => by omega))
        have HR4 := hid hr4
        have HC4 := hid (HCQ.out.trans hc4)
        have HD4 := hid (HDQ.out.trans (hc4.wide (fun k hk => .inl hk)))
        clear hcc hO4 hr4 hc4
        go_wp2_with (at_builtin; go_loud (refine wpList_append_R2 rfl (.tmp 32) (.tmp 35) _ rfl writtenS Try.underlying40 HI.out rfl (by decide) (v := .slice A5 acc.length c5) rfl (HO8.out.al _) (y := (o4, z4)) (cs := [.slice B4 o4.length c4, .int .i64 z4]) rfl (heap_alloc_new _ _) rfl (by simp [Value.oneCell']) ⟨⟨B4, c4, rfl, HCC.out, ?_⟩, rfl⟩ (by omega) (by omega) (by simp <;> omega) ?_))
        · have hr := HRO.out.below (bnew w4 (.cells #[.slice B4 o4.length c4, .int .i64 z4] 51)) (Nat.le_refl _)
          exact (Rd_iff.1 hr).wide (fun j hj => ⟨by have := hj.1; omega, by have := hj.2; simp only [World.size_alloc]; omega, fun e => by have := HOL.out j e; have := hj.1; omega⟩)
        intro A6 c6 w9 hO9 hc9 hv9
        have HO9 := hid hO9
        have hb9 : Below w.heap.size (w4.alloc (.cells #[.slice B4 o4.length c4, .int .i64 z4] 51)) w9 := hc9.below (by simp only [World.size_alloc]; omega) (fun j hj => (HO8.out.own_lt hj).1)
        have HB9 := hid (((bnew w4 (.cells #[.slice B4 o4.length c4, .int .i64 z4] 51)).mono (show w.heap.size ≤ w4.heap.size by omega)).trans hb9)
        have HV9 := hid fun j (hj : (Value.slice A6 (acc.length + 1) c6).ownBlock = some j) => (show j = w.heap.size ∨ w3.heap.size ≤ j by
          rcases hv9 with e | e
          · exact HV.out j (e.symm.trans hj)
          · rw [hj] at e
            injection e with e
            exact .inr (by have hs1 := World.size_alloc w4 (.cells #[.slice B4 o4.length c4, .int .i64 z4] 51); omega))
        have HD9 := hid (chg_app (HD4.out.trans ((chgW (D := fun k => k = rb ∨ k = w.heap.size) (bnew w4 (.cells #[.slice B4 o4.length c4, .int .i64 z4] 51))))) hc9 (fun j hj => by
          rcases HV.out j hj with h | h
          · exact .inl (.inr h)
          · exact .inr h))
        have HC9 := hid (chg_bl HC4.out HB9.out (Nat.le_refl _))
        have HR9 := hid (HR4.out.low HB9.out hrl)
        clear hO9 hc9 hv9 hb9
        go_wp2_with fail
        go_roundg (gk - 1)
        case measure => have := HKG.out; omega
        case rel =>
          refine ⟨k + 1, A6, c6, acc ++ [(o4, z4)], q4, by have := HKG.out; omega, by go_num, by rw [List.length_append]; rfl, by rw [List.length_append]; exact HO9.out, by rw [List.length_append]; show acc.length + 1 ≤ k + 1; omega, fun x hx => ?_, by omega, HR9.out, HC9.out, HD9.out, by rw [List.length_append]; exact HV9.out⟩
          rcases List.mem_append.1 hx with h | h
          · exact HAX.out x h
          · rw [List.mem_singleton] at h
            subst h
            exact HOB.out
      case neg =>
        have hub : (u == 0) = false := by rw [beq_eq_false_iff_ne]; exact hu
        go_wp2_with fail
        refine (pick_any rb wQ (q + 1) L HRQ.out (by omega) (by omega) (by omega)).mono ?_
        rintro e wP ⟨v, rfl, v0, v1, hrp, hcp⟩
        obtain ⟨j, rfl⟩ := Int.eq_ofNat_of_zero_le v0
        have hjL : j < L := by have := v1 (by omega); omega
        have hji : (j : Int) < (L : Int) := by omega
        have HRP := hid hrp
        have HOP := hid (HOQ.out.chg hcp (fun k hk => by omega))
        have HCP := hid (HCQ.out.trans hcp)
        have HDP := hid (HDQ.out.trans (hcp.wide (fun k hk => .inl hk)))
        have hwzp := hcp.size
        clear hrp hcp HOQ HRQ HCQ HDQ v0 v1
        have hjm := HIX.out (gt is j) (gt_mem (by rw [HL.out]; exact hjL))
        obtain ⟨g3, o3, rfl, hg3, _, hci⟩ := HIS.out.2.2 (by omega)
        have ci := HDP.out.cell (show ¬ (g3 = rb ∨ g3 = w.heap.size) by omega) (hci.int hjL)
        obtain ⟨x, hxj⟩ : ∃ x, gt is j = x := ⟨_, rfl⟩
        rw [hxj] at hjm ci
        obtain ⟨x, rfl⟩ := Int.eq_ofNat_of_zero_le hjm.1
        have hxm : x < m := by have := hjm.2; omega
        have hxi : (x : Int) < (m : Int) := by omega
        clear hci hjm hxj
        obtain ⟨bb, off, hB, hbb0, hbb, hcx⟩ := HY.out.2.2 (by omega)
        subst hB
        obtain ⟨x0, x1⟩ := hcx.str hxm
        have cx := HCP.out.cell (show ¬ bb = rb by omega) x0
        obtain ⟨s, hs⟩ : ∃ s, gt ws x = s := ⟨_, rfl⟩
        rw [hs] at cx x1
        clear hcx x0 hs
        go_wp2_with fail
        refine (specWrittenOf_any A n c _ sys s wP (HXX.out wP HCP.out) x1).mono ?_
        intro e w4 hres
        obtain ⟨B4, c4, z4, o4, ok4, rfl, hcc, ho8, hO4, hb4⟩ := hres
        have hz4 := hb4.size
        have HRO := hid (hO4.rd (by omega)).2
        have HCC := hid hcc
        have HOB := hid (show (o4, z4).1.length ≤ 8 from ho8)
        have HOL := hid fun j (hj : (Value.slice A5 acc.length c5).ownBlock = some j) => (HOP.out.own_lt hj).2
        have HO8 := hid (HOP.out.bl hb4)
        have HR4 := hid (HRP.out.chgR hb4)
        have HC4 := hid (HCP.out.trans (chgW hb4))
        have HD4 := hid (HDP.out.trans (chgW hb4))
        clear hcc hO4 hb4 cx ci
        go_wp2_with (at_builtin; go_loud (refine wpList_append_R2 rfl (.tmp 52) (.tmp 54) _ rfl writtenS Try.underlying40 HI.out rfl (by decide) (v := .slice A5 acc.length c5) rfl ((HO8.out.al _).al _) (y := (o4, z4)) (cs := [.slice B4 o4.length c4, .int .i64 z4]) rfl (heap_new2 _ _ _) rfl (by simp [Value.oneCell']) ⟨⟨B4, c4, rfl, HCC.out, ?_⟩, rfl⟩ (by omega) (by omega) (by simp <;> omega) ?_))
        · have hr := HRO.out.below (bal (bnew w4 (.cells #[.slice B4 o4.length c4, .int .i64 z4] 51)) (.cells #[.slice B4 o4.length c4, .int .i64 z4] 51)) (Nat.le_refl _)
          exact (Rd_iff.1 hr).wide (fun j hj => ⟨by have := hj.1; omega, by have := hj.2; simp only [World.size_alloc]; omega, fun e => by have := HOL.out j e; have := hj.1; omega⟩)
        intro A6 c6 w9 hO9 hc9 hv9
        have HO9 := hid hO9
        have hb9 : Below w.heap.size ((w4.alloc (.cells #[.slice B4 o4.length c4, .int .i64 z4] 51)).alloc (.cells #[.slice B4 o4.length c4, .int .i64 z4] 51)) w9 := hc9.below (by simp only [World.size_alloc]; omega) (fun j hj => (HO8.out.own_lt hj).1)
        have HB9 := hid (((bal (bnew w4 (.cells #[.slice B4 o4.length c4, .int .i64 z4] 51)) (.cells #[.slice B4 o4.length c4, .int .i64 z4] 51)).mono (show w.heap.size ≤ w4.heap.size by omega)).trans hb9)
        have HV9 := hid fun j (hj : (Value.slice A6 (acc.length + 1) c6).ownBlock = some j) => (show j = w.heap.size ∨ w3.heap.size ≤ j by
          rcases hv9 with e | e
          · exact HV.out j (e.symm.trans hj)
          · rw [hj] at e
            injection e with e
            exact .inr (by have hs1 := World.size_alloc w4 (.cells #[.slice B4 o4.length c4, .int .i64 z4] 51); have hs2 := World.size_alloc (w4.alloc (.cells #[.slice B4 o4.length c4, .int .i64 z4] 51)) (.cells #[.slice B4 o4.length c4, .int .i64 z4] 51); omega))
        have HD9 := hid (chg_app (HD4.out.trans ((chgW (D := fun k => k = rb ∨ k = w.heap.size) (bal (bnew w4 (.cells #[.slice B4 o4.length c4, .int .i64 z4] 51)) (.cells #[.slice B4 o4.length c4, .int .i64 z4] 51))))) hc9 (fun j hj => by
          rcases HV.out j hj with h | h
          · exact .inl (.inr h)
          · exact .inr h))
        have HC9 := hid (chg_bl HC4.out HB9.out (Nat.le_refl _))
        have HR9 := hid (HR4.out.low HB9.out hrl)
        clear hO9 hc9 hv9 hb9
        go_wp2_with fail
        go_roundg (gk - 1)
        case measure => have := HKG.out; omega
        case rel =>
          refine ⟨k + 1, A6, c6, acc ++ [(o4, z4)], q + 1 + 1, by have := HKG.out; omega, by go_num, by rw [List.length_append]; rfl, by rw [List.length_append]; exact HO9.out, by rw [List.length_append]; show acc.length + 1 ≤ k + 1; omega, fun x hx => ?_, by omega, HR9.out, HC9.out, HD9.out, by rw [List.length_append]; exact HV9.out⟩
          rcases List.mem_append.1 hx with h | h
          · exact HAX.out x h
          · rw [List.mem_singleton] at h
            subst h
            exact HOB.out
/-- A drawn line in new memory. -/
def SomeL (w : World) (e : Ending) (w' : World) : Prop :=
  ∃ A c l, e = .returned (.slice A (List.length l) c) ∧ List.length l ≤ c ∧ List.length l ≤ 4 ∧ (∀ x ∈ l, List.length (Prod.fst x) ≤ 8) ∧ OwnR writtenS w.heap.size w' 51 (.slice A (List.length l) c) l ∧ Below w.heap.size w w'
set_option maxHeartbeats 1000000 in
theorem DrawLineValid_any (A : Option Addr) (n c : Nat) (l : List UInt8) (w : World) (hnc : n ≤ c) (hx : Rd byteS 0 w.heap.size w A n l) :
    Calls Try.prog 61 #[.slice A n c] w (SomeL w) := by
  have HX := hid hx
  clear hx
  go_enter Try.func61, Try.ntmps61
  go_wp2_with fail
  refine (l6Open_any A n c l w hnc HX.out).mono ?_
  rintro e w1 ⟨rfl, hr1, hb1, hs1⟩
  have HR1 := hid hr1
  have HB1 := hid hb1
  have HS1 := hid hs1
  clear hr1 hb1 hs1
  go_wp2_with fail
  refine (l91Both_any _ _ _ HR1.out (by omega)).mono ?_
  intro e w2 hres
  obtain ⟨A, c, l, B, d, o, p', rfl, h1, h2, h3, h4, hO, hP, hp', hr2, hc2⟩ := hres
  have hs1 := HS1.out
  have HRX := hid ((hO.rd (by omega)).2.wide (lo' := w.heap.size + 1) (by omega) (Nat.le_refl _))
  have HRY := hid ((hP.rd (by omega)).2.wide (lo' := w.heap.size + 1) (by omega) (Nat.le_refl _))
  have HR2 := hid hr2
  have HB2 := hid (HB1.out.trans (hc2.below (by omega) (fun k hk => by omega)))
  have hz2 := hc2.size
  clear hO hP hr2 hc2
  go_wp2_with fail
  refine (l91Line_any A B _ c _ d w.heap.size p' l o w2 HR2.out (by omega) HRX.out HRY.out (by omega)).mono ?_
  intro e w3 hres
  obtain ⟨A3, c3, l3, rfl, k1, k2, k3, hO3, hc3⟩ := hres
  have HO3 := hid hO3
  have HK3 := hid k3
  have HC3 := hid hc3
  clear hO3 k3 hc3
  go_wp2_with fail
  go_ret
  exact ⟨A3, c3, l3, rfl, k1, k2, HK3.out, HO3.out.low (by omega), HB2.out.trans (HC3.out.below (by omega) (fun k hk => by omega))⟩
theorem DrawLineLength_any (A : Option Addr) (n c : Nat) (l : List UInt8) (w : World) (hnc : n ≤ c) (hx : Rd byteS 0 w.heap.size w A n l) :
    Calls Try.prog 31 #[.slice A n c] w (SomeL w) := by
  have HD := hid (DrawLineValid_any A n c l w hnc hx)
  clear hx
  go_enter Try.func31, Try.ntmps31
  go_wp2_with fail
  refine HD.out.mono ?_
  intro e w1 hres
  obtain ⟨A3, c3, l3, rfl, k1, k2, k3, hO3, hb3⟩ := hres
  have HO3 := hid hO3
  have HK3 := hid k3
  have HB3 := hid hb3
  clear hO3 k3 hb3
  go_wp2_with fail
  go_ret
  exact ⟨A3, c3, l3, rfl, k1, k2, HK3.out, HO3.out, HB3.out⟩
end Go.Proofs.Ytigemahbopligaa
