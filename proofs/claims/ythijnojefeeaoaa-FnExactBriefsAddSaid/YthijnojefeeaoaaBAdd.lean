/- What the reference's BriefsAdd returns. -/
import Derived.Test.YthijnojefeeaoaaAppS
import Derived.Test.YthijnojefeeaoaaBriefB
namespace Go.Proofs.Ythijnojefeeaoaa
open Go.RowKit
attribute [local go_sem] Oper.semAt_some
/-- Briefs of the call's own and whether there are any. -/
def RetBB (w : World) (V : Option (List BriefT)) (e : Ending) (w' : World) : Prop :=
  ∃ A n c ds, e = .returned (.tuple #[.slice A n c, .bool V.isSome]) ∧ NestB w.heap.size w'.heap.size w' (.slice A n c) ds ∧ n = ds.length ∧ ds.map brT = V.getD [] ∧ Below w.heap.size w w'
theorem chg_hi {D D' : Nat → Prop} {a b c : World} (h : Chg D a b) (k : Chg D' b c) (hd : ∀ j, D' j → a.heap.size ≤ j) : Chg D a c :=
  ⟨k.os.trans h.os, k.tape.trans h.tape, k.output.trans h.output, Nat.le_trans h.size k.size, fun j hj hn => (k.block j (Nat.lt_of_lt_of_le hj h.size) (fun e => by have := hd j e; omega)).trans (h.block j hj hn)⟩
theorem chgN0 (w : World) (o : Obj) : Chg (fun _ => False) w (w.alloc o) := chg_new w o _
theorem NestB.grow {lo hi n' c' : Nat} {A' : Option Addr} {wr X : World} {V : Value} {ds : List BrD} {d : BrD} (h : NestB lo hi wr V ds) (hlo : lo ≤ wr.heap.size) (hC : Chg (fun j => V.ownBlock = some j) wr X) (hO : OwnR brvS lo X 31 (.slice A' n' c') (ds.map brV ++ [brV d])) (hR : RowS X d.2) (hg : wr.heap.size ≤ d.2.1)
    (ho : (Value.slice A' n' c').ownBlock = V.ownBlock ∨ ∃ g3, (Value.slice A' n' c').ownBlock = some g3 ∧ wr.heap.size ≤ g3 ∧ g3 ≠ d.2.1) : NestB lo X.heap.size X (.slice A' n' c') (ds ++ [d]) := by
  have hvl : ∀ j, V.ownBlock = some j → j < wr.heap.size := fun j hj => (h.own.own_lt hj).2
  refine ⟨by rw [List.map_append]; exact hO, fun q hq => ?_, ?_⟩
  · rcases List.mem_append.1 hq with hq | hq
    · obtain ⟨q1, q2, q3, q4⟩ := h.row q hq
      have q5 := q4.lt
      have q6 := hC.size
      refine ⟨q1, by omega, ?_, q4.chg hC q3⟩
      rcases ho with ho | ⟨g3, ho, hg3, _⟩
      · rw [ho]; exact q3
      · rw [ho]
        intro e
        injection e with e
        omega
    · rw [List.mem_singleton] at hq
      subst hq
      refine ⟨by omega, hR.lt, ?_, hR⟩
      rcases ho with ho | ⟨g3, ho, _, hne⟩
      · rw [ho]
        intro e
        have := hvl _ e
        omega
      · rw [ho]
        intro e
        injection e with e
        exact hne e
  · rw [List.map_append]
    refine List.nodup_append.2 ⟨h.one, by simp, fun a ha b hb' => ?_⟩
    obtain ⟨q, hq, rfl⟩ := List.mem_map.1 ha
    simp only [List.map_cons, List.map_nil, List.mem_singleton] at hb'
    have := (h.row q hq).2.2.2.lt
    omega
set_option maxRecDepth 100000 in
set_option maxHeartbeats 4000000 in
theorem specBriefsAdd_any (A B : Option Addr) (n c q d : Nat) (bs : List BriefT) (s : ByteArray) (ys : List ByteArray) (w : World) (hx : Rd briefS 0 w.heap.size w A n bs) (hy : Rd strS 0 w.heap.size w B q ys) (hs : s.size ≤ 9223372036854775807) (hn : n ≤ 1048576) (hwl : ∀ b ∈ bs, b.2.length ≤ 1048576) (hq : q ≤ 1048576) :
    Calls Try.prog 35 #[.slice A n c, .agg #[.string s, .slice B q d]] w (RetBB w (addB bs (s, ys))) := by
  obtain ⟨i0, hi1, hz0, hz1, hz2⟩ := info_parts (show (Try.prog.info? 9).map (fun i => (i.zero, i.size, i.bytes)) = some (some (.string ByteArray.empty), 1, 16) by kernel_rfl)
  have HI := hid (And.intro hi1 (And.intro hz0 (And.intro hz1 hz2)))
  clear hi1 hz0 hz1 hz2
  obtain ⟨i1, hi1, hz0, hz1, hz2⟩ := info_parts (show (Try.prog.info? 31).map (fun i => (i.zero, i.size, i.bytes)) = some (some (.agg #[.string ⟨#[]⟩, .slice none 0 0]), 2, 40) by kernel_rfl)
  have HJ := hid (And.intro hi1 (And.intro hz0 (And.intro hz1 hz2)))
  clear hi1 hz0 hz1 hz2
  have b1 := bnew w (.cells #[.string s, .slice B q d] 31)
  have n1 := heap_alloc_new w (.cells #[.string s, .slice B q d] 31)
  have z1 := World.size_alloc w (.cells #[.string s, .slice B q d] 31)
  obtain ⟨w1, hw1⟩ : ∃ w1, w.alloc (.cells #[.string s, .slice B q d] 31) = w1 := ⟨_, rfl⟩
  rw [hw1] at b1 n1 z1
  have HW1 := hid hw1
  have HX := hid (hx.bl b1)
  have HY := hid (hy.bl b1)
  have HN1 := hid n1
  have HB1 := hid b1
  have Z1 := hid z1
  have E1 := hid hx.1
  have F1 := hid hy.1
  have HWL := hid hwl
  have N0 := hid (show NestB w1.heap.size (w1.alloc (.cells #[] 31)).heap.size (w1.alloc (.cells #[] 31)) (.slice (some ⟨w1.heap.size, 0, none⟩) 0 0) [] from ⟨OwnR.nil (Nat.le_refl _) #[] rfl, (fun r hr => by cases hr), List.nodup_nil⟩)
  have HBN := hid (bnew w1 (.cells #[] 31))
  clear hx hy b1 n1 z1 hw1 hwl
  go_enter Try.func35, Try.ntmps35
  go_wp2_with fail
  rw [HW1.out]
  have e1 : w.heap.size + 1 = w1.heap.size := Z1.out.symm
  rw [e1]
  clear e1
  go_loopg [6, 7] n (fun gk l6 i wr => ∃ (k : Nat) (A5 : Option Addr) (c5 : Nat) (ds : List BrD), k + gk = n ∧ i = .int .i64 k ∧ l6 = .slice A5 k c5 ∧ NestB w1.heap.size wr.heap.size wr (.slice A5 k c5) ds ∧ ds.length = k ∧ ds.map brT = bs.take k ∧ Below w1.heap.size w1 wr)
  case atStart => exact ⟨0, _, _, [], Nat.zero_add _, rfl, rfl, N0.out, rfl, by simp, HBN.out⟩
  case round =>
    clear N0 HBN
    obtain ⟨k, A5, c5, ds, hkg, rfl, rfl, hN, hdl, hdm, hb⟩ := hrel
    have HKG := hid hkg
    have HN := hid hN
    have HDL := hid hdl
    have HDM := hid hdm
    have HB := hid hb
    have hk : k ≤ n := by omega
    have hwz := hb.size
    obtain ⟨V, hV⟩ : ∃ V, Value.slice A5 k c5 = V := ⟨_, rfl⟩
    have HO := hid hN.own
    have hvl : ∀ j, V.ownBlock = some j → w1.heap.size ≤ j ∧ j < wr.heap.size := fun j hj => by rw [← hV] at hj; exact hN.own.own_lt hj
    have HVL := hid hvl
    have hdlm : (ds.map brV).length = k := by rw [List.length_map, hdl]
    have HDLM := hid hdlm
    clear hkg hN hdl hdm hb hvl hdlm
    by_cases hlt : k < n
    case pos =>
      have hki : (k : Int) < (n : Int) := by omega
      have hkb : k < bs.length := by rw [← E1.out]; exact hlt
      obtain ⟨bb, ob, hA, _, hbb, hcx⟩ := HX.out.2.2 (by omega)
      subst hA
      obtain ⟨A1, c1, x0, x1, x2, _, x4⟩ := hcx.brief hlt
      have HTK := hid (take_gt hkb)
      have hl1 := HWL.out _ (gt_mem hkb)
      obtain ⟨B2, hB2⟩ : ∃ B2, gt bs k = B2 := ⟨_, rfl⟩
      rw [hB2] at x0 x1 x2 x4 HTK hl1
      obtain ⟨s1, zs⟩ := B2
      dsimp only at x0 x1 x2 x4 hl1
      obtain ⟨u, hu⟩ : ∃ u, zs.length = u := ⟨_, rfl⟩
      rw [hu] at x1 x4 hl1
      have HU := hid hu
      have HX4 := hid x4
      have cx0 := (HB.out.cell (p := ⟨bb, ob + k * 2, none⟩) hbb).trans x0
      have cx1 := (HB.out.cell (p := ⟨bb, ob + k * 2 + 1, none⟩) hbb).trans x1
      have hbo : ¬ V.ownBlock = some bb := fun e => by have := HVL.out _ e; omega
      clear hcx x0 x1 x4 hB2 hu hkb
      rw [hV]
      rw [hV] at HO HN
      have HHV := hid hV
      go_wp2_with fail
      refine wp_region_invH (by kernel_rfl) (by kernel_rfl) (fun L act X => ∃ v6 v15 v16 v17 v18 v19 v20 v21 v22 v23 v24 v25 v26 v27 v28 v29 v30 : Value, act = { tmps := #[.slice (some ⟨bb, ob, none⟩) n c, .agg #[.string s, .slice B q d], undef, .pointer (some ⟨w.heap.size, 0, none⟩), .slice none 0 0, .bool false, v6, .int .i64 k, .slice (some ⟨w1.heap.size, 0, none⟩) 0 0, .int .i64 k, .slice (some ⟨bb, ob, none⟩) n c, .int .i64 n, .bool true, u13, u14, v15, v16, v17, v18, v19, v20, v21, v22, v23, v24, v25, v26, v27, v28, v29, v30, undef, undef, undef, undef, undef, undef, undef, undef, undef, undef, undef, undef, undef, undef, undef], defers := [] } ∧
        (Chg (fun j => V.ownBlock = some j) wr X) ∧ (L 15 = false → OwnR brvS w1.heap.size X 31 V (ds.map brV)) ∧ (L 6 = false → L 12 = false) ∧ (L 12 = false → L 13 = false) ∧ (L 13 = false → L 14 = false) ∧ (L 14 = false → L 15 = false) ∧ (L 15 = false → L 16 = false) ∧ (L 0 = false → L 15 = false) ∧ (L 16 = false → V = v6) ∧ (L 0 = true → V = v15) ∧ (L 1 = true → v16 = .slice (some ⟨bb, ob, none⟩) n c) ∧ (L 2 = true → v17 = .int .i64 k) ∧ (L 3 = true → v18 = .pointer (some ⟨bb, ob + k * 2, none⟩)) ∧ (L 4 = true → v19 = .pointer (some ⟨bb, ob + k * 2, none⟩)) ∧ (L 5 = true → v20 = .string s1) ∧ (L 6 = true → L 12 = false → ∃ g : Nat, v21 = .slice (some ⟨g, 0, none⟩) 0 0 ∧ OwnR strS wr.heap.size X 9 (.slice (some ⟨g, 0, none⟩) 0 0) []) ∧ (L 7 = true → v22 = .slice (some ⟨bb, ob, none⟩) n c) ∧ (L 8 = true → v23 = .int .i64 k) ∧ (L 9 = true → v24 = .pointer (some ⟨bb, ob + k * 2, none⟩)) ∧ (L 10 = true → v25 = .pointer (some ⟨bb, ob + k * 2 + 1, none⟩)) ∧ (L 11 = true → v26 = .slice A1 u c1) ∧ (L 12 = true → ∃ g c2 : Nat, v27 = .slice (some ⟨g, 0, none⟩) u c2 ∧ RowS X (g, c2, zs) ∧ wr.heap.size ≤ g) ∧ (L 13 = true → ∃ g c2 : Nat, v28 = .agg #[.string s1, .slice (some ⟨g, 0, none⟩) u c2] ∧ RowS X (g, c2, zs) ∧ wr.heap.size ≤ g) ∧ (L 14 = true → ∃ g c2 g2 : Nat, v29 = .slice (some ⟨g2, 0, none⟩) 1 1 ∧ X.heap[g2]? = some (.cells #[.string s1, .slice (some ⟨g, 0, none⟩) u c2] 31 (0, 0)) ∧ wr.heap.size ≤ g2 ∧ RowS X (g, c2, zs) ∧ wr.heap.size ≤ g) ∧ (L 15 = true → ∃ (g c2 : Nat) (A6 : Option Addr) (c6 : Nat), v30 = .slice A6 (k + 1) c6 ∧ OwnR brvS w1.heap.size X 31 (.slice A6 (k + 1) c6) (ds.map brV ++ [brV (s1, g, c2, zs)]) ∧ ((Value.slice A6 (k + 1) c6).ownBlock = V.ownBlock ∨ ∃ g3, (Value.slice A6 (k + 1) c6).ownBlock = some g3 ∧ wr.heap.size ≤ g3 ∧ g3 ≠ g) ∧ RowS X (g, c2, zs) ∧ wr.heap.size ≤ g) ∧ (L 16 = true → v6 = v30)) ?_ ⟨?_, ?_, ?_, ?_, ?_, ?_, ?_, ?_, ?_, ?_, ?_, ?_, ?_, ?_, ?_, ?_, ?_, trivial⟩ ?_
      · exact ⟨_, _, _, _, _, _, _, _, _, _, _, _, _, _, _, _, _, rfl, (Chg.refl _ _).drew, fun _ => HO.out.flat brvS_flat (Chg.refl (fun _ => False) wr).drew (fun _ _ h => h), fun _ => rfl, fun _ => rfl, fun _ => rfl, fun _ => rfl, fun _ => rfl, fun _ => rfl, fun _ => rfl, fun h => (by cases h), fun h => (by cases h), fun h => (by cases h), fun h => (by cases h), fun h => (by cases h), fun h => (by cases h), fun h => (by cases h), fun h => (by cases h), fun h => (by cases h), fun h => (by cases h), fun h => (by cases h), fun h => (by cases h), fun h => (by cases h), fun h => (by cases h), fun h => (by cases h), fun h => (by cases h), fun h => (by cases h)⟩
      · rintro L act X K0 ⟨v6, v15, v16, v17, v18, v19, v20, v21, v22, v23, v24, v25, v26, v27, v28, v29, v30, rfl, hC, hO, o0, o1, o2, o3, o4, o5, h6, f0, f1, f2, f3, f4, f5, f6, f7, f8, f9, f10, f11, f12, f13, f14, f15, f16⟩ hL hd hK
        obtain rfl := h6 (o4 (o5 hL))
        clear hd
        refine ⟨rfl, ?_⟩
        go_simp
        exact hK _ _ ⟨_, _, _, _, _, _, _, _, _, _, _, _, _, _, _, _, _, rfl, hC, hO, o0, o1, o2, o3, o4, fun h => (by cases h), h6, fun _ => rfl, f1, f2, f3, f4, f5, f6, f7, f8, f9, f10, f11, f12, f13, f14, f15, f16⟩
      · rintro L act X K0 ⟨v6, v15, v16, v17, v18, v19, v20, v21, v22, v23, v24, v25, v26, v27, v28, v29, v30, rfl, hC, hO, o0, o1, o2, o3, o4, o5, h6, f0, f1, f2, f3, f4, f5, f6, f7, f8, f9, f10, f11, f12, f13, f14, f15, f16⟩ hL hd hK
        clear hd
        refine ⟨rfl, ?_⟩
        go_simp
        exact hK _ _ ⟨_, _, _, _, _, _, _, _, _, _, _, _, _, _, _, _, _, rfl, hC, hO, o0, o1, o2, o3, o4, o5, h6, f0, fun _ => rfl, f2, f3, f4, f5, f6, f7, f8, f9, f10, f11, f12, f13, f14, f15, f16⟩
      · rintro L act X K0 ⟨v6, v15, v16, v17, v18, v19, v20, v21, v22, v23, v24, v25, v26, v27, v28, v29, v30, rfl, hC, hO, o0, o1, o2, o3, o4, o5, h6, f0, f1, f2, f3, f4, f5, f6, f7, f8, f9, f10, f11, f12, f13, f14, f15, f16⟩ hL hd hK
        clear hd
        refine ⟨rfl, ?_⟩
        go_simp
        exact hK _ _ ⟨_, _, _, _, _, _, _, _, _, _, _, _, _, _, _, _, _, rfl, hC, hO, o0, o1, o2, o3, o4, o5, h6, f0, f1, fun _ => rfl, f3, f4, f5, f6, f7, f8, f9, f10, f11, f12, f13, f14, f15, f16⟩
      · rintro L act X K0 ⟨v6, v15, v16, v17, v18, v19, v20, v21, v22, v23, v24, v25, v26, v27, v28, v29, v30, rfl, hC, hO, o0, o1, o2, o3, o4, o5, h6, f0, f1, f2, f3, f4, f5, f6, f7, f8, f9, f10, f11, f12, f13, f14, f15, f16⟩ hL hd hK
        have d1 := hd ⟨1, .data⟩ (by simp) rfl
        obtain rfl := f1 d1
        have d2 := hd ⟨2, .data⟩ (by simp) rfl
        obtain rfl := f2 d2
        clear hd
        refine ⟨rfl, ?_⟩
        go_simp
        exact hK _ _ ⟨_, _, _, _, _, _, _, _, _, _, _, _, _, _, _, _, _, rfl, hC, hO, o0, o1, o2, o3, o4, o5, h6, f0, f1, f2, fun _ => rfl, f4, f5, f6, f7, f8, f9, f10, f11, f12, f13, f14, f15, f16⟩
      · rintro L act X K0 ⟨v6, v15, v16, v17, v18, v19, v20, v21, v22, v23, v24, v25, v26, v27, v28, v29, v30, rfl, hC, hO, o0, o1, o2, o3, o4, o5, h6, f0, f1, f2, f3, f4, f5, f6, f7, f8, f9, f10, f11, f12, f13, f14, f15, f16⟩ hL hd hK
        have d3 := hd ⟨3, .data⟩ (by simp) rfl
        obtain rfl := f3 d3
        clear hd
        refine ⟨rfl, ?_⟩
        go_simp
        exact hK _ _ ⟨_, _, _, _, _, _, _, _, _, _, _, _, _, _, _, _, _, rfl, hC, hO, o0, o1, o2, o3, o4, o5, h6, f0, f1, f2, f3, fun _ => rfl, f5, f6, f7, f8, f9, f10, f11, f12, f13, f14, f15, f16⟩
      · rintro L act X K0 ⟨v6, v15, v16, v17, v18, v19, v20, v21, v22, v23, v24, v25, v26, v27, v28, v29, v30, rfl, hC, hO, o0, o1, o2, o3, o4, o5, h6, f0, f1, f2, f3, f4, f5, f6, f7, f8, f9, f10, f11, f12, f13, f14, f15, f16⟩ hL hd hK
        have d4 := hd ⟨4, .data⟩ (by simp) rfl
        obtain rfl := f4 d4
        have q0 := hC.cell hbo cx0
        clear hd
        refine ⟨rfl, ?_⟩
        go_simp
        exact hK _ _ ⟨_, _, _, _, _, _, _, _, _, _, _, _, _, _, _, _, _, rfl, hC, hO, o0, o1, o2, o3, o4, o5, h6, f0, f1, f2, f3, f4, fun _ => rfl, f6, f7, f8, f9, f10, f11, f12, f13, f14, f15, f16⟩
      · rintro L act X K0 ⟨v6, v15, v16, v17, v18, v19, v20, v21, v22, v23, v24, v25, v26, v27, v28, v29, v30, rfl, hC, hO, o0, o1, o2, o3, o4, o5, h6, f0, f1, f2, f3, f4, f5, f6, f7, f8, f9, f10, f11, f12, f13, f14, f15, f16⟩ hL hd hK
        have hc := chgN0 X (.cells #[] 9)
        clear hd
        refine ⟨rfl, ?_⟩
        go_simp
        exact hK _ _ ⟨_, _, _, _, _, _, _, _, _, _, _, _, _, _, _, _, _, rfl, hC.trans (hc.wide (fun _ h => h.elim)), fun h => (hO h).flat brvS_flat hc (fun _ _ h => h), fun h => (by cases h), o1, o2, o3, o4, o5, h6, f0, f1, f2, f3, f4, f5, fun _ _ => ⟨_, rfl, OwnR.nil hC.size #[] rfl⟩, f7, f8, f9, f10, f11, fun h => (by obtain ⟨g, c2, e, r, hg⟩ := f12 h; exact ⟨g, c2, e, r.chg hc (fun h => h), hg⟩), fun h => (by obtain ⟨g, c2, e, r, hg⟩ := f13 h; exact ⟨g, c2, e, r.chg hc (fun h => h), hg⟩), fun h => (by obtain ⟨g, c2, g2, e, hh, hg2, r, hg⟩ := f14 h; exact ⟨g, c2, g2, e, (hc.block g2 (Array.getElem?_eq_some_iff.1 hh).1 (fun h => h)).trans hh, hg2, r.chg hc (fun h => h), hg⟩), fun h => (by obtain ⟨g, c2, A6, c6, e, l, hv, r, hg⟩ := f15 h; exact ⟨g, c2, A6, c6, e, l.flat brvS_flat hc (fun _ _ h => h), hv, r.chg hc (fun h => h), hg⟩), f16⟩
      · rintro L act X K0 ⟨v6, v15, v16, v17, v18, v19, v20, v21, v22, v23, v24, v25, v26, v27, v28, v29, v30, rfl, hC, hO, o0, o1, o2, o3, o4, o5, h6, f0, f1, f2, f3, f4, f5, f6, f7, f8, f9, f10, f11, f12, f13, f14, f15, f16⟩ hL hd hK
        clear hd
        refine ⟨rfl, ?_⟩
        go_simp
        exact hK _ _ ⟨_, _, _, _, _, _, _, _, _, _, _, _, _, _, _, _, _, rfl, hC, hO, o0, o1, o2, o3, o4, o5, h6, f0, f1, f2, f3, f4, f5, f6, fun _ => rfl, f8, f9, f10, f11, f12, f13, f14, f15, f16⟩
      · rintro L act X K0 ⟨v6, v15, v16, v17, v18, v19, v20, v21, v22, v23, v24, v25, v26, v27, v28, v29, v30, rfl, hC, hO, o0, o1, o2, o3, o4, o5, h6, f0, f1, f2, f3, f4, f5, f6, f7, f8, f9, f10, f11, f12, f13, f14, f15, f16⟩ hL hd hK
        clear hd
        refine ⟨rfl, ?_⟩
        go_simp
        exact hK _ _ ⟨_, _, _, _, _, _, _, _, _, _, _, _, _, _, _, _, _, rfl, hC, hO, o0, o1, o2, o3, o4, o5, h6, f0, f1, f2, f3, f4, f5, f6, f7, fun _ => rfl, f9, f10, f11, f12, f13, f14, f15, f16⟩
      · rintro L act X K0 ⟨v6, v15, v16, v17, v18, v19, v20, v21, v22, v23, v24, v25, v26, v27, v28, v29, v30, rfl, hC, hO, o0, o1, o2, o3, o4, o5, h6, f0, f1, f2, f3, f4, f5, f6, f7, f8, f9, f10, f11, f12, f13, f14, f15, f16⟩ hL hd hK
        have d7 := hd ⟨7, .data⟩ (by simp) rfl
        obtain rfl := f7 d7
        have d8 := hd ⟨8, .data⟩ (by simp) rfl
        obtain rfl := f8 d8
        clear hd
        refine ⟨rfl, ?_⟩
        go_simp
        exact hK _ _ ⟨_, _, _, _, _, _, _, _, _, _, _, _, _, _, _, _, _, rfl, hC, hO, o0, o1, o2, o3, o4, o5, h6, f0, f1, f2, f3, f4, f5, f6, f7, f8, fun _ => rfl, f10, f11, f12, f13, f14, f15, f16⟩
      · rintro L act X K0 ⟨v6, v15, v16, v17, v18, v19, v20, v21, v22, v23, v24, v25, v26, v27, v28, v29, v30, rfl, hC, hO, o0, o1, o2, o3, o4, o5, h6, f0, f1, f2, f3, f4, f5, f6, f7, f8, f9, f10, f11, f12, f13, f14, f15, f16⟩ hL hd hK
        have d9 := hd ⟨9, .data⟩ (by simp) rfl
        obtain rfl := f9 d9
        clear hd
        refine ⟨rfl, ?_⟩
        go_simp
        exact hK _ _ ⟨_, _, _, _, _, _, _, _, _, _, _, _, _, _, _, _, _, rfl, hC, hO, o0, o1, o2, o3, o4, o5, h6, f0, f1, f2, f3, f4, f5, f6, f7, f8, f9, fun _ => rfl, f11, f12, f13, f14, f15, f16⟩
      · rintro L act X K0 ⟨v6, v15, v16, v17, v18, v19, v20, v21, v22, v23, v24, v25, v26, v27, v28, v29, v30, rfl, hC, hO, o0, o1, o2, o3, o4, o5, h6, f0, f1, f2, f3, f4, f5, f6, f7, f8, f9, f10, f11, f12, f13, f14, f15, f16⟩ hL hd hK
        have d10 := hd ⟨10, .data⟩ (by simp) rfl
        obtain rfl := f10 d10
        have q0 := hC.cell hbo cx1
        clear hd
        refine ⟨rfl, ?_⟩
        go_simp
        exact hK _ _ ⟨_, _, _, _, _, _, _, _, _, _, _, _, _, _, _, _, _, rfl, hC, hO, o0, o1, o2, o3, o4, o5, h6, f0, f1, f2, f3, f4, f5, f6, f7, f8, f9, f10, fun _ => rfl, f12, f13, f14, f15, f16⟩
      · rintro L act X K0 ⟨v6, v15, v16, v17, v18, v19, v20, v21, v22, v23, v24, v25, v26, v27, v28, v29, v30, rfl, hC, hO, o0, o1, o2, o3, o4, o5, h6, f0, f1, f2, f3, f4, f5, f6, f7, f8, f9, f10, f11, f12, f13, f14, f15, f16⟩ hL hd hK
        have d6 := hd ⟨6, .data⟩ (by simp) rfl
        have d11 := hd ⟨11, .data⟩ (by simp) rfl
        obtain rfl := f11 d11
        obtain ⟨g, rfl, lE⟩ := f6 d6 hL
        have hXs := hC.size
        have hgw := (lE.own_lt (k := g) rfl)
        clear hd
        refine ⟨rfl, ?_⟩
        refine wp_append_strs (.tmp 21) (.tmp 26) _ rfl Try.underlying24 HI.out rfl (v := .slice (some ⟨g, 0, none⟩) 0 0) rfl lE rfl HU.out (HX4.out.bl (HB.out.trans (hC.below hwz (fun j e => (HVL.out j e).1)))) (by simp; omega) (by omega) ?_
        intro A' c' X2 hO2 hc0 hv
        rw [List.nil_append, List.length_nil, Nat.zero_add] at hO2
        rw [List.length_nil, Nat.zero_add] at hv
        have hk2 : ∃ g2, (Value.slice A' u c').ownBlock = some g2 ∧ wr.heap.size ≤ g2 := by
          rcases hv with e | e
          · exact ⟨g, e, hgw.1⟩
          · exact ⟨_, e, hXs⟩
        obtain ⟨g2, hg2, hg2l⟩ := hk2
        obtain rfl := hO2.at_block hg2
        have hrw := (hO2.rowS (by have := HU.out; omega)).2.1
        have hc : Chg (fun j => j = g) X X2 := hc0.wide (fun j h => by have h' : some g = some j := h; injection h' with h'; exact h'.symm)
        rw [List.length_nil, Nat.zero_add]
        exact hK _ _ ⟨_, _, _, _, _, _, _, _, _, _, _, _, _, _, _, _, _, rfl, chg_hi hC hc (fun j e => by omega), fun h => (hO h).flat brvS_flat hc (fun j h1 h2 => by have := HVL.out _ h1; omega), fun h => absurd ((d6).symm.trans h) (by decide), fun h => (by cases h), o2, o3, o4, o5, h6, f0, f1, f2, f3, f4, f5, fun _ h => (by cases h), f7, f8, f9, f10, f11, fun _ => ⟨g2, c', rfl, hrw, hg2l⟩, fun h => absurd ((o1 hL).symm.trans h) (by decide), fun h => absurd ((o2 (o1 hL)).symm.trans h) (by decide), fun h => absurd ((o3 (o2 (o1 hL))).symm.trans h) (by decide), f16⟩
      · rintro L act X K0 ⟨v6, v15, v16, v17, v18, v19, v20, v21, v22, v23, v24, v25, v26, v27, v28, v29, v30, rfl, hC, hO, o0, o1, o2, o3, o4, o5, h6, f0, f1, f2, f3, f4, f5, f6, f7, f8, f9, f10, f11, f12, f13, f14, f15, f16⟩ hL hd hK
        have d5 := hd ⟨5, .data⟩ (by simp) rfl
        obtain rfl := f5 d5
        have d12 := hd ⟨12, .data⟩ (by simp) rfl
        obtain ⟨g, c2, rfl, rA, hgA⟩ := f12 d12
        clear hd
        refine ⟨rfl, ?_⟩
        go_simp
        exact hK _ _ ⟨_, _, _, _, _, _, _, _, _, _, _, _, _, _, _, _, _, rfl, hC, hO, o0, fun h => absurd ((d12).symm.trans h) (by decide), fun h => (by cases h), o3, o4, o5, h6, f0, f1, f2, f3, f4, f5, f6, f7, f8, f9, f10, f11, fun _ => ⟨g, c2, rfl, rA, hgA⟩, fun _ => ⟨g, c2, rfl, rA, hgA⟩, f14, f15, f16⟩
      · rintro L act X K0 ⟨v6, v15, v16, v17, v18, v19, v20, v21, v22, v23, v24, v25, v26, v27, v28, v29, v30, rfl, hC, hO, o0, o1, o2, o3, o4, o5, h6, f0, f1, f2, f3, f4, f5, f6, f7, f8, f9, f10, f11, f12, f13, f14, f15, f16⟩ hL hd hK
        have d13 := hd ⟨13, .data⟩ (by simp) rfl
        obtain ⟨g, c2, rfl, rA, hgA⟩ := f13 d13
        have hc := chgN0 X (.cells #[.string s1, .slice (some ⟨g, 0, none⟩) u c2] 31)
        clear hd
        refine ⟨rfl, ?_⟩
        go_simp
        exact hK _ _ ⟨_, _, _, _, _, _, _, _, _, _, _, _, _, _, _, _, _, rfl, hC.trans (hc.wide (fun _ h => h.elim)), fun h => (hO h).flat brvS_flat hc (fun _ _ h => h), o0, o1, fun h => absurd ((d13).symm.trans h) (by decide), fun h => (by cases h), o4, o5, h6, f0, f1, f2, f3, f4, f5, fun h h9 => (by obtain ⟨g, e, l⟩ := f6 h h9; exact ⟨g, e, l.flat strS_flat' hc (fun _ _ h => h)⟩), f7, f8, f9, f10, f11, fun h => (by obtain ⟨g, c2, e, r, hg⟩ := f12 h; exact ⟨g, c2, e, r.chg hc (fun h => h), hg⟩), fun _ => ⟨g, c2, rfl, rA.chg hc (fun h => h), hgA⟩, fun _ => ⟨g, c2, _, rfl, heap_alloc_new _ _, hC.size, rA.chg hc (fun h => h), hgA⟩, fun h => (by obtain ⟨g, c2, A6, c6, e, l, hv, r, hg⟩ := f15 h; exact ⟨g, c2, A6, c6, e, l.flat brvS_flat hc (fun _ _ h => h), hv, r.chg hc (fun h => h), hg⟩), f16⟩
      · rintro L act X K0 ⟨v6, v15, v16, v17, v18, v19, v20, v21, v22, v23, v24, v25, v26, v27, v28, v29, v30, rfl, hC, hO, o0, o1, o2, o3, o4, o5, h6, f0, f1, f2, f3, f4, f5, f6, f7, f8, f9, f10, f11, f12, f13, f14, f15, f16⟩ hL hd hK
        have d0 := hd ⟨0, .data⟩ (by simp) rfl
        obtain rfl := f0 d0
        have d14 := hd ⟨14, .data⟩ (by simp) rfl
        obtain ⟨g, c2, g2, rfl, hh, hg2, rA, hgA⟩ := f14 d14
        have hXs := hC.size
        have hdl := HDLM.out
        clear hd
        refine ⟨rfl, ?_⟩
        refine wp_append_R2 (.tmp 15) (.tmp 29) _ rfl brvS Try.underlying23 HJ.out rfl (by decide) (v := V) rfl (hO hL) (y := brV (s1, g, c2, zs)) rfl hh rfl (by simp [Value.oneCell']) ⟨rfl, x2, by show Value.slice _ u c2 = Value.slice _ zs.length c2; rw [HU.out]⟩ (by omega) (by omega) (by omega) ?_
        intro A' c' X2 hO2 hc hv
        rw [hdl] at hO2 hv ⊢
        have hv2 : (Value.slice A' (k + 1) c').ownBlock = V.ownBlock ∨ ∃ g3, (Value.slice A' (k + 1) c').ownBlock = some g3 ∧ wr.heap.size ≤ g3 ∧ g3 ≠ g := hv.imp id (fun e => ⟨_, e, hXs, by have := rA.lt; intro e2; dsimp only at this; omega⟩)
        exact hK _ _ ⟨_, _, _, _, _, _, _, _, _, _, _, _, _, _, _, _, _, rfl, hC.trans hc, fun h => (by cases h), o0, o1, o2, fun h => absurd ((d14).symm.trans h) (by decide), fun h => (by cases h), fun h => absurd ((d0).symm.trans h) (by decide), h6, f0, f1, f2, f3, f4, f5, fun h h9 => (by obtain ⟨g, e, l⟩ := f6 h h9; exact ⟨g, e, l.flat strS_flat' hc (fun j h1 h2 => by have := (l.own_lt h1).1; have := HVL.out _ h2; omega)⟩), f7, f8, f9, f10, f11, fun h => (by obtain ⟨g, c2, e, r, hg⟩ := f12 h; exact ⟨g, c2, e, r.chg hc (fun e => by have := HVL.out _ e; omega), hg⟩), fun h => (by obtain ⟨g, c2, e, r, hg⟩ := f13 h; exact ⟨g, c2, e, r.chg hc (fun e => by have := HVL.out _ e; omega), hg⟩), fun _ => ⟨g, c2, g2, rfl, (hc.block g2 (Array.getElem?_eq_some_iff.1 hh).1 (fun e => by have := HVL.out _ e; omega)).trans hh, hg2, rA.chg hc (fun e => by have := HVL.out _ e; dsimp only at this; omega), hgA⟩, fun _ => ⟨g, c2, A', c', rfl, hO2, hv2, rA.chg hc (fun e => by have := HVL.out _ e; dsimp only at this; omega), hgA⟩, fun h => absurd ((o4 hL).symm.trans h) (by decide)⟩
      · rintro L act X K0 ⟨v6, v15, v16, v17, v18, v19, v20, v21, v22, v23, v24, v25, v26, v27, v28, v29, v30, rfl, hC, hO, o0, o1, o2, o3, o4, o5, h6, f0, f1, f2, f3, f4, f5, f6, f7, f8, f9, f10, f11, f12, f13, f14, f15, f16⟩ hL hd hK
        have d15 := hd ⟨15, .data⟩ (by simp) rfl
        obtain ⟨g, c2, A6, c6, rfl, l6, h6, rA, hgA⟩ := f15 d15
        clear hd
        refine ⟨rfl, ?_⟩
        go_simp
        exact hK _ _ ⟨_, _, _, _, _, _, _, _, _, _, _, _, _, _, _, _, _, rfl, hC, hO, o0, o1, o2, o3, fun h => absurd ((d15).symm.trans h) (by decide), o5, fun h => (by cases h), f0, f1, f2, f3, f4, f5, f6, f7, f8, f9, f10, f11, f12, f13, f14, fun _ => ⟨g, c2, A6, c6, rfl, l6, h6, rA, hgA⟩, fun _ => rfl⟩
      · rintro L act X hLL ⟨v6, v15, v16, v17, v18, v19, v20, v21, v22, v23, v24, v25, v26, v27, v28, v29, v30, rfl, hC, hO, o0, o1, o2, o3, o4, o5, h6, f0, f1, f2, f3, f4, f5, f6, f7, f8, f9, f10, f11, f12, f13, f14, f15, f16⟩
        obtain ⟨g, c2, A6, c6, e6, l6, h8, rA, hgA⟩ := f15 (hLL 15 (by simp))
        subst e6
        obtain rfl := f16 (hLL 16 (by simp))
        have HF := hid (And.intro l6 (And.intro h8 (And.intro rA (And.intro hgA hC))))
        clear l6 h8 rA hgA hC cx0 cx1
        try clear f0
        try clear f1
        try clear f2
        try clear f3
        try clear f4
        try clear f5
        try clear f6
        try clear f7
        try clear f8
        try clear f9
        try clear f10
        try clear f11
        try clear f12
        try clear f13
        try clear f14
        try clear f15
        try clear f16
        try clear o0
        try clear o1
        try clear o2
        try clear o3
        try clear o4
        try clear o5
        try clear h6
        try clear hO
        try clear hLL
        go_wp2_with fail
        go_roundg (gk - 1)
        case measure => have := HKG.out; omega
        case rel => exact ⟨k + 1, A6, c6, ds ++ [(s1, g, c2, zs)], by have := HKG.out; omega, by go_num, rfl, NestB.grow (d := (s1, g, c2, zs)) HN.out hwz HF.out.2.2.2.2 HF.out.1 HF.out.2.2.1 HF.out.2.2.2.1 HF.out.2.1, by rw [List.length_append, HDL.out]; rfl, by rw [List.map_append, HDM.out, HTK.out]; rfl, HB.out.trans (HF.out.2.2.2.2.below hwz (fun j e => (HVL.out j e).1))⟩
    case neg =>
      obtain rfl : k = n := by omega
      have cx0 : wr.cell? ⟨w.heap.size, 0, none⟩ = some (.string s) := (HB.out.cell (p := ⟨w.heap.size, 0, none⟩) (by have := Z1.out; show w.heap.size < _; omega)).trans (by rw [cell_of_row _ _ _ _ _ (0, 0) HN1.out]; rfl)
      have cx1 : wr.cell? ⟨w.heap.size, 1, none⟩ = some (.slice B q d) := (HB.out.cell (p := ⟨w.heap.size, 1, none⟩) (by have := Z1.out; show w.heap.size < _; omega)).trans (by rw [cell_of_row _ _ _ _ _ (0, 0) HN1.out]; rfl)
      have hbo : ¬ V.ownBlock = some w.heap.size := fun e => by have := HVL.out _ e; have := Z1.out; omega
      have HU := hid F1.out.symm
      have HX4 := hid HY.out
      rw [hV]
      rw [hV] at HO HN
      have HHV := hid hV
      have hwz2 : w.heap.size < wr.heap.size := by have := Z1.out; omega
      go_wp2_with fail
      refine wp_region_invH (by kernel_rfl) (by kernel_rfl) (fun L act X => ∃ v6 v31 v32 v33 v34 v35 v36 v37 v38 v39 v40 : Value, act = { tmps := #[.slice A k c, .agg #[.string s, .slice B q d], undef, .pointer (some ⟨w.heap.size, 0, none⟩), .slice none 0 0, .bool false, v6, .int .i64 k, .slice (some ⟨w1.heap.size, 0, none⟩) 0 0, .int .i64 k, .slice A k c, .int .i64 k, .bool false, u13, u14, u15, u16, u17, u18, u19, u20, u21, u22, u23, u24, u25, u26, u27, u28, u29, u30, v31, v32, v33, v34, v35, v36, v37, v38, v39, v40, undef, undef, undef, undef, undef], defers := [] } ∧
        (Chg (fun j => V.ownBlock = some j) wr X) ∧ (L 9 = false → OwnR brvS w1.heap.size X 31 V (ds.map brV)) ∧ (L 3 = false → L 6 = false) ∧ (L 6 = false → L 7 = false) ∧ (L 7 = false → L 8 = false) ∧ (L 8 = false → L 9 = false) ∧ (L 9 = false → L 10 = false) ∧ (L 0 = false → L 9 = false) ∧ (L 10 = false → V = v6) ∧ (L 0 = true → V = v31) ∧ (L 1 = true → v32 = .pointer (some ⟨w.heap.size, 0, none⟩)) ∧ (L 2 = true → v33 = .string s) ∧ (L 3 = true → L 6 = false → ∃ g : Nat, v34 = .slice (some ⟨g, 0, none⟩) 0 0 ∧ OwnR strS wr.heap.size X 9 (.slice (some ⟨g, 0, none⟩) 0 0) []) ∧ (L 4 = true → v35 = .pointer (some ⟨w.heap.size, 1, none⟩)) ∧ (L 5 = true → v36 = .slice B q d) ∧ (L 6 = true → ∃ g c2 : Nat, v37 = .slice (some ⟨g, 0, none⟩) q c2 ∧ RowS X (g, c2, ys) ∧ wr.heap.size ≤ g) ∧ (L 7 = true → ∃ g c2 : Nat, v38 = .agg #[.string s, .slice (some ⟨g, 0, none⟩) q c2] ∧ RowS X (g, c2, ys) ∧ wr.heap.size ≤ g) ∧ (L 8 = true → ∃ g c2 g2 : Nat, v39 = .slice (some ⟨g2, 0, none⟩) 1 1 ∧ X.heap[g2]? = some (.cells #[.string s, .slice (some ⟨g, 0, none⟩) q c2] 31 (0, 0)) ∧ wr.heap.size ≤ g2 ∧ RowS X (g, c2, ys) ∧ wr.heap.size ≤ g) ∧ (L 9 = true → ∃ (g c2 : Nat) (A6 : Option Addr) (c6 : Nat), v40 = .slice A6 (k + 1) c6 ∧ OwnR brvS w1.heap.size X 31 (.slice A6 (k + 1) c6) (ds.map brV ++ [brV (s, g, c2, ys)]) ∧ ((Value.slice A6 (k + 1) c6).ownBlock = V.ownBlock ∨ ∃ g3, (Value.slice A6 (k + 1) c6).ownBlock = some g3 ∧ wr.heap.size ≤ g3 ∧ g3 ≠ g) ∧ RowS X (g, c2, ys) ∧ wr.heap.size ≤ g) ∧ (L 10 = true → v6 = v40)) ?_ ⟨?_, ?_, ?_, ?_, ?_, ?_, ?_, ?_, ?_, ?_, ?_, trivial⟩ ?_
      · exact ⟨_, _, _, _, _, _, _, _, _, _, _, rfl, (Chg.refl _ _).drew, fun _ => HO.out.flat brvS_flat (Chg.refl (fun _ => False) wr).drew (fun _ _ h => h), fun _ => rfl, fun _ => rfl, fun _ => rfl, fun _ => rfl, fun _ => rfl, fun _ => rfl, fun _ => rfl, fun h => (by cases h), fun h => (by cases h), fun h => (by cases h), fun h => (by cases h), fun h => (by cases h), fun h => (by cases h), fun h => (by cases h), fun h => (by cases h), fun h => (by cases h), fun h => (by cases h), fun h => (by cases h)⟩
      · rintro L act X K0 ⟨v6, v31, v32, v33, v34, v35, v36, v37, v38, v39, v40, rfl, hC, hO, o0, o1, o2, o3, o4, o5, h6, f0, f1, f2, f3, f4, f5, f6, f7, f8, f9, f10⟩ hL hd hK
        obtain rfl := h6 (o4 (o5 hL))
        clear hd
        refine ⟨rfl, ?_⟩
        go_simp
        exact hK _ _ ⟨_, _, _, _, _, _, _, _, _, _, _, rfl, hC, hO, o0, o1, o2, o3, o4, fun h => (by cases h), h6, fun _ => rfl, f1, f2, f3, f4, f5, f6, f7, f8, f9, f10⟩
      · rintro L act X K0 ⟨v6, v31, v32, v33, v34, v35, v36, v37, v38, v39, v40, rfl, hC, hO, o0, o1, o2, o3, o4, o5, h6, f0, f1, f2, f3, f4, f5, f6, f7, f8, f9, f10⟩ hL hd hK
        clear hd
        refine ⟨rfl, ?_⟩
        go_simp
        exact hK _ _ ⟨_, _, _, _, _, _, _, _, _, _, _, rfl, hC, hO, o0, o1, o2, o3, o4, o5, h6, f0, fun _ => rfl, f2, f3, f4, f5, f6, f7, f8, f9, f10⟩
      · rintro L act X K0 ⟨v6, v31, v32, v33, v34, v35, v36, v37, v38, v39, v40, rfl, hC, hO, o0, o1, o2, o3, o4, o5, h6, f0, f1, f2, f3, f4, f5, f6, f7, f8, f9, f10⟩ hL hd hK
        have d1 := hd ⟨1, .data⟩ (by simp) rfl
        obtain rfl := f1 d1
        have q0 := hC.cell hbo cx0
        clear hd
        refine ⟨rfl, ?_⟩
        go_simp
        exact hK _ _ ⟨_, _, _, _, _, _, _, _, _, _, _, rfl, hC, hO, o0, o1, o2, o3, o4, o5, h6, f0, f1, fun _ => rfl, f3, f4, f5, f6, f7, f8, f9, f10⟩
      · rintro L act X K0 ⟨v6, v31, v32, v33, v34, v35, v36, v37, v38, v39, v40, rfl, hC, hO, o0, o1, o2, o3, o4, o5, h6, f0, f1, f2, f3, f4, f5, f6, f7, f8, f9, f10⟩ hL hd hK
        have hc := chgN0 X (.cells #[] 9)
        clear hd
        refine ⟨rfl, ?_⟩
        go_simp
        exact hK _ _ ⟨_, _, _, _, _, _, _, _, _, _, _, rfl, hC.trans (hc.wide (fun _ h => h.elim)), fun h => (hO h).flat brvS_flat hc (fun _ _ h => h), fun h => (by cases h), o1, o2, o3, o4, o5, h6, f0, f1, f2, fun _ _ => ⟨_, rfl, OwnR.nil hC.size #[] rfl⟩, f4, f5, fun h => (by obtain ⟨g, c2, e, r, hg⟩ := f6 h; exact ⟨g, c2, e, r.chg hc (fun h => h), hg⟩), fun h => (by obtain ⟨g, c2, e, r, hg⟩ := f7 h; exact ⟨g, c2, e, r.chg hc (fun h => h), hg⟩), fun h => (by obtain ⟨g, c2, g2, e, hh, hg2, r, hg⟩ := f8 h; exact ⟨g, c2, g2, e, (hc.block g2 (Array.getElem?_eq_some_iff.1 hh).1 (fun h => h)).trans hh, hg2, r.chg hc (fun h => h), hg⟩), fun h => (by obtain ⟨g, c2, A6, c6, e, l, hv, r, hg⟩ := f9 h; exact ⟨g, c2, A6, c6, e, l.flat brvS_flat hc (fun _ _ h => h), hv, r.chg hc (fun h => h), hg⟩), f10⟩
      · rintro L act X K0 ⟨v6, v31, v32, v33, v34, v35, v36, v37, v38, v39, v40, rfl, hC, hO, o0, o1, o2, o3, o4, o5, h6, f0, f1, f2, f3, f4, f5, f6, f7, f8, f9, f10⟩ hL hd hK
        clear hd
        refine ⟨rfl, ?_⟩
        go_simp
        exact hK _ _ ⟨_, _, _, _, _, _, _, _, _, _, _, rfl, hC, hO, o0, o1, o2, o3, o4, o5, h6, f0, f1, f2, f3, fun _ => rfl, f5, f6, f7, f8, f9, f10⟩
      · rintro L act X K0 ⟨v6, v31, v32, v33, v34, v35, v36, v37, v38, v39, v40, rfl, hC, hO, o0, o1, o2, o3, o4, o5, h6, f0, f1, f2, f3, f4, f5, f6, f7, f8, f9, f10⟩ hL hd hK
        have d4 := hd ⟨4, .data⟩ (by simp) rfl
        obtain rfl := f4 d4
        have q0 := hC.cell hbo cx1
        clear hd
        refine ⟨rfl, ?_⟩
        go_simp
        exact hK _ _ ⟨_, _, _, _, _, _, _, _, _, _, _, rfl, hC, hO, o0, o1, o2, o3, o4, o5, h6, f0, f1, f2, f3, f4, fun _ => rfl, f6, f7, f8, f9, f10⟩
      · rintro L act X K0 ⟨v6, v31, v32, v33, v34, v35, v36, v37, v38, v39, v40, rfl, hC, hO, o0, o1, o2, o3, o4, o5, h6, f0, f1, f2, f3, f4, f5, f6, f7, f8, f9, f10⟩ hL hd hK
        have d3 := hd ⟨3, .data⟩ (by simp) rfl
        have d5 := hd ⟨5, .data⟩ (by simp) rfl
        obtain rfl := f5 d5
        obtain ⟨g, rfl, lE⟩ := f3 d3 hL
        have hXs := hC.size
        have hgw := (lE.own_lt (k := g) rfl)
        clear hd
        refine ⟨rfl, ?_⟩
        refine wp_append_strs (.tmp 34) (.tmp 36) _ rfl Try.underlying24 HI.out rfl (v := .slice (some ⟨g, 0, none⟩) 0 0) rfl lE rfl HU.out (HX4.out.bl (HB.out.trans (hC.below hwz (fun j e => (HVL.out j e).1)))) (by simp; omega) (by omega) ?_
        intro A' c' X2 hO2 hc0 hv
        rw [List.nil_append, List.length_nil, Nat.zero_add] at hO2
        rw [List.length_nil, Nat.zero_add] at hv
        have hk2 : ∃ g2, (Value.slice A' q c').ownBlock = some g2 ∧ wr.heap.size ≤ g2 := by
          rcases hv with e | e
          · exact ⟨g, e, hgw.1⟩
          · exact ⟨_, e, hXs⟩
        obtain ⟨g2, hg2, hg2l⟩ := hk2
        obtain rfl := hO2.at_block hg2
        have hrw := (hO2.rowS (by have := HU.out; omega)).2.1
        have hc : Chg (fun j => j = g) X X2 := hc0.wide (fun j h => by have h' : some g = some j := h; injection h' with h'; exact h'.symm)
        rw [List.length_nil, Nat.zero_add]
        exact hK _ _ ⟨_, _, _, _, _, _, _, _, _, _, _, rfl, chg_hi hC hc (fun j e => by omega), fun h => (hO h).flat brvS_flat hc (fun j h1 h2 => by have := HVL.out _ h1; omega), fun h => absurd ((d3).symm.trans h) (by decide), fun h => (by cases h), o2, o3, o4, o5, h6, f0, f1, f2, fun _ h => (by cases h), f4, f5, fun _ => ⟨g2, c', rfl, hrw, hg2l⟩, fun h => absurd ((o1 hL).symm.trans h) (by decide), fun h => absurd ((o2 (o1 hL)).symm.trans h) (by decide), fun h => absurd ((o3 (o2 (o1 hL))).symm.trans h) (by decide), f10⟩
      · rintro L act X K0 ⟨v6, v31, v32, v33, v34, v35, v36, v37, v38, v39, v40, rfl, hC, hO, o0, o1, o2, o3, o4, o5, h6, f0, f1, f2, f3, f4, f5, f6, f7, f8, f9, f10⟩ hL hd hK
        have d2 := hd ⟨2, .data⟩ (by simp) rfl
        obtain rfl := f2 d2
        have d6 := hd ⟨6, .data⟩ (by simp) rfl
        obtain ⟨g, c2, rfl, rA, hgA⟩ := f6 d6
        clear hd
        refine ⟨rfl, ?_⟩
        go_simp
        exact hK _ _ ⟨_, _, _, _, _, _, _, _, _, _, _, rfl, hC, hO, o0, fun h => absurd ((d6).symm.trans h) (by decide), fun h => (by cases h), o3, o4, o5, h6, f0, f1, f2, f3, f4, f5, fun _ => ⟨g, c2, rfl, rA, hgA⟩, fun _ => ⟨g, c2, rfl, rA, hgA⟩, f8, f9, f10⟩
      · rintro L act X K0 ⟨v6, v31, v32, v33, v34, v35, v36, v37, v38, v39, v40, rfl, hC, hO, o0, o1, o2, o3, o4, o5, h6, f0, f1, f2, f3, f4, f5, f6, f7, f8, f9, f10⟩ hL hd hK
        have d7 := hd ⟨7, .data⟩ (by simp) rfl
        obtain ⟨g, c2, rfl, rA, hgA⟩ := f7 d7
        have hc := chgN0 X (.cells #[.string s, .slice (some ⟨g, 0, none⟩) q c2] 31)
        clear hd
        refine ⟨rfl, ?_⟩
        go_simp
        exact hK _ _ ⟨_, _, _, _, _, _, _, _, _, _, _, rfl, hC.trans (hc.wide (fun _ h => h.elim)), fun h => (hO h).flat brvS_flat hc (fun _ _ h => h), o0, o1, fun h => absurd ((d7).symm.trans h) (by decide), fun h => (by cases h), o4, o5, h6, f0, f1, f2, fun h h9 => (by obtain ⟨g, e, l⟩ := f3 h h9; exact ⟨g, e, l.flat strS_flat' hc (fun _ _ h => h)⟩), f4, f5, fun h => (by obtain ⟨g, c2, e, r, hg⟩ := f6 h; exact ⟨g, c2, e, r.chg hc (fun h => h), hg⟩), fun _ => ⟨g, c2, rfl, rA.chg hc (fun h => h), hgA⟩, fun _ => ⟨g, c2, _, rfl, heap_alloc_new _ _, hC.size, rA.chg hc (fun h => h), hgA⟩, fun h => (by obtain ⟨g, c2, A6, c6, e, l, hv, r, hg⟩ := f9 h; exact ⟨g, c2, A6, c6, e, l.flat brvS_flat hc (fun _ _ h => h), hv, r.chg hc (fun h => h), hg⟩), f10⟩
      · rintro L act X K0 ⟨v6, v31, v32, v33, v34, v35, v36, v37, v38, v39, v40, rfl, hC, hO, o0, o1, o2, o3, o4, o5, h6, f0, f1, f2, f3, f4, f5, f6, f7, f8, f9, f10⟩ hL hd hK
        have d0 := hd ⟨0, .data⟩ (by simp) rfl
        obtain rfl := f0 d0
        have d8 := hd ⟨8, .data⟩ (by simp) rfl
        obtain ⟨g, c2, g2, rfl, hh, hg2, rA, hgA⟩ := f8 d8
        have hXs := hC.size
        have hdl := HDLM.out
        clear hd
        refine ⟨rfl, ?_⟩
        refine wp_append_R2 (.tmp 31) (.tmp 39) _ rfl brvS Try.underlying23 HJ.out rfl (by decide) (v := V) rfl (hO hL) (y := brV (s, g, c2, ys)) rfl hh rfl (by simp [Value.oneCell']) ⟨rfl, hs, by show Value.slice _ q c2 = Value.slice _ ys.length c2; rw [HU.out]⟩ (by omega) (by omega) (by omega) ?_
        intro A' c' X2 hO2 hc hv
        rw [hdl] at hO2 hv ⊢
        have hv2 : (Value.slice A' (k + 1) c').ownBlock = V.ownBlock ∨ ∃ g3, (Value.slice A' (k + 1) c').ownBlock = some g3 ∧ wr.heap.size ≤ g3 ∧ g3 ≠ g := hv.imp id (fun e => ⟨_, e, hXs, by have := rA.lt; intro e2; dsimp only at this; omega⟩)
        exact hK _ _ ⟨_, _, _, _, _, _, _, _, _, _, _, rfl, hC.trans hc, fun h => (by cases h), o0, o1, o2, fun h => absurd ((d8).symm.trans h) (by decide), fun h => (by cases h), fun h => absurd ((d0).symm.trans h) (by decide), h6, f0, f1, f2, fun h h9 => (by obtain ⟨g, e, l⟩ := f3 h h9; exact ⟨g, e, l.flat strS_flat' hc (fun j h1 h2 => by have := (l.own_lt h1).1; have := HVL.out _ h2; omega)⟩), f4, f5, fun h => (by obtain ⟨g, c2, e, r, hg⟩ := f6 h; exact ⟨g, c2, e, r.chg hc (fun e => by have := HVL.out _ e; omega), hg⟩), fun h => (by obtain ⟨g, c2, e, r, hg⟩ := f7 h; exact ⟨g, c2, e, r.chg hc (fun e => by have := HVL.out _ e; omega), hg⟩), fun _ => ⟨g, c2, g2, rfl, (hc.block g2 (Array.getElem?_eq_some_iff.1 hh).1 (fun e => by have := HVL.out _ e; omega)).trans hh, hg2, rA.chg hc (fun e => by have := HVL.out _ e; dsimp only at this; omega), hgA⟩, fun _ => ⟨g, c2, A', c', rfl, hO2, hv2, rA.chg hc (fun e => by have := HVL.out _ e; dsimp only at this; omega), hgA⟩, fun h => absurd ((o4 hL).symm.trans h) (by decide)⟩
      · rintro L act X K0 ⟨v6, v31, v32, v33, v34, v35, v36, v37, v38, v39, v40, rfl, hC, hO, o0, o1, o2, o3, o4, o5, h6, f0, f1, f2, f3, f4, f5, f6, f7, f8, f9, f10⟩ hL hd hK
        have d9 := hd ⟨9, .data⟩ (by simp) rfl
        obtain ⟨g, c2, A6, c6, rfl, l6, h6, rA, hgA⟩ := f9 d9
        clear hd
        refine ⟨rfl, ?_⟩
        go_simp
        exact hK _ _ ⟨_, _, _, _, _, _, _, _, _, _, _, rfl, hC, hO, o0, o1, o2, o3, fun h => absurd ((d9).symm.trans h) (by decide), o5, fun h => (by cases h), f0, f1, f2, f3, f4, f5, f6, f7, f8, fun _ => ⟨g, c2, A6, c6, rfl, l6, h6, rA, hgA⟩, fun _ => rfl⟩
      · rintro L act X hLL ⟨v6, v31, v32, v33, v34, v35, v36, v37, v38, v39, v40, rfl, hC, hO, o0, o1, o2, o3, o4, o5, h6, f0, f1, f2, f3, f4, f5, f6, f7, f8, f9, f10⟩
        obtain ⟨g, c2, A6, c6, e6, l6, h8, rA, hgA⟩ := f9 (hLL 9 (by simp))
        subst e6
        obtain rfl := f10 (hLL 10 (by simp))
        have HF := hid (And.intro l6 (And.intro h8 (And.intro rA (And.intro hgA hC))))
        clear l6 h8 rA hgA hC cx0 cx1
        try clear f0
        try clear f1
        try clear f2
        try clear f3
        try clear f4
        try clear f5
        try clear f6
        try clear f7
        try clear f8
        try clear f9
        try clear f10
        try clear o0
        try clear o1
        try clear o2
        try clear o3
        try clear o4
        try clear o5
        try clear h6
        try clear hO
        try clear hLL
        have hNF := NestB.grow (d := (s, g, c2, ys)) HN.out hwz HF.out.2.2.2.2 HF.out.1 HF.out.2.2.1 HF.out.2.2.2.1 HF.out.2.1
        have HNF := hid hNF
        have HDF := hid (show (ds ++ [(s, g, c2, ys)]).map brT = bs ++ [(s, ys)] by rw [List.map_append, HDM.out, List.take_of_length_le (by rw [← E1.out]; exact Nat.le_refl _)]; rfl)
        have hlf : (ds ++ [(s, g, c2, ys)]).length = k + 1 := by rw [List.length_append, HDL.out]; rfl
        have HLF := hid hlf
        have HBF := hid (HB1.out.trans ((HB.out.trans (HF.out.2.2.2.2.below hwz (fun j e => (HVL.out j e).1))).mono HB1.out.size))
        have hbz := HBF.out.size
        have hwx := HF.out.2.2.2.2.size
        clear hNF hlf
        go_wp2_with fail
        refine (specBriefsValid_any A6 (k + 1) c6 0 (bs ++ [(s, ys)]) X (HNF.out.rd0 HDF.out (by have := congrArg List.length HDF.out; rw [List.length_map, HLF.out] at this; omega))).mono ?_
        rintro e w5 ⟨rfl, hb5⟩
        obtain ⟨ok, hok⟩ : ∃ ok, briefsOk (bs ++ [(s, ys)]) = ok := ⟨_, rfl⟩
        rw [hok]
        have HOKK := hid hok
        have HB5 := hid hb5
        have hz5 := hb5.size
        clear hok hb5
        cases ok with
        | false =>
          have HVV := hid (show addB bs (s, ys) = none by unfold addB; rw [HOKK.out]; rfl)
          go_wp2_with fail
          go_ret2
          rw [HVV.out]
          exact ⟨_, 0, 0, [], rfl, ⟨OwnR.nil (by omega) #[] rfl, (fun r hr => by cases hr), List.nodup_nil⟩, rfl, rfl, HBF.out.trans ((HB5.out.mono hbz).trans ((bnew w5 _).mono (by omega)))⟩
        | true =>
          have HVV := hid (show addB bs (s, ys) = some (bs ++ [(s, ys)]) by unfold addB; rw [HOKK.out]; rfl)
          go_wp2_with fail
          go_ret2
          rw [HVV.out]
          refine ⟨A6, k + 1, c6, ds ++ [(s, g, c2, ys)], rfl, ?_, HLF.out.symm, HDF.out, HBF.out.trans (HB5.out.mono hbz)⟩
          have h9 := (HNF.out.bl HB5.out).wide hz5
          exact ⟨h9.own.low (by have := Z1.out; omega), fun q hq => by obtain ⟨q1, q2, q3, q4⟩ := h9.row q hq; exact ⟨by have := Z1.out; omega, q2, q3, q4⟩, h9.one⟩
end Go.Proofs.Ythijnojefeeaoaa
