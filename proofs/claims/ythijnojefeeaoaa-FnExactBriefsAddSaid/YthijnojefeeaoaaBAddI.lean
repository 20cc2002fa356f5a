/- What the program's BriefsAdd returns. -/
import Derived.Test.YthijnojefeeaoaaBAdd
import Derived.Test.YthijnojefeeaoaaBriefPure3
namespace Go.Proofs.Ythijnojefeeaoaa
open Go.RowKit
attribute [local go_sem] Oper.semAt_some
theorem OwnR.made {α : Type} [Inhabited α] {S : Shape α} {base : Nat} {w : World} {e : TypeId} (hb : base ≤ w.heap.size) (cs : Array Value) (m : Nat) (hcs : cs.size = m * S.sz) (hm : m ≤ maxLen) : OwnR S base (w.alloc (.cells cs e)) e (.slice (some ⟨w.heap.size, 0, none⟩) 0 m) [] :=
  ⟨[], World.ownsRow_made w cs m hb hm hcs, fun k hk => absurd hk (by simp)⟩
/-- make([]T, 0, m), as a rule of the walk. -/
theorem make0_rule {P : Program} {t e size bytes : Nat} {z : Value} {i : TypeInfo} (ht : P.underlying t = some (.slice e)) (hi : P.info? e = some i) (hz : i.zero = some z) (hs : i.size = size) (hb : i.bytes = bytes)
    {m : Nat} (hbytes : bytes * m ≤ 281474976710656) (h63 : m ≤ 9223372036854775807) (w : World) :
    (Instr.makeSlice t (.int .i64 (0 : Int)) (.int .i64 (m : Int))).run P w = .ok (.slice (some ⟨w.heap.size, 0, none⟩) 0 m) (w.alloc (.cells (madeCells z.cells (m * size)) e)) := by
  have h : ((bytes * m : Nat) : Int) ≤ 281474976710656 := by omega
  rw [Int.natCast_mul] at h
  have := run_make (P := P) w t e i z ht hi hz .i64 .i64 0 m (by omega) (by omega) (by rw [hb]; exact h) (by omega)
  rw [hs] at this
  simpa using this
set_option maxRecDepth 100000 in
set_option maxHeartbeats 400000 in
theorem cloneStrs_any (b off n c lo : Nat) (xs : List ByteArray) (w : World) (hx : Rd strS lo w.heap.size w (some ⟨b, off, none⟩) n xs) (hn : n ≤ 1048576) :
    Calls Try.prog 69 #[.slice (some ⟨b, off, none⟩) n c] w fun e w' => ∃ g c', e = .returned (.slice (some ⟨g, 0, none⟩) n c') ∧ RowS w' (g, c', xs) ∧ w.heap.size ≤ g ∧ Below w.heap.size w w' := by
  obtain ⟨i0, hi1, hz0, hz1, hz2⟩ := info_parts (show (Try.prog.info? 9).map (fun i => (i.zero, i.size, i.bytes)) = some (some (.string ByteArray.empty), 1, 16) by kernel_rfl)
  have HI := hid (And.intro hi1 (And.intro hz0 (And.intro hz1 hz2)))
  clear hi1 hz0 hz1 hz2
  have E1 := hid hx.1
  have hnil : ∀ w, (binOp .eql 24 (.slice (some ⟨b, off, none⟩) n c) (.slice none 0 0)).run Try.prog w = .ok (.bool false) w := fun w => by first | rfl | kernel_rfl
  have HX := hid ((hx.bl (bnew w (.cells #[] 9))).wide (lo' := 0) (Nat.zero_le _) (Nat.le_refl _))
  clear hx
  go_enter Try.func69, Try.ntmps69
  go_wp2_with (at_builtin; go_loud (refine wpList_plain rfl fun K hK => wp_append_strs (.tmp 5) (.tmp 6) _ rfl Try.underlying24 HI.out rfl (v := .slice (some ⟨w.heap.size, 0, none⟩) 0 0) rfl (OwnR.nil (base := w.heap.size) (Nat.le_refl _) #[] rfl) rfl E1.out.symm HX.out (by simp; omega) (by simp) ?_; intro A' c' w2 hO hc hv; rw [List.length_nil, Nat.zero_add] at hO hv ⊢; rw [List.nil_append] at hO; refine hK _ _ ?_))
  have hk2 : ∃ g2, (Value.slice A' n c').ownBlock = some g2 ∧ w.heap.size ≤ g2 := by
    rcases hv with e | e
    · exact ⟨_, e, Nat.le_refl _⟩
    · exact ⟨_, e, by simp⟩
  obtain ⟨g2, hg2, hg2l⟩ := hk2
  obtain rfl := hO.at_block hg2
  have hrw := hid (hO.rowS (by have := E1.out; omega)).2.1
  have hbx := hid ((bnew w (.cells #[] 9)).trans (hc.below (B := w.heap.size) (by simp) (fun k hk => by have h' : some w.heap.size = some k := hk; injection h' with h'; omega)))
  clear hO hc hv hg2
  go_wp2_with fail
  go_ret
  exact ⟨g2, c', rfl, hrw.out, hg2l, hbx.out⟩
set_option maxRecDepth 100000 in
set_option maxHeartbeats 4000000 in
theorem implBriefsAdd_any (A : Option Addr) (n c q d gB oB : Nat) (bs : List BriefT) (s : ByteArray) (ys : List ByteArray) (w : World) (hx : Rd briefS 0 w.heap.size w A n bs) (hnc : n ≤ c) (hy : Rd strS 0 w.heap.size w (some ⟨gB, oB, none⟩) q ys) (hs : s.size ≤ 9223372036854775807) (hq : q ≤ 1048576) :
    Calls Try.prog 37 #[.slice A n c, .agg #[.string s, .slice (some ⟨gB, oB, none⟩) q d]] w (RetBB w (addB bs (s, ys))) := by
  obtain ⟨i1, hi1, hz0, hz1, hz2⟩ := info_parts (show (Try.prog.info? 31).map (fun i => (i.zero, i.size, i.bytes)) = some (some (.agg #[.string ⟨#[]⟩, .slice none 0 0]), 2, 40) by kernel_rfl)
  have HJ := hid (And.intro hi1 (And.intro hz0 (And.intro hz1 hz2)))
  have hmk := fun (m : Nat) (h : m ≤ 9) w => make0_rule (P := Try.prog) Try.underlying23 hi1 hz0 hz1 hz2 (m := m) (by omega) (by omega) w
  have HMK := hid hmk
  clear hi1 hz0 hz1 hz2 hmk
  have b1 := bnew w (.cells #[.string s, .slice (some ⟨gB, oB, none⟩) q d] 31)
  have n1 := heap_alloc_new w (.cells #[.string s, .slice (some ⟨gB, oB, none⟩) q d] 31)
  have z1 := World.size_alloc w (.cells #[.string s, .slice (some ⟨gB, oB, none⟩) q d] 31)
  obtain ⟨w0, hw0⟩ : ∃ w0, w.alloc (.cells #[.string s, .slice (some ⟨gB, oB, none⟩) q d] 31) = w0 := ⟨_, rfl⟩
  rw [hw0] at b1 n1 z1
  have HW0 := hid hw0
  have HV0 := hid (implBriefsValid_any A n c 0 bs w0 hnc (hx.bl b1))
  have HX0 := hid (hx.bl b1)
  have HY0 := hid (hy.bl b1)
  have HN0 := hid n1
  have HB0 := hid b1
  have Z0 := hid z1
  have E1 := hid hx.1
  have F1 := hid hy.1
  clear hx hy b1 n1 z1 hw0
  obtain ⟨ok0, hok0⟩ : ∃ ok, briefsOk bs = ok := ⟨_, rfl⟩
  have HOK0 := hid hok0
  cases ok0 with
  | false =>
    have HVV := hid (show addB bs (s, ys) = none by unfold addB; rw [briefs_snoc_no hok0]; rfl)
    clear hok0
    go_enter Try.func37, Try.ntmps37
    go_wp2_with fail
    rw [HW0.out]
    refine HV0.out.mono ?_
    rintro e w1 ⟨rfl, hb1⟩
    rw [HOK0.out]
    have HB1 := hid (HB0.out.trans (hb1.mono HB0.out.size))
    clear hb1
    go_wp2_with fail
    go_ret2
    rw [HVV.out]
    exact ⟨_, 0, 0, [], rfl, ⟨OwnR.nil0, (fun r hr => by cases hr), List.nodup_nil⟩, rfl, rfl, HB1.out⟩
  | true =>
  have hn8 : n ≤ 8 := by
    unfold briefsOk at hok0
    rw [Bool.and_eq_true, decide_eq_true_eq] at hok0
    rw [E1.out]
    exact hok0.1
  have HWD := hid (briefs_wd hok0)
  obtain ⟨m, hm⟩ : ∃ m, n + 1 = m := ⟨_, rfl⟩
  have hmk := HMK.out m (by omega)
  have HM := hid hm
  clear hok0 HMK hm
  go_enter Try.func37, Try.ntmps37
  go_wp2_with fail
  rw [HW0.out]
  refine HV0.out.mono ?_
  rintro e w1 ⟨rfl, hb1⟩
  rw [HOK0.out]
  have HB1 := hid hb1
  have hz1 := hb1.size
  have hz0 := Z0.out
  have HX := hid (HX0.out.bl hb1)
  have HY := hid (HY0.out.bl hb1)
  have HN1 := hid ((hb1.block w.heap.size (by have := Z0.out; omega)).trans HN0.out)
  clear hb1
  have hn1i : IntKind.i64.wrap ((n : Int) + 1) = (m : Int) := by rw [show ((n : Int) + 1) = (m : Int) by have := HM.out; omega]; exact IntWalk.i64_in _ (by have := HM.out; omega)
  have hm0 : (0 : Int) ≤ (m : Int) := by omega
  have hm9 : m ≤ 9 := by have := HM.out; omega
  obtain ⟨cs, hcs⟩ : ∃ cs, madeCells (Value.agg #[.string ⟨#[]⟩, .slice none 0 0]).cells (m * 2) = cs := ⟨_, rfl⟩
  have NB := hid (show NestB w1.heap.size (w1.alloc (.cells cs 31)).heap.size (w1.alloc (.cells cs 31)) (.slice (some ⟨w1.heap.size, 0, none⟩) 0 m) [] from ⟨OwnR.made (Nat.le_refl _) cs m (by rw [← hcs, size_madeCells]; rfl) (by simp only [maxLen]; omega), (fun r hr => by cases hr), List.nodup_nil⟩)
  have HBN := hid (bnew w1 (.cells cs 31))
  rw [hcs] at hmk
  clear hcs
  go_wp2_with fail
  clear hmk hn1i
  go_loopg [6, 8, 18] n (fun gk l6 _ i wr => ∃ (k : Nat) (A5 : Option Addr) (c5 : Nat) (ds : List BrD), k + gk = n ∧ i = .int .i64 k ∧ l6 = .slice A5 k c5 ∧ NestB w1.heap.size wr.heap.size wr (.slice A5 k c5) ds ∧ ds.length = k ∧ ds.map brT = bs.take k ∧ Below w1.heap.size w1 wr)
  case atStart => exact ⟨0, _, _, [], Nat.zero_add _, rfl, rfl, NB.out, rfl, by simp, HBN.out⟩
  case round =>
    clear NB HBN
    obtain ⟨k, A5, c5, ds, hkg, rfl, rfl, hN, hdl, hdm, hb⟩ := hrel
    have HKG := hid hkg
    have HDL := hid hdl
    have HDM := hid hdm
    have hk : k ≤ n := by omega
    obtain ⟨V, hV⟩ : ∃ V, Value.slice A5 k c5 = V := ⟨_, rfl⟩
    rw [hV] at hN
    have hdlm : (ds.map brV).length = k := by rw [List.length_map, hdl]
    have HDLM := hid hdlm
    have HB := hid hb
    have HN := hid hN
    have HHV := hid hV
    clear hkg hdl hdm hdlm hb hN hV
    by_cases hlt : k < n
    case pos =>
      have hki : (k : Int) < (n : Int) := by omega
      have hkb : k < bs.length := by rw [← E1.out]; exact hlt
      obtain ⟨bb, ob, hA, _, hbb, hcx⟩ := HX.out.2.2 (by omega)
      subst hA
      obtain ⟨A1, c1, x0, x1, x2, _, x4⟩ := hcx.brief hlt
      have HTK := hid (take_gt hkb)
      have hwd := HWD.out _ (gt_mem hkb)
      obtain ⟨B2, hB2⟩ : ∃ B2, gt bs k = B2 := ⟨_, rfl⟩
      rw [hB2] at x0 x1 x2 x4 HTK hwd
      obtain ⟨s1, zs⟩ := B2
      dsimp only at x0 x1 x2 x4 hwd
      obtain ⟨u, hu⟩ : ∃ u, zs.length = u := ⟨_, rfl⟩
      rw [hu] at x1 x4 hwd
      obtain ⟨b3, of3, rfl, _, _, _⟩ := x4.2.2 (by omega)
      have HU := hid hu
      have cl0 := (HB.out.cell (p := ⟨bb, ob + k * 2, none⟩) hbb).trans x0
      have cl1 := (HB.out.cell (p := ⟨bb, ob + k * 2 + 1, none⟩) hbb).trans x1
      have HS1 := hid x2
      have hbn := bnew wr (.cells #[.string s1, .slice (some ⟨b3, of3, none⟩) u c1] 31)
      have hnn := heap_alloc_new wr (.cells #[.string s1, .slice (some ⟨b3, of3, none⟩) u c1] 31)
      have hzn := World.size_alloc wr (.cells #[.string s1, .slice (some ⟨b3, of3, none⟩) u c1] 31)
      obtain ⟨w3, hw3⟩ : ∃ w3, wr.alloc (.cells #[.string s1, .slice (some ⟨b3, of3, none⟩) u c1] 31) = w3 := ⟨_, rfl⟩
      rw [hw3] at hbn hnn hzn
      have HX4 := hid x4
      have cx0 : w3.cell? ⟨wr.heap.size, 0, none⟩ = some (.string s1) := by rw [cell_of_row _ _ _ _ _ (0, 0) hnn]; rfl
      have cx1 : w3.cell? ⟨wr.heap.size, 1, none⟩ = some (.slice (some ⟨b3, of3, none⟩) u c1) := by rw [cell_of_row _ _ _ _ _ (0, 0) hnn]; rfl
      have HB3 := hid (btr HB.out hbn)
      have HN3 := hid ((HN.out.bl hbn).wide (hi' := w3.heap.size) (by omega))
      have HO := hid HN3.out.own
      have hvl : ∀ j, V.ownBlock = some j → w1.heap.size ≤ j ∧ j < wr.heap.size := fun j hj => HN.out.own.own_lt hj
      have HVL := hid hvl
      have hbo : ¬ V.ownBlock = some wr.heap.size := fun e => by have := hvl _ e; omega
      have hwz := HB3.out.size
      have HW3 := hid hw3
      have hzl : wr.heap.size < w3.heap.size := by omega
      clear hcx x0 x1 x4 x2 hB2 hu hkb hbn hnn hvl hw3 hzn
      rw [HHV.out]
      go_wp2_with fail
      rw [HW3.out]
      clear cl0 cl1
      refine wp_region_invH (by kernel_rfl) (by kernel_rfl) (fun L act X => ∃ v6 v22 v23 v24 v25 v26 v27 v28 v29 v30 : Value, act = { tmps := #[.slice (some ⟨bb, ob, none⟩) n c, .agg #[.string s, .slice (some ⟨gB, oB, none⟩) q d], undef, .pointer (some ⟨w.heap.size, 0, none⟩), .slice none 0 0, .bool false, v6, undef, .pointer (some ⟨wr.heap.size, 0, none⟩), .slice (some ⟨bb, ob, none⟩) n c, .bool true, .bool false, .slice (some ⟨bb, ob, none⟩) n c, .int .i64 n, .int .i64 m, .slice (some ⟨w1.heap.size, 0, none⟩) 0 m, .slice (some ⟨bb, ob, none⟩) n c, .int .i64 n, .int .i64 k, .bool true, .pointer (some ⟨bb, ob + k * 2, none⟩), .agg #[.string s1, .slice (some ⟨b3, of3, none⟩) u c1], v22, v23, v24, v25, v26, v27, v28, v29, v30, u31, undef, undef, undef, undef, undef, undef, undef, undef, undef, undef, undef, undef, undef], defers := [] } ∧
        (Chg (fun j => V.ownBlock = some j) w3 X) ∧ (L 8 = false → OwnR brvS w1.heap.size X 31 V (ds.map brV)) ∧ (L 5 = false → L 6 = false) ∧ (L 6 = false → L 7 = false) ∧ (L 7 = false → L 8 = false) ∧ (L 8 = false → L 9 = false) ∧ (L 0 = false → L 8 = false) ∧ (L 9 = false → V = v6) ∧ (L 0 = true → V = v22) ∧ (L 1 = true → v23 = .pointer (some ⟨wr.heap.size, 0, none⟩)) ∧ (L 2 = true → v24 = .string s1) ∧ (L 3 = true → v25 = .pointer (some ⟨wr.heap.size, 1, none⟩)) ∧ (L 4 = true → v26 = .slice (some ⟨b3, of3, none⟩) u c1) ∧ (L 5 = true → ∃ g c2 : Nat, v27 = .slice (some ⟨g, 0, none⟩) u c2 ∧ RowS X (g, c2, zs) ∧ w3.heap.size ≤ g) ∧ (L 6 = true → ∃ g c2 : Nat, v28 = .agg #[.string s1, .slice (some ⟨g, 0, none⟩) u c2] ∧ RowS X (g, c2, zs) ∧ w3.heap.size ≤ g) ∧ (L 7 = true → ∃ g c2 g2 : Nat, v29 = .slice (some ⟨g2, 0, none⟩) 1 1 ∧ X.heap[g2]? = some (.cells #[.string s1, .slice (some ⟨g, 0, none⟩) u c2] 31 (0, 0)) ∧ w3.heap.size ≤ g2 ∧ RowS X (g, c2, zs) ∧ w3.heap.size ≤ g) ∧ (L 8 = true → ∃ (g c2 : Nat) (A6 : Option Addr) (c6 : Nat), v30 = .slice A6 (k + 1) c6 ∧ OwnR brvS w1.heap.size X 31 (.slice A6 (k + 1) c6) (ds.map brV ++ [brV (s1, g, c2, zs)]) ∧ ((Value.slice A6 (k + 1) c6).ownBlock = V.ownBlock ∨ ∃ g3, (Value.slice A6 (k + 1) c6).ownBlock = some g3 ∧ w3.heap.size ≤ g3 ∧ g3 ≠ g) ∧ RowS X (g, c2, zs) ∧ w3.heap.size ≤ g) ∧ (L 9 = true → v6 = v30)) ?_ ⟨?_, ?_, ?_, ?_, ?_, ?_, ?_, ?_, ?_, ?_, trivial⟩ ?_
      · exact ⟨_, _, _, _, _, _, _, _, _, _, rfl, (Chg.refl _ _).drew, fun _ => HO.out.flat brvS_flat (Chg.refl (fun _ => False) w3).drew (fun _ _ h => h), fun _ => rfl, fun _ => rfl, fun _ => rfl, fun _ => rfl, fun _ => rfl, fun _ => rfl, fun h => (by cases h), fun h => (by cases h), fun h => (by cases h), fun h => (by cases h), fun h => (by cases h), fun h => (by cases h), fun h => (by cases h), fun h => (by cases h), fun h => (by cases h), fun h => (by cases h)⟩
      · rintro L act X K0 ⟨v6, v22, v23, v24, v25, v26, v27, v28, v29, v30, rfl, hC, hO, o1, o2, o3, o4, o5, h6, f0, f1, f2, f3, f4, f5, f6, f7, f8, f9⟩ hL hd hK
        obtain rfl := h6 (o4 (o5 hL))
        clear hd
        refine ⟨rfl, ?_⟩
        go_simp
        exact hK _ _ ⟨_, _, _, _, _, _, _, _, _, _, rfl, hC, hO, o1, o2, o3, o4, fun h => (by cases h), h6, fun _ => rfl, f1, f2, f3, f4, f5, f6, f7, f8, f9⟩
      · rintro L act X K0 ⟨v6, v22, v23, v24, v25, v26, v27, v28, v29, v30, rfl, hC, hO, o1, o2, o3, o4, o5, h6, f0, f1, f2, f3, f4, f5, f6, f7, f8, f9⟩ hL hd hK
        clear hd
        refine ⟨rfl, ?_⟩
        go_simp
        exact hK _ _ ⟨_, _, _, _, _, _, _, _, _, _, rfl, hC, hO, o1, o2, o3, o4, o5, h6, f0, fun _ => rfl, f2, f3, f4, f5, f6, f7, f8, f9⟩
      · rintro L act X K0 ⟨v6, v22, v23, v24, v25, v26, v27, v28, v29, v30, rfl, hC, hO, o1, o2, o3, o4, o5, h6, f0, f1, f2, f3, f4, f5, f6, f7, f8, f9⟩ hL hd hK
        have d1 := hd ⟨1, .data⟩ (by simp) rfl
        obtain rfl := f1 d1
        have q0 := hC.cell hbo cx0
        clear hd
        refine ⟨rfl, ?_⟩
        go_simp
        exact hK _ _ ⟨_, _, _, _, _, _, _, _, _, _, rfl, hC, hO, o1, o2, o3, o4, o5, h6, f0, f1, fun _ => rfl, f3, f4, f5, f6, f7, f8, f9⟩
      · rintro L act X K0 ⟨v6, v22, v23, v24, v25, v26, v27, v28, v29, v30, rfl, hC, hO, o1, o2, o3, o4, o5, h6, f0, f1, f2, f3, f4, f5, f6, f7, f8, f9⟩ hL hd hK
        clear hd
        refine ⟨rfl, ?_⟩
        go_simp
        exact hK _ _ ⟨_, _, _, _, _, _, _, _, _, _, rfl, hC, hO, o1, o2, o3, o4, o5, h6, f0, f1, f2, fun _ => rfl, f4, f5, f6, f7, f8, f9⟩
      · rintro L act X K0 ⟨v6, v22, v23, v24, v25, v26, v27, v28, v29, v30, rfl, hC, hO, o1, o2, o3, o4, o5, h6, f0, f1, f2, f3, f4, f5, f6, f7, f8, f9⟩ hL hd hK
        have d3 := hd ⟨3, .data⟩ (by simp) rfl
        obtain rfl := f3 d3
        have q0 := hC.cell hbo cx1
        clear hd
        refine ⟨rfl, ?_⟩
        go_simp
        exact hK _ _ ⟨_, _, _, _, _, _, _, _, _, _, rfl, hC, hO, o1, o2, o3, o4, o5, h6, f0, f1, f2, f3, fun _ => rfl, f5, f6, f7, f8, f9⟩
      · rintro L act X K0 ⟨v6, v22, v23, v24, v25, v26, v27, v28, v29, v30, rfl, hC, hO, o1, o2, o3, o4, o5, h6, f0, f1, f2, f3, f4, f5, f6, f7, f8, f9⟩ hL hd hK
        have d4 := hd ⟨4, .data⟩ (by simp) rfl
        obtain rfl := f4 d4
        clear hd
        refine ⟨rfl, ?_⟩
        go_simp
        refine (cloneStrs_any b3 of3 u c1 0 zs X (HX4.out.bl (HB3.out.trans (hC.below hwz (fun j e => (HVL.out j e).1)))) (by omega)).mono ?_
        rintro e X2 ⟨g, c', rfl, hR, hg, hbx⟩
        have hc : Chg (fun _ => False) X X2 := chgW hbx
        exact hK _ _ ⟨_, _, _, _, _, _, _, _, _, _, rfl, hC.trans (hc.wide (fun _ h => h.elim)), fun h => (hO h).flat brvS_flat hc (fun _ _ h => h), fun h => (by cases h), o2, o3, o4, o5, h6, f0, f1, f2, f3, f4, fun _ => ⟨g, c', rfl, hR, Nat.le_trans hC.size hg⟩, fun h => absurd ((o1 hL).symm.trans h) (by decide), fun h => absurd ((o2 (o1 hL)).symm.trans h) (by decide), fun h => absurd ((o3 (o2 (o1 hL))).symm.trans h) (by decide), f9⟩
      · rintro L act X K0 ⟨v6, v22, v23, v24, v25, v26, v27, v28, v29, v30, rfl, hC, hO, o1, o2, o3, o4, o5, h6, f0, f1, f2, f3, f4, f5, f6, f7, f8, f9⟩ hL hd hK
        have d2 := hd ⟨2, .data⟩ (by simp) rfl
        obtain rfl := f2 d2
        have d5 := hd ⟨5, .data⟩ (by simp) rfl
        obtain ⟨g, c2, rfl, rA, hgA⟩ := f5 d5
        clear hd
        refine ⟨rfl, ?_⟩
        go_simp
        exact hK _ _ ⟨_, _, _, _, _, _, _, _, _, _, rfl, hC, hO, fun h => absurd ((d5).symm.trans h) (by decide), fun h => (by cases h), o3, o4, o5, h6, f0, f1, f2, f3, f4, fun _ => ⟨g, c2, rfl, rA, hgA⟩, fun _ => ⟨g, c2, rfl, rA, hgA⟩, f7, f8, f9⟩
      · rintro L act X K0 ⟨v6, v22, v23, v24, v25, v26, v27, v28, v29, v30, rfl, hC, hO, o1, o2, o3, o4, o5, h6, f0, f1, f2, f3, f4, f5, f6, f7, f8, f9⟩ hL hd hK
        have d6 := hd ⟨6, .data⟩ (by simp) rfl
        obtain ⟨g, c2, rfl, rA, hgA⟩ := f6 d6
        have hc := chgN0 X (.cells #[.string s1, .slice (some ⟨g, 0, none⟩) u c2] 31)
        clear hd
        refine ⟨rfl, ?_⟩
        go_simp
        exact hK _ _ ⟨_, _, _, _, _, _, _, _, _, _, rfl, hC.trans (hc.wide (fun _ h => h.elim)), fun h => (hO h).flat brvS_flat hc (fun _ _ h => h), o1, fun h => absurd ((d6).symm.trans h) (by decide), fun h => (by cases h), o4, o5, h6, f0, f1, f2, f3, f4, fun h => (by obtain ⟨g, c2, e, r, hg⟩ := f5 h; exact ⟨g, c2, e, r.chg hc (fun h => h), hg⟩), fun _ => ⟨g, c2, rfl, rA.chg hc (fun h => h), hgA⟩, fun _ => ⟨g, c2, _, rfl, heap_alloc_new _ _, hC.size, rA.chg hc (fun h => h), hgA⟩, fun h => (by obtain ⟨g, c2, A6, c6, e, l, hv, r, hg⟩ := f8 h; exact ⟨g, c2, A6, c6, e, l.flat brvS_flat hc (fun _ _ h => h), hv, r.chg hc (fun h => h), hg⟩), f9⟩
      · rintro L act X K0 ⟨v6, v22, v23, v24, v25, v26, v27, v28, v29, v30, rfl, hC, hO, o1, o2, o3, o4, o5, h6, f0, f1, f2, f3, f4, f5, f6, f7, f8, f9⟩ hL hd hK
        have d0 := hd ⟨0, .data⟩ (by simp) rfl
        obtain rfl := f0 d0
        have d7 := hd ⟨7, .data⟩ (by simp) rfl
        obtain ⟨g, c2, g2, rfl, hh, hg2, rA, hgA⟩ := f7 d7
        have hXs := hC.size
        have hdl := HDLM.out
        clear hd
        refine ⟨rfl, ?_⟩
        refine wp_append_R2 (.tmp 22) (.tmp 29) _ rfl brvS Try.underlying23 HJ.out rfl (by decide) (v := V) rfl (hO hL) (y := brV (s1, g, c2, zs)) rfl hh rfl (by simp [Value.oneCell']) ⟨rfl, HS1.out, by show Value.slice _ u c2 = Value.slice _ zs.length c2; rw [HU.out]⟩ (by omega) (by omega) (by omega) ?_
        intro A' c' X2 hO2 hc hv
        rw [hdl] at hO2 hv ⊢
        have hv2 : (Value.slice A' (k + 1) c').ownBlock = V.ownBlock ∨ ∃ g3, (Value.slice A' (k + 1) c').ownBlock = some g3 ∧ w3.heap.size ≤ g3 ∧ g3 ≠ g := hv.imp id (fun e => ⟨_, e, hXs, by have := rA.lt; intro e2; dsimp only at this; omega⟩)
        exact hK _ _ ⟨_, _, _, _, _, _, _, _, _, _, rfl, hC.trans hc, fun h => (by cases h), o1, o2, fun h => absurd ((d7).symm.trans h) (by decide), fun h => (by cases h), fun h => absurd ((d0).symm.trans h) (by decide), h6, f0, f1, f2, f3, f4, fun h => (by obtain ⟨g, c2, e, r, hg⟩ := f5 h; exact ⟨g, c2, e, r.chg hc (fun e => by have := HVL.out _ e; omega), hg⟩), fun h => (by obtain ⟨g, c2, e, r, hg⟩ := f6 h; exact ⟨g, c2, e, r.chg hc (fun e => by have := HVL.out _ e; omega), hg⟩), fun _ => ⟨g, c2, g2, rfl, (hc.block g2 (Array.getElem?_eq_some_iff.1 hh).1 (fun e => by have := HVL.out _ e; omega)).trans hh, hg2, rA.chg hc (fun e => by have := HVL.out _ e; dsimp only at this; omega), hgA⟩, fun _ => ⟨g, c2, A', c', rfl, hO2, hv2, rA.chg hc (fun e => by have := HVL.out _ e; dsimp only at this; omega), hgA⟩, fun h => absurd ((o4 hL).symm.trans h) (by decide)⟩
      · rintro L act X K0 ⟨v6, v22, v23, v24, v25, v26, v27, v28, v29, v30, rfl, hC, hO, o1, o2, o3, o4, o5, h6, f0, f1, f2, f3, f4, f5, f6, f7, f8, f9⟩ hL hd hK
        have d8 := hd ⟨8, .data⟩ (by simp) rfl
        obtain ⟨g, c2, A6, c6, rfl, l6, h6, rA, hgA⟩ := f8 d8
        clear hd
        refine ⟨rfl, ?_⟩
        go_simp
        exact hK _ _ ⟨_, _, _, _, _, _, _, _, _, _, rfl, hC, hO, o1, o2, o3, fun h => absurd ((d8).symm.trans h) (by decide), o5, fun h => (by cases h), f0, f1, f2, f3, f4, f5, f6, f7, fun _ => ⟨g, c2, A6, c6, rfl, l6, h6, rA, hgA⟩, fun _ => rfl⟩
      · rintro L act X hLL ⟨v6, v22, v23, v24, v25, v26, v27, v28, v29, v30, rfl, hC, hO, o1, o2, o3, o4, o5, h6, f0, f1, f2, f3, f4, f5, f6, f7, f8, f9⟩
        obtain ⟨g, c2, A6, c6, e6, l6, h8, rA, hgA⟩ := f8 (hLL 8 (by simp))
        subst e6
        obtain rfl := f9 (hLL 9 (by simp))
        have HF := hid (And.intro l6 (And.intro h8 (And.intro rA (And.intro hgA hC))))
        clear l6 h8 rA hgA hC cx0 cx1
        try clear f0
        try clear f1
        try clear f2
        try clear f3
        try clear f4
        try clear f5
        try clear f6
        try clear f7
        try clear f8
        try clear f9
        try clear o1
        try clear o2
        try clear o3
        try clear o4
        try clear o5
        try clear h6
        try clear hO
        try clear hLL
        go_wp2_with fail
        go_roundg (gk - 1)
        case measure => have := HKG.out; omega
        case rel => exact ⟨k + 1, A6, c6, ds ++ [(s1, g, c2, zs)], by have := HKG.out; omega, by go_num, rfl, NestB.grow (d := (s1, g, c2, zs)) HN3.out hwz HF.out.2.2.2.2 HF.out.1 HF.out.2.2.1 HF.out.2.2.2.1 HF.out.2.1, by rw [List.length_append, HDL.out]; rfl, by rw [List.map_append, HDM.out, HTK.out]; rfl, HB3.out.trans (HF.out.2.2.2.2.below hwz (fun j e => (HVL.out j e).1))⟩
    case neg =>
      obtain rfl : k = n := by omega
      have hvl : ∀ j, V.ownBlock = some j → w1.heap.size ≤ j ∧ j < wr.heap.size := fun j hj => HN.out.own.own_lt hj
      have HVL := hid hvl
      have hcx := (HB.out.block w.heap.size (by omega)).trans HN1.out
      have cx0 : wr.cell? ⟨w.heap.size, 0, none⟩ = some (.string s) := by rw [cell_of_row _ _ _ _ _ (0, 0) hcx]; rfl
      have cx1 : wr.cell? ⟨w.heap.size, 1, none⟩ = some (.slice (some ⟨gB, oB, none⟩) q d) := by rw [cell_of_row _ _ _ _ _ (0, 0) hcx]; rfl
      have hbo : ¬ V.ownBlock = some w.heap.size := fun e => by have := hvl _ e; omega
      have HU := hid F1.out.symm
      have HX4 := hid HY.out
      have HO := hid HN.out.own
      have hwz := HB.out.size
      clear hvl hcx
      rw [HHV.out]
      go_wp2_with fail
      refine wp_region_invH (by kernel_rfl) (by kernel_rfl) (fun L act X => ∃ v6 v32 v33 v34 v35 v36 v37 v38 v39 v40 : Value, act = { tmps := #[.slice A k c, .agg #[.string s, .slice (some ⟨gB, oB, none⟩) q d], undef, .pointer (some ⟨w.heap.size, 0, none⟩), .slice none 0 0, .bool false, v6, undef, u8, .slice A k c, .bool true, .bool false, .slice A k c, .int .i64 k, .int .i64 m, .slice (some ⟨w1.heap.size, 0, none⟩) 0 m, .slice A k c, .int .i64 k, .int .i64 k, .bool false, u20, u21, u22, u23, u24, u25, u26, u27, u28, u29, u30, u31, v32, v33, v34, v35, v36, v37, v38, v39, v40, undef, undef, undef, undef], defers := [] } ∧
        (Chg (fun j => V.ownBlock = some j) wr X) ∧ (L 8 = false → OwnR brvS w1.heap.size X 31 V (ds.map brV)) ∧ (L 5 = false → L 6 = false) ∧ (L 6 = false → L 7 = false) ∧ (L 7 = false → L 8 = false) ∧ (L 8 = false → L 9 = false) ∧ (L 0 = false → L 8 = false) ∧ (L 9 = false → V = v6) ∧ (L 0 = true → V = v32) ∧ (L 1 = true → v33 = .pointer (some ⟨w.heap.size, 0, none⟩)) ∧ (L 2 = true → v34 = .string s) ∧ (L 3 = true → v35 = .pointer (some ⟨w.heap.size, 1, none⟩)) ∧ (L 4 = true → v36 = .slice (some ⟨gB, oB, none⟩) q d) ∧ (L 5 = true → ∃ g c2 : Nat, v37 = .slice (some ⟨g, 0, none⟩) q c2 ∧ RowS X (g, c2, ys) ∧ wr.heap.size ≤ g) ∧ (L 6 = true → ∃ g c2 : Nat, v38 = .agg #[.string s, .slice (some ⟨g, 0, none⟩) q c2] ∧ RowS X (g, c2, ys) ∧ wr.heap.size ≤ g) ∧ (L 7 = true → ∃ g c2 g2 : Nat, v39 = .slice (some ⟨g2, 0, none⟩) 1 1 ∧ X.heap[g2]? = some (.cells #[.string s, .slice (some ⟨g, 0, none⟩) q c2] 31 (0, 0)) ∧ wr.heap.size ≤ g2 ∧ RowS X (g, c2, ys) ∧ wr.heap.size ≤ g) ∧ (L 8 = true → ∃ (g c2 : Nat) (A6 : Option Addr) (c6 : Nat), v40 = .slice A6 (k + 1) c6 ∧ OwnR brvS w1.heap.size X 31 (.slice A6 (k + 1) c6) (ds.map brV ++ [brV (s, g, c2, ys)]) ∧ ((Value.slice A6 (k + 1) c6).ownBlock = V.ownBlock ∨ ∃ g3, (Value.slice A6 (k + 1) c6).ownBlock = some g3 ∧ wr.heap.size ≤ g3 ∧ g3 ≠ g) ∧ RowS X (g, c2, ys) ∧ wr.heap.size ≤ g) ∧ (L 9 = true → v6 = v40)) ?_ ⟨?_, ?_, ?_, ?_, ?_, ?_, ?_, ?_, ?_, ?_, trivial⟩ ?_
      · exact ⟨_, _, _, _, _, _, _, _, _, _, rfl, (Chg.refl _ _).drew, fun _ => HO.out.flat brvS_flat (Chg.refl (fun _ => False) wr).drew (fun _ _ h => h), fun _ => rfl, fun _ => rfl, fun _ => rfl, fun _ => rfl, fun _ => rfl, fun _ => rfl, fun h => (by cases h), fun h => (by cases h), fun h => (by cases h), fun h => (by cases h), fun h => (by cases h), fun h => (by cases h), fun h => (by cases h), fun h => (by cases h), fun h => (by cases h), fun h => (by cases h)⟩
      · rintro L act X K0 ⟨v6, v32, v33, v34, v35, v36, v37, v38, v39, v40, rfl, hC, hO, o1, o2, o3, o4, o5, h6, f0, f1, f2, f3, f4, f5, f6, f7, f8, f9⟩ hL hd hK
        obtain rfl := h6 (o4 (o5 hL))
        clear hd
        refine ⟨rfl, ?_⟩
        go_simp
        exact hK _ _ ⟨_, _, _, _, _, _, _, _, _, _, rfl, hC, hO, o1, o2, o3, o4, fun h => (by cases h), h6, fun _ => rfl, f1, f2, f3, f4, f5, f6, f7, f8, f9⟩
      · rintro L act X K0 ⟨v6, v32, v33, v34, v35, v36, v37, v38, v39, v40, rfl, hC, hO, o1, o2, o3, o4, o5, h6, f0, f1, f2, f3, f4, f5, f6, f7, f8, f9⟩ hL hd hK
        clear hd
        refine ⟨rfl, ?_⟩
        go_simp
        exact hK _ _ ⟨_, _, _, _, _, _, _, _, _, _, rfl, hC, hO, o1, o2, o3, o4, o5, h6, f0, fun _ => rfl, f2, f3, f4, f5, f6, f7, f8, f9⟩
      · rintro L act X K0 ⟨v6, v32, v33, v34, v35, v36, v37, v38, v39, v40, rfl, hC, hO, o1, o2, o3, o4, o5, h6, f0, f1, f2, f3, f4, f5, f6, f7, f8, f9⟩ hL hd hK
        have d1 := hd ⟨1, .data⟩ (by simp) rfl
        obtain rfl := f1 d1
        have q0 := hC.cell hbo cx0
        clear hd
        refine ⟨rfl, ?_⟩
        go_simp
        exact hK _ _ ⟨_, _, _, _, _, _, _, _, _, _, rfl, hC, hO, o1, o2, o3, o4, o5, h6, f0, f1, fun _ => rfl, f3, f4, f5, f6, f7, f8, f9⟩
      · rintro L act X K0 ⟨v6, v32, v33, v34, v35, v36, v37, v38, v39, v40, rfl, hC, hO, o1, o2, o3, o4, o5, h6, f0, f1, f2, f3, f4, f5, f6, f7, f8, f9⟩ hL hd hK
        clear hd
        refine ⟨rfl, ?_⟩
        go_simp
        exact hK _ _ ⟨_, _, _, _, _, _, _, _, _, _, rfl, hC, hO, o1, o2, o3, o4, o5, h6, f0, f1, f2, fun _ => rfl, f4, f5, f6, f7, f8, f9⟩
      · rintro L act X K0 ⟨v6, v32, v33, v34, v35, v36, v37, v38, v39, v40, rfl, hC, hO, o1, o2, o3, o4, o5, h6, f0, f1, f2, f3, f4, f5, f6, f7, f8, f9⟩ hL hd hK
        have d3 := hd ⟨3, .data⟩ (by simp) rfl
        obtain rfl := f3 d3
        have q0 := hC.cell hbo cx1
        clear hd
        refine ⟨rfl, ?_⟩
        go_simp
        exact hK _ _ ⟨_, _, _, _, _, _, _, _, _, _, rfl, hC, hO, o1, o2, o3, o4, o5, h6, f0, f1, f2, f3, fun _ => rfl, f5, f6, f7, f8, f9⟩
      · rintro L act X K0 ⟨v6, v32, v33, v34, v35, v36, v37, v38, v39, v40, rfl, hC, hO, o1, o2, o3, o4, o5, h6, f0, f1, f2, f3, f4, f5, f6, f7, f8, f9⟩ hL hd hK
        have d4 := hd ⟨4, .data⟩ (by simp) rfl
        obtain rfl := f4 d4
        clear hd
        refine ⟨rfl, ?_⟩
        go_simp
        refine (cloneStrs_any gB oB q d 0 ys X (HX4.out.bl (HB.out.trans (hC.below hwz (fun j e => (HVL.out j e).1)))) (by omega)).mono ?_
        rintro e X2 ⟨g, c', rfl, hR, hg, hbx⟩
        have hc : Chg (fun _ => False) X X2 := chgW hbx
        exact hK _ _ ⟨_, _, _, _, _, _, _, _, _, _, rfl, hC.trans (hc.wide (fun _ h => h.elim)), fun h => (hO h).flat brvS_flat hc (fun _ _ h => h), fun h => (by cases h), o2, o3, o4, o5, h6, f0, f1, f2, f3, f4, fun _ => ⟨g, c', rfl, hR, Nat.le_trans hC.size hg⟩, fun h => absurd ((o1 hL).symm.trans h) (by decide), fun h => absurd ((o2 (o1 hL)).symm.trans h) (by decide), fun h => absurd ((o3 (o2 (o1 hL))).symm.trans h) (by decide), f9⟩
      · rintro L act X K0 ⟨v6, v32, v33, v34, v35, v36, v37, v38, v39, v40, rfl, hC, hO, o1, o2, o3, o4, o5, h6, f0, f1, f2, f3, f4, f5, f6, f7, f8, f9⟩ hL hd hK
        have d2 := hd ⟨2, .data⟩ (by simp) rfl
        obtain rfl := f2 d2
        have d5 := hd ⟨5, .data⟩ (by simp) rfl
        obtain ⟨g, c2, rfl, rA, hgA⟩ := f5 d5
        clear hd
        refine ⟨rfl, ?_⟩
        go_simp
        exact hK _ _ ⟨_, _, _, _, _, _, _, _, _, _, rfl, hC, hO, fun h => absurd ((d5).symm.trans h) (by decide), fun h => (by cases h), o3, o4, o5, h6, f0, f1, f2, f3, f4, fun _ => ⟨g, c2, rfl, rA, hgA⟩, fun _ => ⟨g, c2, rfl, rA, hgA⟩, f7, f8, f9⟩
      · rintro L act X K0 ⟨v6, v32, v33, v34, v35, v36, v37, v38, v39, v40, rfl, hC, hO, o1, o2, o3, o4, o5, h6, f0, f1, f2, f3, f4, f5, f6, f7, f8, f9⟩ hL hd hK
        have d6 := hd ⟨6, .data⟩ (by simp) rfl
        obtain ⟨g, c2, rfl, rA, hgA⟩ := f6 d6
        have hc := chgN0 X (.cells #[.string s, .slice (some ⟨g, 0, none⟩) q c2] 31)
        clear hd
        refine ⟨rfl, ?_⟩
        go_simp
        exact hK _ _ ⟨_, _, _, _, _, _, _, _, _, _, rfl, hC.trans (hc.wide (fun _ h => h.elim)), fun h => (hO h).flat brvS_flat hc (fun _ _ h => h), o1, fun h => absurd ((d6).symm.trans h) (by decide), fun h => (by cases h), o4, o5, h6, f0, f1, f2, f3, f4, fun h => (by obtain ⟨g, c2, e, r, hg⟩ := f5 h; exact ⟨g, c2, e, r.chg hc (fun h => h), hg⟩), fun _ => ⟨g, c2, rfl, rA.chg hc (fun h => h), hgA⟩, fun _ => ⟨g, c2, _, rfl, heap_alloc_new _ _, hC.size, rA.chg hc (fun h => h), hgA⟩, fun h => (by obtain ⟨g, c2, A6, c6, e, l, hv, r, hg⟩ := f8 h; exact ⟨g, c2, A6, c6, e, l.flat brvS_flat hc (fun _ _ h => h), hv, r.chg hc (fun h => h), hg⟩), f9⟩
      · rintro L act X K0 ⟨v6, v32, v33, v34, v35, v36, v37, v38, v39, v40, rfl, hC, hO, o1, o2, o3, o4, o5, h6, f0, f1, f2, f3, f4, f5, f6, f7, f8, f9⟩ hL hd hK
        have d0 := hd ⟨0, .data⟩ (by simp) rfl
        obtain rfl := f0 d0
        have d7 := hd ⟨7, .data⟩ (by simp) rfl
        obtain ⟨g, c2, g2, rfl, hh, hg2, rA, hgA⟩ := f7 d7
        have hXs := hC.size
        have hdl := HDLM.out
        clear hd
        refine ⟨rfl, ?_⟩
        refine wp_append_R2 (.tmp 32) (.tmp 39) _ rfl brvS Try.underlying23 HJ.out rfl (by decide) (v := V) rfl (hO hL) (y := brV (s, g, c2, ys)) rfl hh rfl (by simp [Value.oneCell']) ⟨rfl, hs, by show Value.slice _ q c2 = Value.slice _ ys.length c2; rw [HU.out]⟩ (by omega) (by omega) (by omega) ?_
        intro A' c' X2 hO2 hc hv
        rw [hdl] at hO2 hv ⊢
        have hv2 : (Value.slice A' (k + 1) c').ownBlock = V.ownBlock ∨ ∃ g3, (Value.slice A' (k + 1) c').ownBlock = some g3 ∧ wr.heap.size ≤ g3 ∧ g3 ≠ g := hv.imp id (fun e => ⟨_, e, hXs, by have := rA.lt; intro e2; dsimp only at this; omega⟩)
        exact hK _ _ ⟨_, _, _, _, _, _, _, _, _, _, rfl, hC.trans hc, fun h => (by cases h), o1, o2, fun h => absurd ((d7).symm.trans h) (by decide), fun h => (by cases h), fun h => absurd ((d0).symm.trans h) (by decide), h6, f0, f1, f2, f3, f4, fun h => (by obtain ⟨g, c2, e, r, hg⟩ := f5 h; exact ⟨g, c2, e, r.chg hc (fun e => by have := HVL.out _ e; omega), hg⟩), fun h => (by obtain ⟨g, c2, e, r, hg⟩ := f6 h; exact ⟨g, c2, e, r.chg hc (fun e => by have := HVL.out _ e; omega), hg⟩), fun _ => ⟨g, c2, g2, rfl, (hc.block g2 (Array.getElem?_eq_some_iff.1 hh).1 (fun e => by have := HVL.out _ e; omega)).trans hh, hg2, rA.chg hc (fun e => by have := HVL.out _ e; dsimp only at this; omega), hgA⟩, fun _ => ⟨g, c2, A', c', rfl, hO2, hv2, rA.chg hc (fun e => by have := HVL.out _ e; dsimp only at this; omega), hgA⟩, fun h => absurd ((o4 hL).symm.trans h) (by decide)⟩
      · rintro L act X K0 ⟨v6, v32, v33, v34, v35, v36, v37, v38, v39, v40, rfl, hC, hO, o1, o2, o3, o4, o5, h6, f0, f1, f2, f3, f4, f5, f6, f7, f8, f9⟩ hL hd hK
        have d8 := hd ⟨8, .data⟩ (by simp) rfl
        obtain ⟨g, c2, A6, c6, rfl, l6, h6, rA, hgA⟩ := f8 d8
        clear hd
        refine ⟨rfl, ?_⟩
        go_simp
        exact hK _ _ ⟨_, _, _, _, _, _, _, _, _, _, rfl, hC, hO, o1, o2, o3, fun h => absurd ((d8).symm.trans h) (by decide), o5, fun h => (by cases h), f0, f1, f2, f3, f4, f5, f6, f7, fun _ => ⟨g, c2, A6, c6, rfl, l6, h6, rA, hgA⟩, fun _ => rfl⟩
      · rintro L act X hLL ⟨v6, v32, v33, v34, v35, v36, v37, v38, v39, v40, rfl, hC, hO, o1, o2, o3, o4, o5, h6, f0, f1, f2, f3, f4, f5, f6, f7, f8, f9⟩
        obtain ⟨g, c2, A6, c6, e6, l6, h8, rA, hgA⟩ := f8 (hLL 8 (by simp))
        subst e6
        obtain rfl := f9 (hLL 9 (by simp))
        have HF := hid (And.intro l6 (And.intro h8 (And.intro rA (And.intro hgA hC))))
        clear l6 h8 rA hgA hC cx0 cx1
        try clear f0
        try clear f1
        try clear f2
        try clear f3
        try clear f4
        try clear f5
        try clear f6
        try clear f7
        try clear f8
        try clear f9
        try clear o1
        try clear o2
        try clear o3
        try clear o4
        try clear o5
        try clear h6
        try clear hO
        try clear hLL
        have hNF := NestB.grow (d := (s, g, c2, ys)) HN.out hwz HF.out.2.2.2.2 HF.out.1 HF.out.2.2.1 HF.out.2.2.2.1 HF.out.2.1
        have HNF := hid hNF
        have HDF := hid (show (ds ++ [(s, g, c2, ys)]).map brT = bs ++ [(s, ys)] by rw [List.map_append, HDM.out, List.take_of_length_le (by rw [← E1.out]; exact Nat.le_refl _)]; rfl)
        have hlf : (ds ++ [(s, g, c2, ys)]).length = k + 1 := by rw [List.length_append, HDL.out]; rfl
        have HLF := hid hlf
        have hc6 : k + 1 ≤ c6 := by obtain ⟨A9, c9, e9, h9⟩ := hNF.own.form; injection e9 with _ _ e9; rw [List.length_map, hlf] at h9; omega
        have HBF := hid (HB0.out.trans ((HB1.out.trans ((HB.out.trans (HF.out.2.2.2.2.below hwz (fun j e => (HVL.out j e).1))).mono hz1)).mono HB0.out.size))
        have hbz := HBF.out.size
        clear hNF hlf
        go_wp2_with fail
        refine (implBriefsValid_any A6 (k + 1) c6 0 (bs ++ [(s, ys)]) X hc6 (HNF.out.rd0 HDF.out (by have := congrArg List.length HDF.out; rw [List.length_map, HLF.out] at this; omega))).mono ?_
        rintro e w5 ⟨rfl, hb5⟩
        obtain ⟨ok, hok⟩ : ∃ ok, briefsOk (bs ++ [(s, ys)]) = ok := ⟨_, rfl⟩
        rw [hok]
        have HOKK := hid hok
        have HB5 := hid hb5
        have hz5 := hb5.size
        clear hok hb5
        cases ok with
        | false =>
          have HVV := hid (show addB bs (s, ys) = none by unfold addB; rw [HOKK.out]; rfl)
          go_wp2_with fail
          go_ret2
          rw [HVV.out]
          exact ⟨_, 0, 0, [], rfl, ⟨OwnR.nil0, (fun r hr => by cases hr), List.nodup_nil⟩, rfl, rfl, HBF.out.trans (HB5.out.mono hbz)⟩
        | true =>
          have HVV := hid (show addB bs (s, ys) = some (bs ++ [(s, ys)]) by unfold addB; rw [HOKK.out]; rfl)
          go_wp2_with fail
          go_ret2
          rw [HVV.out]
          refine ⟨A6, k + 1, c6, ds ++ [(s, g, c2, ys)], rfl, ?_, HLF.out.symm, HDF.out, HBF.out.trans (HB5.out.mono hbz)⟩
          have h9 := (HNF.out.bl HB5.out).wide hz5
          exact ⟨h9.own.low (by omega), fun q hq => by obtain ⟨q1, q2, q3, q4⟩ := h9.row q hq; exact ⟨by omega, q2, q3, q4⟩, h9.one⟩
end Go.Proofs.Ythijnojefeeaoaa
