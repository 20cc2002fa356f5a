/- How many copies there are: what the program's CopyMany returns. -/
import Derived.Test.YthijnojefeeaoaaMany4
import Derived.StillTailTactics
namespace Go.Proofs.Ythijnojefeeaoaa
open Go.RowKit Go.Shelf
attribute [local go_sem] Oper.semAt_some
/-- What CopyMany keeps. -/
structure MnJ (w0 : World) (B0 G gb n : Nat) (gs : List Int) (W : World) : Prop where
  bl : Below w0.heap.size w0 W
  sz : B0 ≤ W.heap.size
  hG : Filled intS 0 0 W G 3 (n + 1) (n + 1) gs
  cg : W.heap[gb]? = some (.cells #[.slice (some ⟨G, 0, none⟩) (n + 1) (n + 1)] 28 (0, 0))
theorem MnJ.keep {w0 : World} {B0 G gb n : Nat} {gs : List Int} {W W' : World} (h : MnJ w0 B0 G gb n gs W) (hb : Below W.heap.size W W') : MnJ w0 B0 G gb n gs W' :=
  ⟨h.bl.trans (hb.mono h.bl.size), Nat.le_trans h.sz hb.size, h.hG.same intS_flat (hb.block _ h.hG.lt), (hb.block _ (Array.getElem?_eq_some_iff.1 h.cg).1).trans h.cg⟩
theorem MnJ.put {w0 : World} {B0 G gb n p : Nat} {gs : List Int} {W : World} (h : MnJ w0 B0 G gb n gs W) (hp : p < n) (x : Int) (hG : w0.heap.size ≤ G) (hne : gb ≠ G) :
    MnJ w0 B0 G gb n (gs.set p x) (W.setCell ⟨G, p, none⟩ (.int .i64 x)) ∧ Chg (fun k => k = G) W (W.setCell ⟨G, p, none⟩ (.int .i64 x)) := by
  have hc : Chg (fun k => k = G) W (W.setCell ⟨G, p, none⟩ (.int .i64 x)) := (Chg.refl (fun k => k = G) W).set (p := ⟨G, p, none⟩) rfl _
  exact ⟨⟨h.bl.trans (hc.below h.bl.size (by rintro k e; omega)), Nat.le_trans h.sz hc.size, h.hG.setI (by omega) x, (Below.heap_setCell _ _ _ _ hne).trans h.cg⟩, hc⟩
set_option maxRecDepth 100000 in
set_option maxHeartbeats 1000000 in
theorem CopyMany1_any {w0 : World} {B0 G gb n p : Nat} {gs : List Int} {W : World} {t : Tok} (h : MnJ w0 B0 G gb n gs W) (hp : p < n) (hn : n ≤ 20) (ht1 : 1 ≤ t.wd) (ht2 : p + t.wd ≤ n) (hG : w0.heap.size ≤ G) (hne : gb ≠ G) (hGB : G < B0) (hgb : gb < B0) :
    Calls Try.prog 82 #[.int .i64 p, tokV t, .pointer (some ⟨gb, 0, none⟩)] W fun e W' => e = .returned (.tuple #[]) ∧ MnJ w0 B0 G gb n (stepW gs (p, t)) W' ∧ Chg (fun k => k = G) W W' := by
  have hb1 := bnew W (.cells #[.int .i64 t.k, .int .i64 t.wd, .int .i64 t.co] 68)
  have hn1 := heap_alloc_new W (.cells #[.int .i64 t.k, .int .i64 t.wd, .int .i64 t.co] 68)
  have z1 := World.size_alloc W (.cells #[.int .i64 t.k, .int .i64 t.wd, .int .i64 t.co] 68)
  obtain ⟨W1, hW1⟩ : ∃ W1, W.alloc (.cells #[.int .i64 t.k, .int .i64 t.wd, .int .i64 t.co] 68) = W1 := ⟨_, rfl⟩
  rw [hW1] at hb1 hn1 z1
  have hL1 := h.keep hb1
  have hsz := h.sz
  obtain ⟨s, hs⟩ : ∃ s, p + t.wd = s := ⟨_, rfl⟩
  have hwp : IntKind.i64.wrap ((p : Int) + (t.wd : Int)) = (s : Int) := by
    rw [show (p : Int) + (t.wd : Int) = (s : Int) by omega]
    exact IntWalk.i64_in _ (by omega)
  have hsn : s < n + 1 := by omega
  have hsni : (s : Int) < (n : Int) + 1 := by omega
  have hpni : (p : Int) < (n : Int) + 1 := by omega
  have hpn1 : p < n + 1 := by omega
  obtain ⟨x0, hx0⟩ : ∃ x0, gt gs p = x0 := ⟨_, rfl⟩
  obtain ⟨x1, hx1⟩ : ∃ x1, gt gs s = x1 := ⟨_, rfl⟩
  obtain ⟨y, hy⟩ : ∃ y, IntKind.i64.wrap (x0 + x1) = y := ⟨_, rfl⟩
  obtain ⟨cP, cF⟩ := hL1.hG.intAt (k := p) (by omega)
  have cS := (hL1.hG.intAt (k := s) (by omega)).1
  rw [hx0] at cP
  rw [hx1] at cS
  have cg := cell_one hL1.cg
  have cw : W1.cell? ⟨W.heap.size, 1, none⟩ = some (.int .i64 t.wd) := by rw [cell_of_row _ _ _ _ _ (0, 0) hn1]; rfl
  have HST := hid (show stepW gs (p, t) = gs.set p y by unfold stepW; dsimp only; rw [hs, hx0, hx1, hy])
  have HP := hid (hL1.put hp y hG hne)
  have HB1 := hid hb1
  have HW1 := hid hW1
  clear hn1 hL1 hb1 z1 hW1 hx0 hx1 h hsz hs
  unfold tokV
  go_enter Try.func82, Try.ntmps82
  go_wp2_with fail
  rw [HW1.out]
  refine wp_region_still_tail 13 (by kernel_rfl) (by kernel_rfl) ?_
  simp only [List.take_succ_cons, List.take_zero, List.drop_succ_cons, List.drop_zero]
  repeat still_step
  try refine wpStill_nil ?_
  change wpList _ _ _ _ _ W1.drew
  go_wp2_with fail
  go_end0
  refine ⟨rfl, ?_, ?_⟩
  · rw [HST.out]
    exact HP.out.1.keep (bdr _)
  · exact ((chgB HB1.out).trans HP.out.2).drew
theorem three_new (w : World) (o0 o1 o2 : Obj) : (((w.alloc o0).alloc o1).alloc o2).heap.size = w.heap.size + 3 ∧ (((w.alloc o0).alloc o1).alloc o2).heap[w.heap.size]? = some o0 ∧ (((w.alloc o0).alloc o1).alloc o2).heap[w.heap.size + 1]? = some o1 ∧ (((w.alloc o0).alloc o1).alloc o2).heap[w.heap.size + 1 + 1]? = some o2 ∧ Below w.heap.size w (((w.alloc o0).alloc o1).alloc o2) :=
  ⟨by simp, keepA (keepA (heap_alloc_new w o0) o1) o2, keepA (newA _ o1 (by simp)) o2, newA _ o2 (by simp), bal (bal (bnew _ _) _) _⟩
def manyV (bs : List BriefT) (ws : List ByteArray) : Int := match deskOk bs ws with
  | true => gt (manyL bs ws) 0
  | false => -1
set_option maxRecDepth 100000 in
set_option maxHeartbeats 1000000 in
theorem implCopyMany_any (A B : Option Addr) (n c m d : Nat) (bs : List BriefT) (ws : List ByteArray) (w : World) (hnc : n ≤ c) (hmd : m ≤ d) (hd63 : d ≤ 9223372036854775807) (hx : Rd briefS 0 w.heap.size w A n bs) (hy : Rd strS 0 w.heap.size w B m ws) :
    Calls Try.prog 51 #[.slice A n c, .slice B m d] w fun e w' => e = .returned (.int .i64 (manyV bs ws)) ∧ Below w.heap.size w w' := by
  have hmf : ∀ (fn : Fn) (first cap : Array Value) (w : World), (Instr.makeFunc fn first cap).run Try.prog w = .ok (.func fn first cap) w := fun _ _ _ _ => rfl
  have HX := hid hx
  have HY := hid hy
  have hdo := deskOf_any A B n c m d 0 bs ws w hnc hx hy
  clear hx hy
  cases hx1 : deskOk bs ws with
  | false =>
    rw [hx1] at hdo
    have HDO := hid hdo
    have HV := hid (show manyV bs ws = -1 by unfold manyV; rw [hx1])
    clear hdo hx1
    go_enter Try.func51, Try.ntmps51
    go_wp2_with fail
    refine HDO.out.mono ?_
    rintro e w1 ⟨rfl, hb1⟩
    unfold deskV
    have HB1 := hid hb1
    clear hb1
    go_wp2_with fail
    go_ret
    exact ⟨ret_int HV.out.symm, btr HB1.out (bnew _ _)⟩
  | true =>
    rw [hx1] at hdo
    have HDO := hid hdo
    have HV := hid (show manyV bs ws = gt (manyL bs ws) 0 by unfold manyV; rw [hx1])
    obtain ⟨hn8, hm20, hwd, hms, hws⟩ := desk_len hx1
    have hb0 := (desk_yes hx1).1
    have hmw := HY.out.1
    rw [← hmw] at hm20
    have HMW := hid hmw
    have HBK := hid hb0
    have HWD := hid fun b hb => (hwd b hb).1
    obtain ⟨i2, hj1, hy0, hy1, hy2⟩ := info_parts (show (Try.prog.info? 3).map (fun i => (i.zero, i.size, i.bytes)) = some (some (.int .i64 0), 1, 8) by kernel_rfl)
    have hmk2 : ∀ w : World, (Instr.makeSlice 28 (.int .i64 ((m : Int) + 1)) (.int .i64 ((m : Int) + 1))).run Try.prog w = .ok (.slice (some ⟨w.heap.size, 0, none⟩) (m + 1) (m + 1)) (w.alloc (.cells (madeCells #[.int .i64 0] (m + 1)) 3)) := fun w => by
      have := make_rule (P := Try.prog) Try.underlying28 hj1 hy0 hy1 hy2 (n := m + 1) (by omega) (by omega) w
      rw [Nat.mul_one] at this
      exact this
    clear hdo hx1 hmw hb0 hwd hms hws hj1 hy0 hy1 hy2
    have hmi : (m : Int) < (m : Int) + 1 := by omega
    have h0i : (0 : Int) < (m : Int) + 1 := by omega
    go_enter Try.func51, Try.ntmps51
    go_wp2_with fail
    refine HDO.out.mono ?_
    rintro e w1 ⟨rfl, hb1⟩
    unfold deskV
    have HB1 := hid hb1
    have RX1 := hid (HX.out.bl hb1)
    have RY1 := hid (HY.out.bl hb1)
    clear hb1
    obtain ⟨D, hD⟩ : ∃ D : Obj, (.cells #[.slice A n c, .slice B m d] 62) = D := ⟨_, rfl⟩
    obtain ⟨Bx, hBx⟩ : ∃ Bx : Obj, (.cells #[.slice (some ⟨w1.heap.size + 1, 0, none⟩) (m + 1) (m + 1)] 28) = Bx := ⟨_, rfl⟩
    have hN := fun cs : Array Value => three_new w1 D (.cells cs 3) Bx
    rw [← hD, ← hBx] at hN
    have HN := hid hN
    clear hN hD hBx D Bx
    have d0 : ∀ cs : Array Value, (((w1.alloc (.cells #[.slice A n c, .slice B m d] 62)).alloc (.cells cs 3)).alloc (.cells #[.slice (some ⟨w1.heap.size + 1, 0, none⟩) (m + 1) (m + 1)] 28)).cell? ⟨w1.heap.size, 0, none⟩ = some (.slice A n c) := fun cs => by
      rw [cell_of_row _ _ _ _ _ (0, 0) (HN.out cs).2.1]; rfl
    have d1 : ∀ cs : Array Value, (((w1.alloc (.cells #[.slice A n c, .slice B m d] 62)).alloc (.cells cs 3)).alloc (.cells #[.slice (some ⟨w1.heap.size + 1, 0, none⟩) (m + 1) (m + 1)] 28)).cell? ⟨w1.heap.size, 1, none⟩ = some (.slice B m d) := fun cs => by
      rw [cell_of_row _ _ _ _ _ (0, 0) (HN.out cs).2.1]; rfl
    have hz := zero_ints (HN.out (madeCells #[.int .i64 0] (m + 1))).2.2.1 (by omega)
    obtain ⟨g0, g1⟩ := hz.intAt (k := m) (by omega)
    have HZ := hid hz
    clear hz
    go_wp2_with fail
    obtain ⟨z4, n0, n1, n2, hb4⟩ := HN.out ((madeCells #[.int .i64 0] (m + 1)).setIfInBounds m (.int .i64 1))
    obtain ⟨z3, _, n13, _, _⟩ := HN.out (madeCells #[.int .i64 0] (m + 1))
    have hF4 := HZ.out.setI (j := m) (by omega) 1
    have hset := heap_setCell_same _ (w1.heap.size + 1) m _ 3 (.int .i64 1) n13
    have hF5 := Filled.same hF4 intS_flat (n1.trans hset.symm)
    have hls : (List.replicate (m + 1) (0 : Int)).set m 1 = List.replicate m 0 ++ [1] := by
      rw [List.replicate_succ']
      have := set_right (List.replicate m (0 : Int)) [] 0 1
      rw [List.length_replicate] at this
      exact this
    rw [hls] at hF5
    obtain ⟨W6, hW6⟩ : ∃ W6, (((w1.alloc (.cells #[.slice A n c, .slice B m d] 62)).alloc (.cells ((madeCells #[.int .i64 0] (m + 1)).setIfInBounds m (.int .i64 1)) 3)).alloc (.cells #[.slice (some ⟨w1.heap.size + 1, 0, none⟩) (m + 1) (m + 1)] 28)) = W6 := ⟨_, rfl⟩
    rw [hW6] at z4 n0 n1 n2 hb4 hF5 ⊢
    clear hF4 hset hls n13 z3 HZ hW6 g0 g1 d0 d1 hmk2 hmf
    have hJ : MnJ w1 (w1.heap.size + 3) (w1.heap.size + 1) (w1.heap.size + 1 + 1) m (List.replicate m 0 ++ [1]) W6 := ⟨hb4, by omega, hF5, n2⟩
    refine (visit_any 82 #[.pointer (some ⟨w1.heap.size + 1 + 1, 0, none⟩)] (enters_of Try.func82 (by kernel_rfl) rfl) A B n c m d bs ws (w1.heap.size + 3) (fun k => k = w1.heap.size + 1)
      (fun pre W => MnJ w1 (w1.heap.size + 3) (w1.heap.size + 1) (w1.heap.size + 1 + 1) m (pre.foldl stepW (List.replicate m 0 ++ [1])) W)
      HMW.out hmd hd63 (by rw [RX1.out.1]; exact hn8) (by rintro k e; omega) (fun pre W h => ⟨h.sz, RX1.out.bl h.bl, RY1.out.bl h.bl⟩) (fun pre W W' h hb' => h.keep hb')
      (fun pre p t W h hp ht => by
        have hmwo := HMW.out
        have hpm : p < m := by omega
        have hwd := toks_wd 0 bs (ws.drop p) HWD.out t ht
        have hfit := toks_fit 0 bs (ws.drop p) (by rw [List.length_drop]; omega) t ht
        rw [List.length_drop] at hfit
        refine (CopyMany1_any h hpm hm20 hwd (by omega) (by omega) (by omega) (by omega) (by omega)).mono ?_
        rintro e W' ⟨he, hl, hc⟩
        refine ⟨he, ?_, hc⟩
        show MnJ _ _ _ _ _ ((pre ++ [(p, t)]).foldl stepW _) W'
        rw [List.foldl_append]
        exact hl) m 0 (Nat.zero_add _) [] W6 hJ).mono ?_
    rintro e w7 ⟨rfl, hJ7, hc7⟩
    have hall : (evs bs 0 ws).foldl stepW (List.replicate m 0 ++ [1]) = manyL bs ws := by
      have := fold_many HBK.out ws (by rw [← HMW.out]; exact hm20) m 0 (by rw [← HMW.out]; exact Nat.zero_add _)
      rw [List.drop_zero, ← HMW.out] at this
      exact this
    rw [List.drop_zero, List.nil_append, hall] at hJ7
    obtain ⟨r0, _⟩ := hJ7.hG.intAt (k := 0) (by omega)
    have r1 := cell_one hJ7.cg
    obtain ⟨Y, hY⟩ : ∃ Y, gt (manyL bs ws) 0 = Y := ⟨_, rfl⟩
    rw [hY] at r0
    have HYV := hid hY
    have HJ := hid hJ7.bl
    clear hJ hJ7 hc7 hall hF5 n0 n1 n2 hb4 z4 hY
    go_wp2_with fail
    go_ret
    exact ⟨ret_int (by rw [HV.out, HYV.out]), btr HB1.out HJ.out⟩
end Go.Proofs.Ythijnojefeeaoaa
