/- The reference's costs: what l4At, l4Both, l4Costs return. -/
import Derived.Test.YthijnojefeeaoaaCopy
import Derived.StillTailTactics
namespace Go.Proofs.Ythijnojefeeaoaa
open Go.RowKit Go.Shelf
attribute [local go_sem] Oper.semAt_some
set_option maxRecDepth 100000 in
set_option maxHeartbeats 1000000 in
theorem l4At_any (A : Option Addr) (q c b0 off0 m d p lo : Nat) (s : ByteArray) (xs ws : List ByteArray) (w : World) (hx : Rd strS lo w.heap.size w A q xs) (hy : Rd strS lo w.heap.size w (some ⟨b0, off0, none⟩) m ws) (hp : p < m) (hm : m ≤ 1048576) (hmd : m ≤ d) (_hd63 : d ≤ 9223372036854775807) (hq : q ≤ 1048576) :
    Calls Try.prog 73 #[.slice (some ⟨b0, off0, none⟩) m d, .int .i64 p, .agg #[.string s, .slice A q c]] w fun e w' => e = .returned (.bool (ahead (s, xs) (ws.drop p))) ∧ Below w.heap.size w w' := by
  have E1 := hid hx.1
  have F1 := hid hy.1
  have hb0 := bnew w (.cells #[.string s, .slice A q c] 31)
  have hn0 := heap_alloc_new w (.cells #[.string s, .slice A q c] 31)
  have z0 := World.size_alloc w (.cells #[.string s, .slice A q c] 31)
  obtain ⟨W1, hW1⟩ : ∃ W1, w.alloc (.cells #[.string s, .slice A q c] 31) = W1 := ⟨_, rfl⟩
  rw [hW1] at hb0 hn0 z0
  obtain ⟨t, ht⟩ : ∃ t, p + q = t := ⟨_, rfl⟩
  have hwp : IntKind.i64.wrap ((p : Int) + (q : Int)) = (t : Int) := by
    rw [show (p : Int) + (q : Int) = (t : Int) by omega]
    exact IntWalk.i64_in _ (by omega)
  have HT := hid ht
  have HB0 := hid hb0
  have HN0 := hid hn0
  have Z0 := hid z0
  have HW1 := hid hW1
  have HX := hid hx
  have HY := hid hy
  clear hx hy ht hb0 hn0 z0 hW1
  by_cases hle : t ≤ m
  case neg =>
    have hti : ¬ ((t : Int) ≤ (m : Int)) := by omega
    have HA := hid (show ahead (s, xs) (ws.drop p) = false by
      unfold ahead
      rw [decide_eq_false (by rw [List.length_drop, ← F1.out]; show ¬ xs.length ≤ _; rw [← E1.out]; have := HT.out; omega), Bool.false_and])
    have cc := aft_cell (b := w.heap.size) (o := 1) (v := .slice A q c) (B := W1.heap.size) (w0 := W1) (by have := Z0.out; omega) (by rw [cell_of_row _ _ _ _ _ (0, 0) HN0.out]; rfl)
    go_enter Try.func73, Try.ntmps73
    go_wp2_with fail
    rw [HW1.out]
    refine wp_region_aft (B := W1.heap.size) (w0 := W1) (Below.refl _ _) (by kernel_rfl) (by kernel_rfl) ?_
    repeat (go_big_quiet_step (fail))
    refine wpQuiet_nil ?_
    rintro w2 ⟨⟨w3, hb2⟩, hw3⟩
    have hw4 : w2 = w3 := hw3
    clear hw3
    subst hw4
    have HB2 := hid hb2
    clear hb2 cc
    go_wp2_with fail
    go_ret
    exact ⟨ret_bool HA.out.symm, btr HB0.out HB2.out⟩
  case pos =>
    have hti : ((t : Int) ≤ (m : Int)) := by omega
    have hpt : ((p : Int) ≤ (t : Int)) := by have := HT.out; omega
    have hptn : p ≤ t := by have := HT.out; omega
    have htd : ((t : Int) ≤ (d : Int)) := by omega
    have htdn : t ≤ d := by omega
    have hdp : ¬ (d = p) := by omega
    have hsub := (HY.out.bl HB0.out).sub (i := p) (j := t) hptn hle (some ⟨b0, off0 + p, none⟩) (fun b off e _ => by injection e with e; injection e with e1 e2 _; subst e1 e2; rw [show strS.sz = 1 from rfl, Nat.mul_one])
    have hxb := HX.out.bl HB0.out
    have HA := hid (show ahead (s, xs) (ws.drop p) = eqD ((ws.take t).drop p) xs by
      unfold ahead
      rw [decide_eq_true (by rw [List.length_drop, ← F1.out]; show xs.length ≤ _; rw [← E1.out]; have := HT.out; omega), Bool.true_and]
      show eqD ((ws.drop p).take xs.length) xs = _
      rw [← E1.out, List.take_drop, HT.out])
    have cc := aft_cell (b := w.heap.size) (o := 1) (v := .slice A q c) (B := W1.heap.size) (w0 := W1) (by have := Z0.out; omega) (by rw [cell_of_row _ _ _ _ _ (0, 0) HN0.out]; rfl)
    have call : ∀ (p1 : Aft W1.heap.size W1), Calls Try.prog 89 #[.slice (some ⟨b0, off0 + p, none⟩) (t - p) (d - p), .slice A q c] p1.val fun e w'' => e = .returned (.bool (eqD ((ws.take t).drop p) xs)) ∧ ∃ r : Aft W1.heap.size W1, w'' = r.val :=
      fun p1 => aft_call (l4Same_any _ _ _ _ _ _ lo lo _ _ _ ((hsub.below p1.prop (Nat.le_refl _)).wide (Nat.le_refl _) p1.prop.size) ((hxb.below p1.prop (Nat.le_refl _)).wide (Nat.le_refl _) p1.prop.size)) (Nat.le_refl _)
    have Hcall := hid call
    clear call hsub hxb
    go_enter Try.func73, Try.ntmps73
    go_wp2_with fail
    rw [HW1.out]
    refine wp_region_aft (B := W1.heap.size) (w0 := W1) (Below.refl _ _) (by kernel_rfl) (by kernel_rfl) ?_
    repeat (go_big_quiet_step ((go_at_call 89; exact Hcall.out _)))
    refine wpQuiet_nil ?_
    rintro w2 ⟨⟨w3, hb2⟩, hw3⟩
    have hw4 : w2 = w3 := hw3
    clear hw3
    subst hw4
    have HB2 := hid hb2
    clear hb2 cc
    go_wp2_with fail
    go_ret
    exact ⟨ret_bool HA.out.symm, btr HB0.out HB2.out⟩
set_option maxRecDepth 100000 in
set_option maxHeartbeats 1000000 in
theorem l4Both_any (A B : Option Addr) (n c m d lo : Nat) (bs : List BriefT) (ws : List ByteArray) (w : World) (hx : Rd briefS lo w.heap.size w A n bs) (hy : Rd strS lo w.heap.size w B m ws) :
    Calls Try.prog 71 #[.slice A n c, .slice B m d] w fun e w' => e = .returned (.bool (deskOk bs ws)) ∧ Below w.heap.size w w' := by
  have HX := hid hx
  have HY := hid hy
  clear hx hy
  obtain ⟨x, hx1⟩ : ∃ x, briefsOk bs = x := ⟨_, rfl⟩
  obtain ⟨y, hy1⟩ : ∃ y, speechOk ws = y := ⟨_, rfl⟩
  have HD := hid (show deskOk bs ws = (x && y) by unfold deskOk; rw [hx1, hy1])
  have HX1 := hid hx1
  have HY1 := hid hy1
  clear hx1 hy1
  go_enter Try.func71, Try.ntmps71
  go_wp2_with fail
  refine (specBriefsValid_any A n c lo bs _ HX.out).mono ?_
  rintro e w1 ⟨rfl, hb1⟩
  rw [HX1.out]
  have HB1 := hid hb1
  clear hb1
  cases x with
  | false =>
    go_wp2_with fail
    go_ret
    exact ⟨ret_bool (by rw [HD.out]; rfl), HB1.out⟩
  | true =>
    go_wp2_with (go_at_call 94; refine (specSpeechValid_any _ _ _ lo ws _ (HY.out.bl HB1.out)).mono ?_; rintro e w' ⟨rfl, rfl⟩; rw [HY1.out])
    go_ret
    exact ⟨ret_bool (by rw [HD.out]; rfl), HB1.out⟩
theorem costs_ub {a c : Int} (ha : a = 0 ∨ a = 1) (hc : c = 0 ∨ c = 1) {bs : List BriefT} : ∀ {ws : List ByteArray}, (∀ s ∈ ws, s.size ≤ 12) → gt (costs a c bs ws) 0 ≤ 13 * ws.length
  | [], _ => Int.le_refl _
  | w :: ws, h => by
    have h1 := costs_ub ha hc (bs := bs) (ws := ws) fun s hs => h s (List.mem_cons_of_mem _ hs)
    have h2 := (minFold (fun b => ahead b (w :: ws)) (fun b => gt (costs a c bs ws) (b.2.length - 1) + a * b.1.size + c) bs (gt (costs a c bs ws) 0 + a * w.size + c)).1
    have h3 := h w (List.mem_cons_self ..)
    rw [costs_cons, List.length_cons]
    have h4 : a * (w.size : Int) ≤ 12 := by
      rcases ha with rfl | rfl
      · rw [Int.zero_mul]; omega
      · rw [Int.one_mul]; omega
    omega
theorem rep_at (p : Nat) (b : Int) (L : List Int) : gt (List.replicate p (0 : Int) ++ b :: L) p = b := by
  have := gt_right (List.replicate p (0 : Int)) (b :: L) 0
  rw [List.length_replicate, Nat.add_zero] at this
  exact this
theorem rep_far (p : Nat) (b : Int) (L : List Int) {k : Nat} (hk : 1 ≤ k) : gt (List.replicate p (0 : Int) ++ b :: L) (p + k) = gt L (k - 1) := by
  have := gt_right (List.replicate p (0 : Int)) (b :: L) k
  rw [List.length_replicate] at this
  rw [this]
  obtain ⟨q, hq⟩ : ∃ q, k = q + 1 := ⟨k - 1, by omega⟩
  rw [hq, gt_cons, Nat.add_sub_cancel]
theorem rep_set (p : Nat) (b y : Int) (L : List Int) : (List.replicate p (0 : Int) ++ b :: L).set p y = List.replicate p (0 : Int) ++ y :: L := by
  have := set_right (List.replicate p (0 : Int)) L b y
  rw [List.length_replicate] at this
  exact this
theorem mul_bd {a : Int} (ha : a = 0 ∨ a = 1) {s : Nat} (hs : s ≤ 12) : 0 ≤ a * (s : Int) ∧ a * (s : Int) ≤ 12 := by
  rcases ha with rfl | rfl
  · rw [Int.zero_mul]; omega
  · rw [Int.one_mul]; omega
/-- One more brief at a place. -/
def minB (a c : Int) (R : List Int) (ws : List ByteArray) (m : Int) (b : BriefT) : Int := if ahead b ws then min m (gt R (b.2.length - 1) + a * b.1.size + c) else m
theorem costs_minB (a c : Int) (bs : List BriefT) (w : ByteArray) (ws : List ByteArray) : costs a c bs (w :: ws) = bs.foldl (minB a c (costs a c bs ws) (w :: ws)) (gt (costs a c bs ws) 0 + a * w.size + c) :: costs a c bs ws := rfl
set_option maxRecDepth 100000 in
set_option maxHeartbeats 4000000 in
theorem l4Costs_any (A B : Option Addr) (n e m d : Nat) (a c : Int) (bs : List BriefT) (ws : List ByteArray) (w : World) (hmd : m ≤ d) (hd63 : d ≤ 9223372036854775807) (hx : Rd briefS 0 w.heap.size w A n bs) (hy : Rd strS 0 w.heap.size w B m ws) (ha : a = 0 ∨ a = 1) (hc : c = 0 ∨ c = 1) (hdo : deskOk bs ws = true) :
    Calls Try.prog 72 #[.slice A n e, .slice B m d, .int .i64 a, .int .i64 c] w fun r w' => ∃ G, r = .returned (.slice (some ⟨G, 0, none⟩) (m + 1) (m + 1)) ∧ Rd intS w.heap.size w'.heap.size w' (some ⟨G, 0, none⟩) (m + 1) (costs a c bs ws) ∧ Below w.heap.size w w' := by
  obtain ⟨hn8, hm20, hwd, hms, hws⟩ := desk_len hdo
  have E1 := hid hx.1
  have F1 := hid hy.1
  rw [← E1.out] at hn8
  rw [← F1.out] at hm20
  obtain ⟨i2, hj1, hy0, hy1, hy2⟩ := info_parts (show (Try.prog.info? 3).map (fun i => (i.zero, i.size, i.bytes)) = some (some (.int .i64 0), 1, 8) by kernel_rfl)
  have hmk2 : ∀ w : World, (Instr.makeSlice 28 (.int .i64 ((m : Int) + 1)) (.int .i64 ((m : Int) + 1))).run Try.prog w = .ok (.slice (some ⟨w.heap.size, 0, none⟩) (m + 1) (m + 1)) (w.alloc (.cells (madeCells #[.int .i64 0] (m + 1)) 3)) := fun w => by
    have := make_rule (P := Try.prog) Try.underlying28 hj1 hy0 hy1 hy2 (n := m + 1) (by omega) (by omega) w
    rw [Nat.mul_one] at this
    exact this
  have hb0 := bnew w (.cells (madeCells #[.int .i64 0] (m + 1)) 3)
  have hf0 := zero_ints (heap_alloc_new w (.cells (madeCells #[.int .i64 0] (m + 1)) 3)) (by omega)
  have HX := hid hx
  have HY := hid hy
  have HWD := hid hwd
  have HMS := hid hms
  have HWS := hid hws
  have HA := hid (And.intro ha hc)
  clear hx hy hj1 hy0 hy1 hy2 hwd hms hws hdo ha hc
  have HF0 := hid hf0
  have HB0 := hid hb0
  clear hf0 hb0
  go_enter Try.func72, Try.ntmps72
  go_wp2_with fail
  clear hmk2
  go_loopg [10, 11] m (fun gk i _ wr => ∃ p : Nat, p = gk ∧ p ≤ m ∧ i = .int .i64 ((p : Int) - 1) ∧ Filled intS 0 0 wr w.heap.size 3 (m + 1) (m + 1) (List.replicate p 0 ++ costs a c bs (ws.drop p)) ∧ Below w.heap.size w wr)
  case atStart =>
    refine ⟨m, rfl, Nat.le_refl _, rfl, ?_, HB0.out⟩
    rw [List.drop_eq_nil_of_le (by rw [F1.out]; exact Nat.le_refl _), costs, ← List.replicate_succ']
    exact HF0.out
  case round =>
    clear HF0 HB0
    obtain ⟨p, hpg, hpm, rfl, hF, hb⟩ := hrel
    have HPG := hid hpg
    have HF := hid hF
    have HB := hid hb
    clear hpg hF hb
    cases p with
    | zero =>
      go_wp2_with fail
      go_ret
      exact ⟨_, rfl, HF.out.doneF intS_flat (Nat.le_refl _) HF.out.lt, HB.out⟩
    | succ p =>
      have e0 : (((p + 1 : Nat) : Int) - 1) = (p : Int) := by omega
      rw [e0]
      clear e0
      have hpm2 : p < m := by omega
      have hpw : p < ws.length := by rw [← F1.out]; exact hpm2
      have HPW := hid hpw
      obtain ⟨R, hR⟩ : ∃ R, costs a c bs (ws.drop (p + 1)) = R := ⟨_, rfl⟩
      have hWs : ∀ s ∈ ws.drop (p + 1), s.size ≤ 12 := fun s hs => HWS.out s (List.mem_of_mem_drop hs)
      have hnn := fun b hb => (HWD.out b hb).1
      have hr0 : 0 ≤ gt R 0 ∧ gt R 0 ≤ 13 * (m - (p + 1)) := by
        rw [← hR]
        refine ⟨costs_nn a c (by rcases HA.out.1 with h | h <;> omega) (by rcases HA.out.2 with h | h <;> omega) hnn _, ?_⟩
        have := costs_ub HA.out.1 HA.out.2 (bs := bs) hWs
        rw [List.length_drop, ← F1.out] at this
        omega
      have hRb : ∀ k, 1 ≤ k → p + k ≤ m → 0 ≤ gt R (k - 1) ∧ gt R (k - 1) ≤ 13 * m := fun k hk1 hk2 => by
        rw [← hR, costs_drop (by rw [List.length_drop, ← F1.out]; omega)]
        refine ⟨costs_nn a c (by rcases HA.out.1 with h | h <;> omega) (by rcases HA.out.2 with h | h <;> omega) hnn _, ?_⟩
        have := costs_ub HA.out.1 HA.out.2 (bs := bs) (ws := (ws.drop (p + 1)).drop (k - 1)) (fun s hs => hWs s (List.mem_of_mem_drop hs))
        rw [List.length_drop, List.length_drop, ← F1.out] at this
        omega
      have HRB := hid hRb
      have HRR := hid hR
      obtain ⟨b1, o1, hB, _, hb1, hcy⟩ := HY.out.2.2 (by omega)
      subst hB
      obtain ⟨y0, y1⟩ := hcy.str hpm2
      have cw := bcl HB.out y0
      have hsz := HWS.out (gt ws p) (gt_mem hpw)
      obtain ⟨sw, hsw⟩ : ∃ sw, (gt ws p).size = sw := ⟨_, rfl⟩
      rw [hsw] at hsz
      obtain ⟨z, hz⟩ : ∃ z, a * (sw : Int) = z := ⟨_, rfl⟩
      have hzb := mul_bd HA.out.1 hsz
      rw [hz] at hzb
      have hcb : 0 ≤ c ∧ c ≤ 1 := by rcases HA.out.2 with h | h <;> omega
      obtain ⟨r0, hr00⟩ : ∃ r0, gt R 0 = r0 := ⟨_, rfl⟩
      rw [hr00] at hr0
      have hFp := HF.out
      rw [hR, List.replicate_succ', List.append_assoc, List.singleton_append] at hFp
      have cG := (hFp.intAt (k := p + 1) (by omega)).1
      rw [rep_far p 0 R (Nat.le_refl 1), Nat.sub_self, hr00] at cG
      obtain ⟨p1, hp1⟩ : ∃ p1, p + 1 = p1 := ⟨_, rfl⟩
      rw [hp1] at cG
      have hwp : IntKind.i64.wrap ((p : Int) + 1) = (p1 : Int) := by
        rw [show (p : Int) + 1 = (p1 : Int) by omega]
        exact IntWalk.i64_in _ (by omega)
      have hp1m : p1 < m + 1 := by omega
      have hp1i : (p1 : Int) < (m : Int) + 1 := by omega
      have hw2 : IntKind.i64.wrap (r0 + z) = r0 + z := IntWalk.i64_in _ (by omega)
      have hw3 : IntKind.i64.wrap (r0 + z + c) = r0 + z + c := IntWalk.i64_in _ (by omega)
      have HP1 := hid hp1
      obtain ⟨cP, fP⟩ := hFp.intAt (k := p) (by omega)
      have hwz : IntKind.i64.wrap (a * (sw : Int)) = z := by rw [hz]; exact IntWalk.i64_in _ (by omega)
      have hFp2 := hid hFp
      have HSW := hid (And.intro hsw (And.intro hz hr00))
      have HMK := hid (show (gt ws p).size = sw from hsw)
      clear hR hnn hRb hWs hcy y0 hFp hz hr00 HF hp1
      have hpm3 : p < m + 1 := by omega
      have hpm3i : (p : Int) < (m : Int) + 1 := by omega
      have hpi : (p : Int) < (m : Int) := by omega
      go_wp2_with fail
      refine wp_region_still_tail 18 (by kernel_rfl) (by kernel_rfl) ?_
      simp only [List.take_succ_cons, List.take_zero, List.drop_succ_cons, List.drop_zero]
      repeat still_step
      try refine wpStill_nil ?_
      change wpList _ _ _ _ _ wr.drew
      have hst := ((hFp2.out.setI (j := p) (by omega) (r0 + z + c)).same (w' := (wr.setCell ⟨w.heap.size, p, none⟩ (.int .i64 (r0 + z + c))).drew) intS_flat rfl)
      rw [rep_set] at hst
      have hbst := (bsc HB.out (p := ⟨w.heap.size, p, none⟩) (Nat.le_refl _) (.int .i64 (r0 + z + c))).drew
      have HIN := hid (show costs a c bs (ws.drop p) = bs.foldl (minB a c R (ws.drop p)) (r0 + z + c) :: R by
        rw [drop_gt hpw, costs_minB, HRR.out, HSW.out.2.2, HSW.out.1, HSW.out.2.1])
      have hy0 : 0 ≤ r0 + z + c ∧ r0 + z + c ≤ 13 * m := by omega
      go_wp2_with fail
      obtain ⟨W0, hW0⟩ : ∃ W0, (wr.setCell ⟨w.heap.size, p, none⟩ (.int .i64 (r0 + z + c))).drew = W0 := ⟨_, rfl⟩
      rw [hW0] at hst hbst ⊢
      obtain ⟨Y, hY⟩ : ∃ Y, r0 + z + c = Y := ⟨_, rfl⟩
      rw [hY] at hst hy0 HIN
      have HST := hid hst
      have HBST := hid hbst
      clear hst hbst cG cP fP hwp hw2 hw3 hwz cw hY hFp2 hsw hr0 hzb hW0
      obtain ⟨wo, hwo⟩ : ∃ x : World, x = wr := ⟨_, rfl⟩
      subst hwo
      obtain ⟨go2, hgo2⟩ : ∃ x : Nat, x = gk := ⟨_, rfl⟩
      subst hgo2
      go_loopg [11] n (fun gk i wr => ∃ (k : Nat) (y : Int), k + gk = n ∧ i = .int .i64 k ∧ Filled intS 0 0 wr w.heap.size 3 (m + 1) (m + 1) (List.replicate p 0 ++ y :: R) ∧ bs.foldl (minB a c R (ws.drop p)) Y = (bs.drop k).foldl (minB a c R (ws.drop p)) y ∧ (0 ≤ y ∧ y ≤ 13 * m) ∧ Below w.heap.size w wr)
      case atStart => exact ⟨0, Y, Nat.zero_add _, rfl, HST.out, rfl, hy0, HBST.out⟩
      case round =>
        obtain ⟨k, y, hkg, rfl, hF, hfold, hyb, hb⟩ := hrel
        have HKG := hid hkg
        have HF := hid hF
        have HFO := hid hfold
        have HB2 := hid hb
        have hk : k ≤ n := by omega
        have hwz := hb.size
        clear hkg hF hfold hb
        by_cases hlt : k < n
        · have hki : (k : Int) < (n : Int) := by omega
          obtain ⟨bb, ob, rfl, _, hbb, hcx⟩ := HX.out.2.2 (by omega)
          obtain ⟨A1, c1, q0, q1, q2, q3, q4⟩ := hcx.brief hlt
          have cx0 := bcl HB2.out q0
          have cx1 := bcl HB2.out q1
          have Q4 := hid (q4.bl HB2.out)
          have HD := hid (drop_gt (l := bs) (by rw [← E1.out]; exact hlt))
          have hmem := gt_mem (l := bs) (by rw [← E1.out]; exact hlt)
          have hw13 := HWD.out _ hmem
          have hms3 := HMS.out _ hmem
          obtain ⟨B1, hB1⟩ : ∃ B1, gt bs k = B1 := ⟨_, rfl⟩
          rw [hB1] at cx0 cx1 Q4 HD hw13 hms3 q2 q3
          obtain ⟨s1, xs⟩ := B1
          obtain ⟨q, hq⟩ : ∃ q, xs.length = q := ⟨_, rfl⟩
          obtain ⟨sm, hsm⟩ : ∃ sm, s1.size = sm := ⟨_, rfl⟩
          have HQ := hid (And.intro hq hsm)
          dsimp only at cx0 cx1 Q4 hw13 hms3 q2 q3
          rw [hq] at cx1 Q4 hw13 q3
          rw [hsm] at hms3 q2
          have HMK := hid (show s1.size = sm from hsm)
          clear q0 q1 q4 hcx hmem hB1 hq
          have hcall := l4At_any A1 q c1 b1 o1 m d p 0 s1 xs ws wr Q4.out (HY.out.bl HB2.out) hpm2 (by omega) hmd hd63 (by omega)
          obtain ⟨ah, hah⟩ : ∃ ah, ahead (s1, xs) (ws.drop p) = ah := ⟨_, rfl⟩
          rw [hah] at hcall
          have HAH := hid hah
          clear hah
          cases ah with
          | false =>
            go_wp2_with (go_at_call 73; refine hcall.mono ?_; rintro e w4 ⟨rfl, hb4⟩)
            go_roundg (gk - 1)
            case measure => have := HKG.out; omega
            case rel =>
              refine ⟨k + 1, y, by have := HKG.out; omega, by go_num, HF.out.same intS_flat (hb4.block _ HF.out.lt), ?_, hyb, btr HB2.out hb4⟩
              rw [HFO.out, HD.out, List.foldl_cons]
              congr 1
              unfold minB
              rw [HAH.out]
              rfl
          | true =>
            have hal := ahead_len HAH.out
            rw [List.length_drop, ← F1.out] at hal
            have hqm : q ≤ m - p := by have := HQ.out.1; dsimp only at hal; omega
            have hr1 := HRB.out q hw13.1 (by omega)
            obtain ⟨r1, hr11⟩ : ∃ r1, gt R (q - 1) = r1 := ⟨_, rfl⟩
            rw [hr11] at hr1
            obtain ⟨z1, hz1⟩ : ∃ z1, a * (sm : Int) = z1 := ⟨_, rfl⟩
            have hzb1 := mul_bd HA.out.1 (show sm ≤ 12 by omega)
            rw [hz1] at hzb1
            have hwz1 : IntKind.i64.wrap (a * (sm : Int)) = z1 := by rw [hz1]; exact IntWalk.i64_in _ (by omega)
            obtain ⟨t, ht⟩ : ∃ t, p + q = t := ⟨_, rfl⟩
            have hwp1 : IntKind.i64.wrap ((p : Int) + (q : Int)) = (t : Int) := by
              rw [show (p : Int) + (q : Int) = (t : Int) by omega]
              exact IntWalk.i64_in _ (by omega)
            have htm : t < m + 1 := by omega
            have htmi : (t : Int) < (m : Int) + 1 := by omega
            have hw4 : IntKind.i64.wrap (r1 + z1) = r1 + z1 := IntWalk.i64_in _ (by omega)
            have hw5 : IntKind.i64.wrap (r1 + z1 + c) = r1 + z1 + c := IntWalk.i64_in _ (by omega)
            have HR1 := hid (And.intro hr11 hz1)
            have HT := hid ht
            clear hr11 hz1 hal
            go_wp2_with (go_at_call 73; refine hcall.mono ?_; rintro e w4 ⟨rfl, hb4⟩)
            clear hcall
            have hF4 := HF.out.same intS_flat (hb4.block _ HF.out.lt)
            have cT := (hF4.intAt (k := t) (by omega)).1
            rw [← HT.out, rep_far p y R hw13.1, HR1.out.1, HT.out] at cT
            obtain ⟨cP, fP⟩ := hF4.intAt (k := p) (by omega)
            rw [rep_at p y R] at cP
            have dx0 := bcl hb4 cx0
            have dx1 := bcl hb4 cx1
            have HF4 := hid hF4
            have HB4 := hid (btr HB2.out hb4)
            clear hF4 hb4 cx0 cx1 ht
            have HV := hid (show ∀ v : Int, v = min y (r1 + z1 + c) → bs.foldl (minB a c R (ws.drop p)) Y = (bs.drop (k + 1)).foldl (minB a c R (ws.drop p)) v by
              rintro v rfl
              rw [HFO.out, HD.out, List.foldl_cons]
              congr 1
              unfold minB
              rw [HAH.out, if_pos rfl]
              show min y (gt R (xs.length - 1) + a * (s1.size : Int) + c) = _
              rw [HQ.out.1, HQ.out.2, HR1.out.1, HR1.out.2])
            have HST4 := hid (show ∀ v : Int, Filled intS 0 0 (w4.setCell ⟨w.heap.size, p, none⟩ (.int .i64 v)).drew w.heap.size 3 (m + 1) (m + 1) (List.replicate p 0 ++ v :: R) from fun v => by
              have hst := ((HF4.out.setI (j := p) (by omega) v).same (w' := (w4.setCell ⟨w.heap.size, p, none⟩ (.int .i64 v)).drew) intS_flat rfl)
              rw [rep_set] at hst
              exact hst)
            by_cases hmn : y ≤ r1 + z1 + c
            · have hmn2 : ¬ (r1 + z1 + c < y) := by omega
              refine wp_region_still_tail 30 (by kernel_rfl) (by kernel_rfl) ?_
              simp only [List.take_succ_cons, List.take_zero, List.drop_succ_cons, List.drop_zero]
              repeat still_step
              try refine wpStill_nil ?_
              change wpList _ _ _ _ _ w4.drew
              go_wp2_with fail
              all_goals first
                | (exfalso; omega)
                | (go_roundg (gk - 1)
                   case measure => have := HKG.out; omega
                   case rel => exact ⟨k + 1, y, by have := HKG.out; omega, by go_num, HST4.out y, HV.out y (by omega), hyb, (bsc HB4.out (p := ⟨w.heap.size, p, none⟩) (Nat.le_refl _) _).drew⟩)
            · have hmn2 : r1 + z1 + c < y := by omega
              refine wp_region_still_tail 30 (by kernel_rfl) (by kernel_rfl) ?_
              simp only [List.take_succ_cons, List.take_zero, List.drop_succ_cons, List.drop_zero]
              repeat still_step
              try refine wpStill_nil ?_
              change wpList _ _ _ _ _ w4.drew
              go_wp2_with fail
              all_goals first
                | (exfalso; omega)
                | (go_roundg (gk - 1)
                   case measure => have := HKG.out; omega
                   case rel => exact ⟨k + 1, r1 + z1 + c, by have := HKG.out; omega, by go_num, HST4.out _, HV.out _ (by omega), by omega, (bsc HB4.out (p := ⟨w.heap.size, p, none⟩) (Nat.le_refl _) _).drew⟩)
        · obtain rfl : k = n := by omega
          go_wp2_with fail
          go_roundg p
          case measure => have := HPG.out; omega
          case rel =>
            refine ⟨p, rfl, by omega, by go_num, ?_, HB2.out⟩
            have h1 := HFO.out
            rw [show bs.drop k = [] from List.drop_eq_nil_of_le (by rw [← E1.out]; exact Nat.le_refl _), List.foldl_nil] at h1
            rw [HIN.out, h1]
            exact HF.out
end Go.Proofs.Ythijnojefeeaoaa
