/- The best copy: what deskOf, best, CopyLeast, CopyShort, CopySaves and CopyBest return. -/
import Derived.Test.YthijnojefeeaoaaLeast2
namespace Go.Proofs.Ythijnojefeeaoaa
open Go.RowKit Go.Shelf
attribute [local go_sem] Oper.semAt_some
/-- Both lists are valid. -/
def deskOk (bs : List BriefT) (ws : List ByteArray) : Bool := briefsOk bs && speechOk ws
theorem desk_yes {bs : List BriefT} {ws : List ByteArray} (h : deskOk bs ws = true) : briefsOk bs = true ∧ speechOk ws = true := by
  unfold deskOk at h
  rw [Bool.and_eq_true] at h
  exact h
theorem desk_len {bs : List BriefT} {ws : List ByteArray} (h : deskOk bs ws = true) : bs.length ≤ 8 ∧ ws.length ≤ 20 ∧ (∀ b ∈ bs, 1 ≤ b.2.length ∧ b.2.length ≤ 3) ∧ (∀ b ∈ bs, b.1.size ≤ 3) ∧ ∀ s ∈ ws, s.size ≤ 12 := by
  obtain ⟨h1, h2⟩ := desk_yes h
  have h3 := briefs_wd h1
  have h4 : ∀ b ∈ bs, briefOk b = true := by
    unfold briefsOk at h1
    rw [Bool.and_eq_true] at h1
    exact briefs_ok_all h1.2
  unfold briefsOk at h1
  unfold speechOk wordsOk at h2
  rw [Bool.and_eq_true, decide_eq_true_eq] at h1 h2
  refine ⟨h1.1, h2.1, h3, fun b hb => ?_, fun s hs => ?_⟩
  · have := h4 b hb
    unfold briefOk markOk at this
    rw [Bool.and_eq_true, Bool.and_eq_true, inB_yes] at this
    omega
  · have := List.all_eq_true.1 h2.2 s hs
    unfold wordOk at this
    rw [Bool.and_eq_true, inB_yes] at this
    omega
theorem toks_co : ∀ (i : Nat) (bs : List BriefT) (ws : List ByteArray), (∀ b ∈ bs, b.1.size ≤ 3) → (gt ws 0).size ≤ 12 → ∀ t ∈ toks i bs ws, t.co ≤ 12
  | i, [], ws, _, h, t, ht => by
    rw [toks, List.mem_singleton] at ht
    subst ht
    exact h
  | i, b :: r, ws, hb, h, t, ht => by
    have hr := fun x hx => hb x (List.mem_cons_of_mem _ hx)
    rw [toks] at ht
    split at ht
    · rcases List.mem_cons.1 ht with rfl | ht
      · have := hb b (List.mem_cons_self ..)
        show b.1.size ≤ 12
        omega
      · exact toks_co (i + 1) r ws hr h t ht
    · exact toks_co (i + 1) r ws hr h t ht
def coT (t : Tok) : Int := t.co
def oneT (_ : Tok) : Int := 1
theorem coT_is (t : Tok) : coT t = 1 * t.co + 0 := by unfold coT; omega
theorem oneT_is (t : Tok) : oneT t = 0 * t.co + 1 := by unfold oneT; omega
theorem tokenCost_any (t : Tok) (W : World) : Calls Try.prog 65 #[tokV t] W fun e W' => e = .returned (.int .i64 (coT t)) ∧ Below W.heap.size W W' := by
  have hb := bnew W (.cells #[.int .i64 t.k, .int .i64 t.wd, .int .i64 t.co] 68)
  have HB := hid hb
  clear hb
  unfold tokV
  go_enter Try.func65, Try.ntmps65
  go_wp2_with fail
  go_ret
  exact ⟨rfl, HB.out⟩
theorem oneTok_any (t : Tok) (W : World) : Calls Try.prog 70 #[tokV t] W fun e W' => e = .returned (.int .i64 (oneT t)) ∧ Below W.heap.size W W' := by
  have hb := bnew W (.cells #[.int .i64 t.k, .int .i64 t.wd, .int .i64 t.co] 68)
  have HB := hid hb
  clear hb
  unfold tokV
  go_enter Try.func70, Try.ntmps70
  go_wp2_with fail
  go_ret
  exact ⟨rfl, HB.out⟩
def deskV (A B : Option Addr) (n c m d : Nat) : Bool → Value
  | true => .agg #[.slice A n c, .slice B m d]
  | false => .agg #[.slice none 0 0, .slice none 0 0]
set_option maxRecDepth 100000 in
set_option maxHeartbeats 1000000 in
theorem deskOf_any (A B : Option Addr) (n c m d lo : Nat) (bs : List BriefT) (ws : List ByteArray) (w : World) (hnc : n ≤ c) (hx : Rd briefS lo w.heap.size w A n bs) (hy : Rd strS lo w.heap.size w B m ws) :
    Calls Try.prog 60 #[.slice A n c, .slice B m d] w fun e w' => e = .returned (.tuple #[deskV A B n c m d (deskOk bs ws), .bool (deskOk bs ws)]) ∧ Below w.heap.size w w' := by
  have hb0 := bnew w (.cells #[.slice none 0 0, .slice none 0 0] 62)
  have hn0 := heap_alloc_new w (.cells #[.slice none 0 0, .slice none 0 0] 62)
  have HB0 := hid hb0
  have HN0 := hid hn0
  have HX := hid hx
  have HY := hid hy
  clear hx hy hb0 hn0
  obtain ⟨x, hx1⟩ : ∃ x, briefsOk bs = x := ⟨_, rfl⟩
  obtain ⟨y, hy1⟩ : ∃ y, speechOk ws = y := ⟨_, rfl⟩
  have HD := hid (show deskOk bs ws = (x && y) by unfold deskOk; rw [hx1, hy1])
  have HX1 := hid hx1
  have HY1 := hid hy1
  clear hx1 hy1
  go_enter Try.func60, Try.ntmps60
  go_wp2_with fail
  refine (implBriefsValid_any A n c lo bs _ hnc (HX.out.bl HB0.out)).mono ?_
  rintro e w1 ⟨rfl, hb1⟩
  rw [HX1.out]
  obtain ⟨r0, r1, r2, r3⟩ := at_get ((hb1.block w.heap.size (by rw [World.size_alloc]; omega)).trans HN0.out)
  have hb2 := btr HB0.out hb1
  have HB2 := hid hb2
  have hlt := hb2.size
  have hz1 := hb1.size
  rw [World.size_alloc] at hz1
  clear hb1 hb2
  cases x with
  | false =>
    go_wp2_with fail
    rw [HD.out]
    refine bodyPost_ret (v := .tuple #[.agg #[.slice none 0 0, .slice none 0 0], .bool false]) (by simp [results, Try.results60, go_sem, r0, r1]) rfl ?_
    exact ⟨rfl, bsc (bsc HB2.out (Nat.le_refl _) _) (Nat.le_refl _) _⟩
  | true =>
  cases y with
  | false =>
    go_wp2_with (go_at_call 50; refine (implSpeechValid_any _ _ _ lo ws _ (HY.out.bl HB2.out)).mono ?_; rintro e w' ⟨rfl, rfl⟩; rw [HY1.out])
    rw [HD.out]
    refine bodyPost_ret (v := .tuple #[.agg #[.slice none 0 0, .slice none 0 0], .bool false]) (by simp [results, Try.results60, go_sem, r0, r1]) rfl ?_
    exact ⟨rfl, bsc (bsc HB2.out (Nat.le_refl _) _) (Nat.le_refl _) _⟩
  | true =>
    go_wp2_with (go_at_call 50; refine (implSpeechValid_any _ _ _ lo ws _ (HY.out.bl HB2.out)).mono ?_; rintro e w' ⟨rfl, rfl⟩; rw [HY1.out])
    rw [HD.out]
    refine bodyPost_ret (v := .tuple #[.agg #[.slice A n c, .slice B m d], .bool true]) (by simp [results, Try.results60, go_sem, r0, r1]) rfl ?_
    exact ⟨rfl, bsc (bsc HB2.out (Nat.le_refl _) _) (Nat.le_refl _) _⟩
/-- The least cost, or -1. -/
def leastV (a c : Int) (bs : List BriefT) (ws : List ByteArray) : Int := match deskOk bs ws with
  | true => gt (costs a c bs ws) 0
  | false => -1
set_option maxRecDepth 100000 in
set_option maxHeartbeats 1000000 in
theorem implCopyLeast_any (A B : Option Addr) (n c m d : Nat) (bs : List BriefT) (ws : List ByteArray) (w : World) (hnc : n ≤ c) (hmd : m ≤ d) (hd63 : d ≤ 9223372036854775807) (hx : Rd briefS 0 w.heap.size w A n bs) (hy : Rd strS 0 w.heap.size w B m ws) :
    Calls Try.prog 22 #[.slice A n c, .slice B m d] w fun e w' => e = .returned (.int .i64 (leastV 1 0 bs ws)) ∧ Below w.heap.size w w' := by
  have HX := hid hx
  have HY := hid hy
  have E1 := hid hx.1
  have F1 := hid hy.1
  have hdo := deskOf_any A B n c m d 0 bs ws w hnc hx hy
  clear hx hy
  obtain ⟨x, hx1⟩ : ∃ x, deskOk bs ws = x := ⟨_, rfl⟩
  rw [hx1] at hdo
  have HX1 := hid hx1
  have HDO := hid hdo
  clear hx1 hdo
  cases x with
  | false =>
    have HV := hid (show leastV 1 0 bs ws = -1 by unfold leastV; rw [HX1.out])
    go_enter Try.func22, Try.ntmps22
    go_wp2_with fail
    refine HDO.out.mono ?_
    rintro e w1 ⟨rfl, hb1⟩
    unfold deskV
    have HB1 := hid hb1
    clear hb1
    go_wp2_with fail
    go_ret
    exact ⟨ret_int HV.out.symm, btr HB1.out (bnew _ _)⟩
  | true =>
    obtain ⟨hn8, hm20, hwd, hms, hws⟩ := desk_len HX1.out
    have hb : ∀ b ∈ bs, 1 ≤ b.2.length := fun b hb => (hwd b hb).1
    have HV := hid (show leastV 1 0 bs ws = gt (costs 1 0 bs ws) 0 by unfold leastV; rw [HX1.out])
    have HLC := hid (least_costs (wt := coT) coT_is hb ws)
    have hwt : ∀ p, p < m → ∀ t ∈ toks 0 bs (ws.drop p), 0 ≤ coT t ∧ coT t ≤ 12 := fun p hp t ht => by
      have := toks_co 0 bs (ws.drop p) hms (by rw [gt_drop, Nat.add_zero]; exact hws _ (gt_mem (by rw [← F1.out]; exact hp))) t ht
      unfold coT
      omega
    have HcoT := hid hwt
    have HBB := hid hb
    have hn8' : n ≤ 8 := by rw [E1.out]; exact hn8
    have hm20' : m ≤ 20 := by rw [F1.out]; exact hm20
    have HN8 := hid hn8'
    have HM20 := hid hm20'
    clear hwd hms hws hb hwt hn8 hm20 hn8' hm20'
    go_enter Try.func22, Try.ntmps22
    go_wp2_with fail
    refine HDO.out.mono ?_
    rintro e w1 ⟨rfl, hb1⟩
    unfold deskV
    have HB1 := hid (btr hb1 (bnew w1 (.cells #[.slice A n c, .slice B m d] 62)))
    clear hb1
    go_wp2_with fail
    refine (least_any (wf := 65) (wt := coT) (enters_of Try.func65 (by kernel_rfl) rfl) A B n c m d bs ws _ (HX.out.bl HB1.out) (HY.out.bl HB1.out) hmd hd63 HN8.out HM20.out HBB.out HcoT.out (fun t W' => tokenCost_any t W')).mono ?_
    rintro e w2 ⟨F, G, rfl, hF, hG, hb2⟩
    rw [HLC.out] at hG
    obtain ⟨b, off, he, _, hgl, hcg⟩ := hG.2.2 (by omega)
    injection he with he
    injection he with he1 he2 _
    subst he1 he2
    have c0 := hcg.int (k := 0) (by omega)
    rw [Nat.add_zero] at c0
    have HB2 := hid (btr HB1.out hb2)
    clear hF hG hcg hb2
    go_wp2_with fail
    go_ret
    exact ⟨ret_int HV.out.symm, HB2.out⟩
set_option maxRecDepth 100000 in
set_option maxHeartbeats 1000000 in
theorem implCopyShort_any (A B : Option Addr) (n c m d : Nat) (bs : List BriefT) (ws : List ByteArray) (w : World) (hnc : n ≤ c) (hmd : m ≤ d) (hd63 : d ≤ 9223372036854775807) (hx : Rd briefS 0 w.heap.size w A n bs) (hy : Rd strS 0 w.heap.size w B m ws) :
    Calls Try.prog 42 #[.slice A n c, .slice B m d] w fun e w' => e = .returned (.int .i64 (leastV 0 1 bs ws)) ∧ Below w.heap.size w w' := by
  have HX := hid hx
  have HY := hid hy
  have E1 := hid hx.1
  have F1 := hid hy.1
  have hdo := deskOf_any A B n c m d 0 bs ws w hnc hx hy
  clear hx hy
  obtain ⟨x, hx1⟩ : ∃ x, deskOk bs ws = x := ⟨_, rfl⟩
  rw [hx1] at hdo
  have HX1 := hid hx1
  have HDO := hid hdo
  clear hx1 hdo
  cases x with
  | false =>
    have HV := hid (show leastV 0 1 bs ws = -1 by unfold leastV; rw [HX1.out])
    go_enter Try.func42, Try.ntmps42
    go_wp2_with fail
    refine HDO.out.mono ?_
    rintro e w1 ⟨rfl, hb1⟩
    unfold deskV
    have HB1 := hid hb1
    clear hb1
    go_wp2_with fail
    go_ret
    exact ⟨ret_int HV.out.symm, btr HB1.out (bnew _ _)⟩
  | true =>
    obtain ⟨hn8, hm20, hwd, hms, hws⟩ := desk_len HX1.out
    have hb : ∀ b ∈ bs, 1 ≤ b.2.length := fun b hb => (hwd b hb).1
    have HV := hid (show leastV 0 1 bs ws = gt (costs 0 1 bs ws) 0 by unfold leastV; rw [HX1.out])
    have HLC := hid (least_costs (wt := oneT) oneT_is hb ws)
    have hwt : ∀ p, p < m → ∀ t ∈ toks 0 bs (ws.drop p), 0 ≤ oneT t ∧ oneT t ≤ 12 := fun p hp t ht => by
      have := toks_co 0 bs (ws.drop p) hms (by rw [gt_drop, Nat.add_zero]; exact hws _ (gt_mem (by rw [← F1.out]; exact hp))) t ht
      unfold oneT
      omega
    have HoneT := hid hwt
    have HBB := hid hb
    have hn8' : n ≤ 8 := by rw [E1.out]; exact hn8
    have hm20' : m ≤ 20 := by rw [F1.out]; exact hm20
    have HN8 := hid hn8'
    have HM20 := hid hm20'
    clear hwd hms hws hb hwt hn8 hm20 hn8' hm20'
    go_enter Try.func42, Try.ntmps42
    go_wp2_with fail
    refine HDO.out.mono ?_
    rintro e w1 ⟨rfl, hb1⟩
    unfold deskV
    have HB1 := hid (btr hb1 (bnew w1 (.cells #[.slice A n c, .slice B m d] 62)))
    clear hb1
    go_wp2_with fail
    refine (least_any (wf := 70) (wt := oneT) (enters_of Try.func70 (by kernel_rfl) rfl) A B n c m d bs ws _ (HX.out.bl HB1.out) (HY.out.bl HB1.out) hmd hd63 HN8.out HM20.out HBB.out HoneT.out (fun t W' => oneTok_any t W')).mono ?_
    rintro e w2 ⟨F, G, rfl, hF, hG, hb2⟩
    rw [HLC.out] at hG
    obtain ⟨b, off, he, _, hgl, hcg⟩ := hG.2.2 (by omega)
    injection he with he
    injection he with he1 he2 _
    subst he1 he2
    have c0 := hcg.int (k := 0) (by omega)
    rw [Nat.add_zero] at c0
    have HB2 := hid (btr HB1.out hb2)
    clear hF hG hcg hb2
    go_wp2_with fail
    go_ret
    exact ⟨ret_int HV.out.symm, HB2.out⟩
end Go.Proofs.Ythijnojefeeaoaa
