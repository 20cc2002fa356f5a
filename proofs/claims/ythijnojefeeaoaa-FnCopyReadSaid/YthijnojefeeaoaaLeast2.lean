/- The least weights, further: what least returns. -/
import Derived.Test.YthijnojefeeaoaaLeast
namespace Go.Proofs.Ythijnojefeeaoaa
open Go.RowKit Go.Shelf
attribute [local go_sem] Oper.semAt_some
theorem gt_right {α : Type} [Inhabited α] (l m : List α) (k : Nat) : gt (l ++ m) (l.length + k) = gt m k := by
  unfold gt
  rw [List.getD_eq_getElem?_getD, List.getD_eq_getElem?_getD, List.getElem?_append_right (by omega), Nat.add_sub_cancel_left]
theorem set_right {α : Type} (l m : List α) (x y : α) : (l ++ x :: m).set l.length y = l ++ y :: m := by
  rw [List.set_append_right _ _ (Nat.le_refl _), Nat.sub_self]
  rfl
theorem fold_place (wt : Tok → Int) (p : Nat) (L1 : List Tok) (L2 : List Int) : ∀ (l : List Tok) (a : Tok) (b : Int), (∀ t ∈ l, 1 ≤ t.wd) →
    (l.map fun t => (p, t)).foldl (stepS wt) (List.replicate p ⟨0, 0, 0⟩ ++ a :: L1, List.replicate p 0 ++ b :: L2) = (List.replicate p ⟨0, 0, 0⟩ ++ (l.foldl (stepT wt L2) (a, b)).1 :: L1, List.replicate p 0 ++ (l.foldl (stepT wt L2) (a, b)).2 :: L2)
  | [], _, _, _ => rfl
  | t :: l, a, b, h => by
    have ht := h t (List.mem_cons_self ..)
    rw [List.map_cons, List.foldl_cons, List.foldl_cons]
    have e1 : gt (List.replicate p (⟨0, 0, 0⟩ : Tok) ++ a :: L1) p = a := by
      have := gt_right (List.replicate p (⟨0, 0, 0⟩ : Tok)) (a :: L1) 0
      rw [List.length_replicate, Nat.add_zero] at this
      exact this
    have e2 : gt (List.replicate p (0 : Int) ++ b :: L2) p = b := by
      have := gt_right (List.replicate p (0 : Int)) (b :: L2) 0
      rw [List.length_replicate, Nat.add_zero] at this
      exact this
    have e3 : gt (List.replicate p (0 : Int) ++ b :: L2) (p + t.wd) = gt L2 (t.wd - 1) := by
      have := gt_right (List.replicate p (0 : Int)) (b :: L2) t.wd
      rw [List.length_replicate] at this
      rw [this]
      obtain ⟨q, hq⟩ : ∃ q, t.wd = q + 1 := ⟨t.wd - 1, by omega⟩
      rw [hq, gt_cons, Nat.add_sub_cancel]
    have e4 : ∀ y : Tok, (List.replicate p (⟨0, 0, 0⟩ : Tok) ++ a :: L1).set p y = List.replicate p (⟨0, 0, 0⟩ : Tok) ++ y :: L1 := fun y => by
      have := set_right (List.replicate p (⟨0, 0, 0⟩ : Tok)) L1 a y
      rw [List.length_replicate] at this
      exact this
    have e5 : ∀ y : Int, (List.replicate p (0 : Int) ++ b :: L2).set p y = List.replicate p (0 : Int) ++ y :: L2 := fun y => by
      have := set_right (List.replicate p (0 : Int)) L2 b y
      rw [List.length_replicate] at this
      exact this
    have hs : stepS wt (List.replicate p ⟨0, 0, 0⟩ ++ a :: L1, List.replicate p 0 ++ b :: L2) (p, t) = (List.replicate p ⟨0, 0, 0⟩ ++ (stepT wt L2 (a, b) t).1 :: L1, List.replicate p 0 ++ (stepT wt L2 (a, b) t).2 :: L2) := by
      unfold stepS stepT
      dsimp only
      rw [e1, e2, e3, e4, e5]
      split <;> rfl
    rw [hs]
    exact fold_place wt p L1 L2 l _ _ fun x hx => h x (List.mem_cons_of_mem _ hx)
theorem fold_least (wt : Tok → Int) (bs : List BriefT) (hb : ∀ b ∈ bs, 1 ≤ b.2.length) (ws : List ByteArray) : ∀ (q p : Nat), p + q = ws.length →
    (evs bs p (ws.drop p)).foldl (stepS wt) (List.replicate ws.length ⟨0, 0, 0⟩, List.replicate (ws.length + 1) 0) = (List.replicate p ⟨0, 0, 0⟩ ++ (least wt bs (ws.drop p)).1, List.replicate p 0 ++ (least wt bs (ws.drop p)).2)
  | 0, p, h => by
    have e : p = ws.length := by omega
    subst e
    rw [List.drop_eq_nil_of_le (Nat.le_refl _), evs, List.foldl_nil, least, List.append_nil, List.replicate_succ']
  | q + 1, p, h => by
    have hp : p < ws.length := by omega
    rw [evs_drop hp, List.foldl_append, fold_least wt bs hb ws q (p + 1) (by omega), List.replicate_succ', List.replicate_succ', List.append_assoc, List.append_assoc]
    have := fold_place wt p (least wt bs (ws.drop (p + 1))).1 (least wt bs (ws.drop (p + 1))).2 (toks 0 bs (ws.drop p)) ⟨0, 0, 0⟩ 0 (toks_wd 0 bs _ hb)
    rw [List.singleton_append, List.singleton_append, this]
    rw [drop_gt hp, least]
theorem least_all (wt : Tok → Int) (bs : List BriefT) (hb : ∀ b ∈ bs, 1 ≤ b.2.length) (ws : List ByteArray) : (evs bs 0 ws).foldl (stepS wt) (List.replicate ws.length ⟨0, 0, 0⟩, List.replicate (ws.length + 1) 0) = least wt bs ws := by
  have := fold_least wt bs hb ws ws.length 0 (Nat.zero_add _)
  rw [List.drop_zero] at this
  exact this
/-- How far a token reaches. -/
theorem toks_fit : ∀ (i : Nat) (bs : List BriefT) (ws : List ByteArray), 0 < ws.length → ∀ t ∈ toks i bs ws, t.wd ≤ ws.length
  | i, [], ws, h, t, ht => by
    rw [toks, List.mem_singleton] at ht
    subst ht
    exact h
  | i, b :: r, ws, h, t, ht => by
    rw [toks] at ht
    split at ht
    · rename_i ha
      rcases List.mem_cons.1 ht with rfl | ht
      · exact ahead_len ha
      · exact toks_fit (i + 1) r ws h t ht
    · exact toks_fit (i + 1) r ws h t ht
theorem keepA {w : World} {b : Nat} {x : Obj} (h : w.heap[b]? = some x) (o : Obj) : (w.alloc o).heap[b]? = some x := ((bnew w o).block b (Array.getElem?_eq_some_iff.1 h).1).trans h
theorem newA (w : World) (o : Obj) {k : Nat} (h : k = w.heap.size) : (w.alloc o).heap[k]? = some o := by subst h; exact heap_alloc_new w o
theorem six_new (w : World) (o0 o1 o2 o3 o4 o5 : Obj) : ((((((w.alloc o0).alloc o1).alloc o2).alloc o3).alloc o4).alloc o5).heap.size = w.heap.size + 6 ∧
    ((((((w.alloc o0).alloc o1).alloc o2).alloc o3).alloc o4).alloc o5).heap[w.heap.size]? = some o0 ∧
    ((((((w.alloc o0).alloc o1).alloc o2).alloc o3).alloc o4).alloc o5).heap[w.heap.size + 1]? = some o1 ∧
    ((((((w.alloc o0).alloc o1).alloc o2).alloc o3).alloc o4).alloc o5).heap[w.heap.size + 1 + 1]? = some o2 ∧
    ((((((w.alloc o0).alloc o1).alloc o2).alloc o3).alloc o4).alloc o5).heap[w.heap.size + 1 + 1 + 1]? = some o3 ∧
    ((((((w.alloc o0).alloc o1).alloc o2).alloc o3).alloc o4).alloc o5).heap[w.heap.size + 1 + 1 + 1 + 1]? = some o4 ∧
    ((((((w.alloc o0).alloc o1).alloc o2).alloc o3).alloc o4).alloc o5).heap[w.heap.size + 1 + 1 + 1 + 1 + 1]? = some o5 ∧
    Below w.heap.size w ((((((w.alloc o0).alloc o1).alloc o2).alloc o3).alloc o4).alloc o5) :=
  ⟨by simp, keepA (keepA (keepA (keepA (keepA (newA _ _ rfl) _) _) _) _) _, keepA (keepA (keepA (keepA (newA _ _ (by simp)) _) _) _) _, keepA (keepA (keepA (newA _ _ (by simp)) _) _) _, keepA (keepA (newA _ _ (by simp)) _) _, keepA (newA _ _ (by simp)) _, newA _ _ (by simp), bal (bal (bal (bal (bal (bnew _ _) _) _) _) _) _⟩
theorem zero_toks {w : World} {F m : Nat} (h : w.heap[F]? = some (.cells (madeCells #[.int .i64 0, .int .i64 0, .int .i64 0] (m * 3)) 68 (0, 0))) (hm : m ≤ 20) : Filled tokS 0 0 w F 68 m m (List.replicate m ⟨0, 0, 0⟩) := by
  refine ⟨_, h, by rw [size_madeCells]; exact Nat.le_refl _, by simp, by omega, fun j hj => ⟨fun _ => .int .i64 0, fun i hi => ?_, ?_⟩⟩
  · have hi3 : i < 3 := hi
    have hz : tokS.sz = 3 := rfl
    rw [hz, made_get _ (by omega)]
    have h3 : (j * 3 + i) % 3 = i := by omega
    have hsz : (#[Value.int .i64 0, .int .i64 0, .int .i64 0] : Array Value).size = 3 := rfl
    rw [hsz, h3]
    have : i = 0 ∨ i = 1 ∨ i = 2 := by omega
    rcases this with rfl | rfl | rfl <;> rfl
  · have : gt (List.replicate m (⟨0, 0, 0⟩ : Tok)) j = ⟨0, 0, 0⟩ := by simp [gt, hj]
    rw [this]
    exact ⟨rfl, rfl, rfl⟩
theorem zero_ints {w : World} {G k : Nat} (h : w.heap[G]? = some (.cells (madeCells #[.int .i64 0] k) 3 (0, 0))) (hk : k ≤ 100) : Filled intS 0 0 w G 3 k k (List.replicate k 0) := by
  refine ⟨_, h, by rw [size_madeCells]; show k * 1 ≤ k; omega, by simp, by omega, fun j hj => ⟨fun _ => .int .i64 0, fun i hi => ?_, ?_⟩⟩
  · have hi1 : i < 1 := hi
    have hz : intS.sz = 1 := rfl
    rw [hz, made_get _ (by omega)]
    have hsz : (#[Value.int .i64 0] : Array Value).size = 1 := rfl
    rw [hsz, Nat.mod_one]
    rfl
  · have : gt (List.replicate k (0 : Int)) j = 0 := by simp [gt, hj]
    rw [this]
    rfl
theorem below_any (w : World) (n : Nat) : Below w.heap.size w (w.drewN n) := ⟨rfl, rfl, rfl, Nat.le_refl _, fun _ _ => rfl⟩
set_option maxRecDepth 100000 in
set_option maxHeartbeats 2000000 in
theorem least_any {wf : Nat} {wt : Tok → Int} (eg : ∀ args w, (callFunc wf args).run Try.prog w = .ok (.enter wf args) w) (A B : Option Addr) (n c m d : Nat) (bs : List BriefT) (ws : List ByteArray) (w : World) (hx : Rd briefS 0 w.heap.size w A n bs) (hy : Rd strS 0 w.heap.size w B m ws)
    (hmd : m ≤ d) (hd63 : d ≤ 9223372036854775807) (hn8 : n ≤ 8) (hm20 : m ≤ 20) (hb : ∀ b ∈ bs, 1 ≤ b.2.length) (hwt : ∀ p, p < m → ∀ t ∈ toks 0 bs (ws.drop p), 0 ≤ wt t ∧ wt t ≤ 12)
    (hw : ∀ t W', Calls Try.prog wf #[tokV t] W' fun e W'' => e = .returned (.int .i64 (wt t)) ∧ Below W'.heap.size W' W'') :
    Calls Try.prog 64 #[.agg #[.slice A n c, .slice B m d], .func (.func wf) #[] #[]] w fun e w' => ∃ F G, e = .returned (.tuple #[.slice (some ⟨F, 0, none⟩) m m, .slice (some ⟨G, 0, none⟩) (m + 1) (m + 1)]) ∧ Rd tokS w.heap.size w'.heap.size w' (some ⟨F, 0, none⟩) m (least wt bs ws).1 ∧ Rd intS w.heap.size w'.heap.size w' (some ⟨G, 0, none⟩) (m + 1) (least wt bs ws).2 ∧ Below w.heap.size w w' := by
  have hmf : ∀ (fn : Fn) (first cap : Array Value) (w : World), (Instr.makeFunc fn first cap).run Try.prog w = .ok (.func fn first cap) w := fun _ _ _ _ => rfl
  obtain ⟨i0, hi1, hz0, hz1, hz2⟩ := info_parts (show (Try.prog.info? 68).map (fun i => (i.zero, i.size, i.bytes)) = some (some (.agg #[.int .i64 0, .int .i64 0, .int .i64 0]), 3, 24) by kernel_rfl)
  have hmk1 := fun w => make_rule (P := Try.prog) Try.underlying65 hi1 hz0 hz1 hz2 (n := m) (by omega) (by omega) w
  obtain ⟨i2, hj1, hy0, hy1, hy2⟩ := info_parts (show (Try.prog.info? 3).map (fun i => (i.zero, i.size, i.bytes)) = some (some (.int .i64 0), 1, 8) by kernel_rfl)
  have hmk2 : ∀ w : World, (Instr.makeSlice 28 (.int .i64 ((m : Int) + 1)) (.int .i64 ((m : Int) + 1))).run Try.prog w = .ok (.slice (some ⟨w.heap.size, 0, none⟩) (m + 1) (m + 1)) (w.alloc (.cells (madeCells #[.int .i64 0] (m + 1)) 3)) := fun w => by
    have := make_rule (P := Try.prog) Try.underlying28 hj1 hy0 hy1 hy2 (n := m + 1) (by omega) (by omega) w
    rw [Nat.mul_one] at this
    exact this
  have hwm := hid hy.1
  clear hi1 hz0 hz1 hz2 hj1 hy0 hy1 hy2
  go_enter Try.func64, Try.ntmps64
  go_wp2_with fail
  obtain ⟨z6, n0, n1, n2, n3, n4, n5, hb6⟩ := six_new w (.cells #[.slice A n c, .slice B m d] 62) (.cells #[.func (.func wf) #[] #[]] 73) (.cells (madeCells #[.int .i64 0, .int .i64 0, .int .i64 0] (m * 3)) 68) (.cells #[.slice (some ⟨w.heap.size + 1 + 1, 0, none⟩) m m] 65) (.cells (madeCells #[.int .i64 0] (m + 1)) 3) (.cells #[.slice (some ⟨w.heap.size + 1 + 1 + 1 + 1, 0, none⟩) (m + 1) (m + 1)] 28)
  obtain ⟨W6, hW6⟩ : ∃ W6, ((((((w.alloc (.cells #[.slice A n c, .slice B m d] 62)).alloc (.cells #[.func (.func wf) #[] #[]] 73)).alloc (.cells (madeCells #[.int .i64 0, .int .i64 0, .int .i64 0] (m * 3)) 68)).alloc (.cells #[.slice (some ⟨w.heap.size + 1 + 1, 0, none⟩) m m] 65)).alloc (.cells (madeCells #[.int .i64 0] (m + 1)) 3)).alloc (.cells #[.slice (some ⟨w.heap.size + 1 + 1 + 1 + 1, 0, none⟩) (m + 1) (m + 1)] 28)) = W6 := ⟨_, rfl⟩
  rw [hW6] at z6 n0 n1 n2 n3 n4 n5 hb6 ⊢
  clear hW6 hmk1 hmk2 hmf
  obtain ⟨st0, hst0⟩ : ∃ st0 : List Tok × List Int, (List.replicate m ⟨0, 0, 0⟩, List.replicate (m + 1) 0) = st0 := ⟨_, rfl⟩
  have hJ : LsJ w (w.heap.size + 6) (w.heap.size + 1 + 1) (w.heap.size + 1 + 1 + 1 + 1) (w.heap.size + 1 + 1 + 1) (w.heap.size + 1 + 1 + 1 + 1 + 1) (w.heap.size + 1) wf m st0.1 st0.2 W6 := by
    rw [← hst0]
    refine ⟨hb6, by omega, zero_toks n2 hm20, zero_ints n4 (by omega), n3, n5, n1, fun j hj => ?_⟩
    have : gt (List.replicate (m + 1) (0 : Int)) j = 0 := by simp [gt, show j < m + 1 by omega]
    rw [this]
    omega
  refine (visit_any 86 #[.pointer (some ⟨w.heap.size + 1, 0, none⟩), .pointer (some ⟨w.heap.size + 1 + 1 + 1 + 1 + 1, 0, none⟩), .pointer (some ⟨w.heap.size + 1 + 1 + 1, 0, none⟩)] (enters_of Try.func86 (by kernel_rfl) rfl) A B n c m d bs ws (w.heap.size + 6) (fun k => k = w.heap.size + 1 + 1 ∨ k = w.heap.size + 1 + 1 + 1 + 1)
    (fun pre W => LsJ w (w.heap.size + 6) (w.heap.size + 1 + 1) (w.heap.size + 1 + 1 + 1 + 1) (w.heap.size + 1 + 1 + 1) (w.heap.size + 1 + 1 + 1 + 1 + 1) (w.heap.size + 1) wf m (pre.foldl (stepS wt) st0).1 (pre.foldl (stepS wt) st0).2 W)
    hwm.out hmd hd63 hn8 (by rintro k (e | e) <;> omega) (fun pre W h => ⟨h.sz, hx.bl h.bl, hy.bl h.bl⟩) (fun pre W W' h hb' => h.keep hb')
    (fun pre p t W h hp ht => by
      have hpm : p < m := by rw [hwm.out]; exact hp
      have hwd := toks_wd 0 bs (ws.drop p) hb t ht
      have hfit := toks_fit 0 bs (ws.drop p) (by rw [List.length_drop]; omega) t ht
      rw [List.length_drop] at hfit
      have hwmo := hwm.out
      refine (least1_any (wt := wt) (t := t) eg h hpm hm20 hwd (by omega) (hwt p hpm t ht) (hw t) (by omega) (by omega) (by omega) ⟨by omega, by omega⟩ ⟨by omega, by omega⟩ ⟨by omega, by omega⟩ (by omega) (by omega) (by omega) (by omega) (by omega)).mono ?_
      rintro e W' ⟨he, hl, hc⟩
      refine ⟨he, ?_, hc⟩
      show LsJ _ _ _ _ _ _ _ _ _ ((pre ++ [(p, t)]).foldl (stepS wt) st0).1 ((pre ++ [(p, t)]).foldl (stepS wt) st0).2 W'
      rw [List.foldl_append]
      exact hl) m 0 (Nat.zero_add _) [] W6 hJ).mono ?_
  rintro e w7 ⟨rfl, hJ7, hc7⟩
  have hall : (evs bs 0 ws).foldl (stepS wt) st0 = least wt bs ws := by
    rw [← hst0, hwm.out]
    exact least_all wt bs hb ws
  rw [List.drop_zero, List.nil_append, hall] at hJ7
  have HJ := hid hJ7
  have a1 := cell_one hJ7.cf
  have a2 := cell_one hJ7.cg
  clear hJ hJ7 hc7 hall hst0
  go_wp2_with fail
  go_quiet (fail)
  go_wp2_with fail
  go_ret2
  have h7 := fun q => HJ.out.keep (below_any w7 q)
  refine ⟨w.heap.size + 1 + 1, w.heap.size + 1 + 1 + 1 + 1, rfl, (h7 _).hF.doneF tokS_flat (by omega) (h7 _).hF.lt, (h7 _).hG.doneF intS_flat (by omega) (h7 _).hG.lt, (h7 _).bl⟩
end Go.Proofs.Ythijnojefeeaoaa
