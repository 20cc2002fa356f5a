/- Models as they are drawn. -/
import Derived.Test.YtfjoininagdlcaaDrawPg
import Derived.Test.YtfjoininagdlcaaRegInv
namespace Go.Proofs.Ytfjoininagdlcaa
open Go.RowKit
theorem Rdr.chg {rb p : Nat} {w w' : World} {D : Nat → Prop} (h : Rdr rb w p) (hc : Chg D w w') (h0 : ∀ k, k ≤ rb → ¬ D k) : Rdr rb w' p := by
  have hlt := h.lt
  obtain ⟨A, n, c, l, h1, h2, h3⟩ := h
  exact ⟨A, n, c, l, (hc.block rb hlt (h0 rb (Nat.le_refl _))).trans h1, h2, h3.chg hc (Nat.le_of_lt hlt) (fun k hk => .inl (Nat.le_of_not_lt fun hlt => h0 k (Nat.le_of_lt hlt) hk))⟩
/-- A row of numbers made in place, in a block from B on. -/
def Lit (X : World) (B b : Nat) (cs : Array Value) : Prop := B ≤ b ∧ X.heap[b]? = some (.cells cs 3 (0, 0))
theorem Lit.chg {X X' : World} {B b : Nat} {cs : Array Value} {D : Nat → Prop} (h : Lit X B b cs) (hc : Chg D X X') (hD : ∀ k, D k → k < B) : Lit X' B b cs :=
  ⟨h.1, (hc.block b (Array.getElem?_eq_some_iff.1 h.2).1 (fun e => by have := hD _ e; have := h.1; omega)).trans h.2⟩
theorem Lit.new {X : World} {B : Nat} (cs : Array Value) (h : B ≤ X.heap.size) : Lit (X.alloc (.cells cs 3)) B X.heap.size cs := ⟨h, heap_alloc_new _ _⟩
theorem Lit.at_ {X : World} {B b : Nat} {cs : Array Value} (h : Lit X B b cs) (z : Nat) : X.cell? ⟨b, z, none⟩ = cs[z]? := cell_of_row X _ _ _ _ (0, 0) h.2
theorem chgN {D D' : Nat → Prop} {a b c : World} (h : Chg D a b) (k : Chg D' b c) (hd : ∀ i, D' i → D i ∨ a.heap.size ≤ i) : Chg D a c :=
  ⟨k.os.trans h.os, k.tape.trans h.tape, k.output.trans h.output, Nat.le_trans h.size k.size, fun i hi hn => (k.block i (by have := h.size; omega) (fun e => (hd i e).elim hn (fun q => by omega))).trans (h.block i hi hn)⟩
theorem chgE (w : World) (o : Obj) : Chg (fun _ => False) w (w.alloc o) := chg_new w o _
/-- An element of a literal of four. -/
theorem lit4 {X : World} {B b z : Nat} {x0 x1 x2 x3 : Int} (h : Lit X B b #[.int .i64 x0, .int .i64 x1, .int .i64 x2, .int .i64 x3]) (hz : z < 4) : ∃ x : Int, X.cell? ⟨b, z, none⟩ = some (.int .i64 x) := by
  rw [h.at_]
  match z, hz with
  | 0, _ => exact ⟨x0, rfl⟩
  | 1, _ => exact ⟨x1, rfl⟩
  | 2, _ => exact ⟨x2, rfl⟩
  | 3, _ => exact ⟨x3, rfl⟩
theorem lit2 {X : World} {B b z : Nat} {x0 x1 : Int} (h : Lit X B b #[.int .i64 x0, .int .i64 x1]) (hz : z < 2) : ∃ x : Int, X.cell? ⟨b, z, none⟩ = some (.int .i64 x) := by
  rw [h.at_]
  match z, hz with
  | 0, _ => exact ⟨x0, rfl⟩
  | 1, _ => exact ⟨x1, rfl⟩
theorem lit6 {X : World} {b z : Nat} {x0 x1 x2 x3 x4 x5 : Int} (h : X.heap[b]? = some (.cells #[.int .i64 x0, .int .i64 x1, .int .i64 x2, .int .i64 x3, .int .i64 x4, .int .i64 x5] 3 (0, 0))) (hz : z < 6) : ∃ x : Int, X.cell? ⟨b, z, none⟩ = some (.int .i64 x) := by
  rw [cell_of_row X _ _ _ _ (0, 0) h]
  match z, hz with
  | 0, _ => exact ⟨x0, rfl⟩
  | 1, _ => exact ⟨x1, rfl⟩
  | 2, _ => exact ⟨x2, rfl⟩
  | 3, _ => exact ⟨x3, rfl⟩
  | 4, _ => exact ⟨x4, rfl⟩
  | 5, _ => exact ⟨x5, rfl⟩
section
variable {P : Program} {α : Type} [Inhabited α]
/-- As wp_append_R, and it tells which block has turned. -/
theorem wp_append_R2 {o : Oper} {a : Act} {w : World} {K : Act → World → Prop} {Q : Exit → Act → World → Prop} (s x : Operand) (t : TypeId)
    (ho : o.op = .call { callee := .builtin .append, args := #[s, x], argTypes := #[t, t] })
    {base : Nat} {e : TypeId} {i : TypeInfo} {z : Value} {bytes : Nat} (S : Shape α) (ht : P.underlying t = some (.slice e)) (hi : P.info? e = some i ∧ i.zero = some z ∧ i.size = S.sz ∧ i.bytes = bytes)
    (hzs : z.cells.size = S.sz) (hsz : 0 < S.sz)
    {v : Value} {l : List α} (hs : a.eval s = v) (hown : OwnR S base w e v l)
    {g c : Nat} {cs : List Value} {tg : TypeId} {y : α} (hx : a.eval x = .slice (some ⟨g, 0, none⟩) 1 c) (hg : w.heap[g]? = some (.cells cs.toArray tg (0, 0))) (hl : cs.length = S.sz) (h1 : ∀ u ∈ cs, u.oneCell' = true) (hE : S.E (ownD base w v) w y (fun j => cs.getD j undef))
    (h63 : l.length + 1 ≤ 9223372036854775807) (hbytes : (l.length + 1) * bytes ≤ 140737488355328) (hbase : base ≤ w.heap.size)
    (h : ∀ A c' w', OwnR S base w' e (.slice A (l.length + 1) c') (l ++ [y]) → Chg (fun k => v.ownBlock = some k) w w' → ((Value.slice A (l.length + 1) c').ownBlock = v.ownBlock ∨ (Value.slice A (l.length + 1) c').ownBlock = some w.heap.size) → K (a.put o.dst (.slice A (l.length + 1) c')) w') :
    o.wp P a w K Q := by
  obtain ⟨xs, ho', hxs⟩ := hown
  obtain ⟨hi, hz, hsize, hby⟩ := hi
  have hnews : ∀ j u, cs[j]? = some u → w.cell? ((⟨g, 0, none⟩ : Addr).add j) = some u := fun j u hj => by
    have hadd : (⟨g, 0, none⟩ : Addr).add j = ⟨g, j, none⟩ := by unfold Addr.add; split <;> simp_all
    rw [hadd, cell_of_row w g j _ tg (0, 0) hg]
    simpa using hj
  obtain ⟨v', w', hrun, ho2, hgr, _, hv'⟩ := run_append_own_at (P := P) w base t o.type e i z S.sz bytes ht hi hz hsize hby hzs hsz v l.length xs ho' ⟨g, 0, none⟩ 1 c cs (by omega) hnews h1 (by simp only [maxLen]; omega) hbytes hbase
  have hlen : (l ++ [y]).length = l.length + 1 := by simp
  have hO : OwnR S base w' e v' (l ++ [y]) := by
    refine ⟨xs ++ cs, by rw [hlen]; exact ho2, fun k hk => ?_⟩
    have kp : ∀ {y' : α} {f : Nat → Value}, S.E (ownD base w v) w y' f → S.E (ownD base w' v') w' y' f := fun hE => OwnR.keep (_row := none) (_xs' := []) ⟨xs, ho', hxs⟩ hgr.size hv' (fun k hk hne => hgr.block k hk (fun e => hne e.symm)) hE
    by_cases hkl : k < l.length
    · obtain ⟨f, hf, he⟩ := hxs k hkl
      refine ⟨f, fun j hj => ?_, ?_⟩
      · rw [List.getElem?_append_left]
        · exact hf j hj
        · rw [ho'.1]
          calc k * S.sz + j < k * S.sz + S.sz := by omega
            _ = (k + 1) * S.sz := by rw [Nat.add_mul, Nat.one_mul]
            _ ≤ l.length * S.sz := Nat.mul_le_mul_right _ hkl
      · rw [gt_append hkl]; exact kp he
    · obtain rfl : k = l.length := by rw [hlen] at hk; omega
      refine ⟨fun j => cs.getD j undef, fun j hj => ?_, by rw [gt_last]; exact kp hE⟩
      rw [List.getElem?_append_right (by rw [ho'.1]; omega), ho'.1, show l.length * S.sz + j - l.length * S.sz = j by omega, List.getElem?_eq_getElem (by omega)]
      simp [show j < cs.length by omega]
  obtain ⟨A, c', rfl, _⟩ := hO.form
  rw [hlen] at hO hrun hv'
  unfold Oper.wp execOp
  simp only [ho, resolve, invoke, builtin, Sem.run_bind, Sem.run_pure, Result.andThen_ok, List.map_toArray, List.map_cons, List.map_nil, hs, hx, hrun]
  exact (h A c' w' hO ⟨hgr.os, hgr.tape, hgr.output, hgr.size, fun k hk hd => hgr.block k hk (fun e => hd e.symm)⟩ hv')
end
theorem own_val {base : Nat} {w : World} {e : TypeId} {v : Value} {xs : List Int} : OwnR intS base w e v xs ↔ OwnR valS base w e v (xs.map fun x => Value.int .i64 x) := by
  constructor
  · rintro ⟨ys, ho, hx⟩
    refine ⟨ys, by rw [List.length_map]; exact ho, fun k hk => ?_⟩
    rw [List.length_map] at hk
    obtain ⟨f, hf, he⟩ := hx k hk
    refine ⟨f, hf, ?_⟩
    have he' : f 0 = .int .i64 (gt xs k) := he
    show f 0 = gt (xs.map fun x => Value.int .i64 x) k
    rw [he', gt_map hk]
  · rintro ⟨ys, ho, hx⟩
    rw [List.length_map] at ho hx
    refine ⟨ys, ho, fun k hk => ?_⟩
    obtain ⟨f, hf, he⟩ := hx k hk
    refine ⟨f, hf, ?_⟩
    have he' : f 0 = gt (xs.map fun x => Value.int .i64 x) k := he
    show f 0 = .int .i64 (gt xs k)
    rw [he', gt_map hk]
theorem OwnR.storeI {base : Nat} {w : World} {e : TypeId} {g n c : Nat} {xs : List Int} (h : OwnR intS base w e (.slice (some ⟨g, 0, none⟩) n c) xs) {j : Nat} (hj : j < xs.length) (x : Int) :
    OwnR intS base (w.setCell ⟨g, j, none⟩ (.int .i64 x)) e (.slice (some ⟨g, 0, none⟩) n c) (xs.set j x) := by
  rw [own_val] at h ⊢
  have := h.storeV (j := j) (by rw [List.length_map]; exact hj) (.int .i64 x)
  rwa [← List.map_set] at this
theorem OwnR.atI {base : Nat} {w : World} {e : TypeId} {g n c : Nat} {xs : List Int} (h : OwnR intS base w e (.slice (some ⟨g, 0, none⟩) n c) xs) {j : Nat} (hj : j < xs.length) :
    w.cell? ⟨g, j, none⟩ = some (.int .i64 (gt xs j)) ∧ w.frozen? ⟨g, j, none⟩ = false := by
  have := (own_val.1 h).atV (j := j) (by rw [List.length_map]; exact hj)
  rwa [gt_map hj] at this
/-- The first row of rows of the call's own, cut by its first word. -/
theorem NestR.cut0 {lo hi : Nat} {w : World} {et ei : TypeId} {g n c : Nat} {r0 : RowD} {rs : List RowD} (h : NestR lo hi w et ei (.slice (some ⟨g, 0, none⟩) n c) (r0 :: rs)) (hn : rs.length ≤ 1048576) (h0 : 0 < r0.2.2.length) {A' : Option Addr} {u : Value}
    (hu : u = .slice A' (r0.2.2.length - 1) (r0.2.1 - 1)) (hA : 1 < r0.2.2.length → A' = some ⟨r0.1, 1, none⟩) : Rd (sliceS intS) lo w.heap.size (w.setCell ⟨g, 0, none⟩ u) (some ⟨g, 0, none⟩) n (r0.2.2.drop 1 :: rs.map (·.2.2)) := by
  have hg := h.own.own_lt (k := g) rfl
  have hnn : n = rs.length + 1 := by have := (h.rd (by simp; omega)).1; simpa using this
  subst hnn
  obtain ⟨g', hg', _, _, _, cur, hcur, hcs⟩ := h.own.blk (by omega)
  injection hg' with hg'
  injection hg' with hg'
  subst hg'
  have hset := heap_setCell_same w g 0 cur et u hcur
  have kp : ∀ q ∈ r0 :: rs, RowAt (w.setCell ⟨g, 0, none⟩ u) ei q ∧ lo ≤ q.1 ∧ q.1 < w.heap.size ∧ q.1 ≠ g := fun q hq => by
    obtain ⟨a1, a2, a3, a4⟩ := h.row q hq
    exact ⟨a4.kept (Below.heap_setCell w _ _ _ (fun e => a3 (by show some g = _; rw [e]))), a1, a4.lt, fun e => a3 (by show some g = _; rw [e])⟩
  refine ⟨by simp, by omega, fun _ => ⟨g, 0, rfl, hg.1, hg.2, fun k hk => ?_⟩⟩
  have hs1 : (sliceS intS).sz = 1 := rfl
  have e0 : ∀ j, j < (sliceS intS).sz → 0 + k * (sliceS intS).sz + j = k := fun j hj => by rw [hs1] at hj ⊢; omega
  cases k with
  | zero =>
    obtain ⟨k1, k2, k3, _⟩ := kp r0 (List.mem_cons_self ..)
    have hc := k1.cap
    refine ⟨fun _ => u, fun j hj => ?_, A', r0.2.1 - 1, ?_, ?_, ?_⟩
    · rw [e0 j hj, cell_of_row _ g _ _ et (0, 0) hset]
      have h2 : (rs.length + 1) * 1 ≤ cur.size := hcs
      have h3 : 0 < cur.size := by omega
      simp [h3]
    · show u = .slice A' (r0.2.2.drop 1).length _
      rw [hu, List.length_drop]
    · show (r0.2.2.drop 1).length ≤ _
      rw [List.length_drop]; omega
    · have hr := k1.rd (D := rng lo w.heap.size) ⟨k2, k3⟩
      show RdD intS _ _ A' (r0.2.2.drop 1).length (r0.2.2.drop 1)
      refine ⟨rfl, by rw [List.length_drop]; have := hr.2.1; omega, fun h1 => ?_⟩
      rw [List.length_drop] at h1
      obtain ⟨b, off, hb, hD, ha⟩ := hr.2.2 (by omega)
      injection hb with hb
      injection hb with hb1 hb2
      subst hb1 hb2
      refine ⟨r0.1, 1, hA (by omega), ⟨k2, k3⟩, fun i hi => ?_⟩
      rw [List.length_drop] at hi
      obtain ⟨f, hf, he⟩ := ha (1 + i) (by omega)
      refine ⟨f, fun j hj => ?_, by rw [gt_drop]; exact he⟩
      have := hf j hj
      have hi1 : intS.sz = 1 := rfl
      rw [hi1] at this ⊢
      rw [← this]
      congr 2
      omega
  | succ k =>
    have hk' : k < rs.length := by omega
    obtain ⟨a1, _⟩ := h.own.atV (j := k + 1) (by simp; omega)
    have e1 : gt ((r0 :: rs).map rowV) (k + 1) = rowV (gt rs k) := by
      rw [gt_map (by simp; omega)]
      congr 1
    have hmem : gt rs k ∈ r0 :: rs := List.mem_cons_of_mem _ (gt_mem hk')
    obtain ⟨k1, k2, k3, k4⟩ := kp _ hmem
    have e2 : gt (r0.2.2.drop 1 :: rs.map (·.2.2)) (k + 1) = (gt rs k).2.2 := by
      have : gt (r0.2.2.drop 1 :: rs.map (·.2.2)) (k + 1) = gt (rs.map (·.2.2)) k := by simp [gt]
      rw [this, gt_map hk']
    refine ⟨fun _ => rowV (gt rs k), fun j hj => ?_, ?_⟩
    · rw [e0 j hj, ← e1, ← a1]
      exact World.cell?_setCell_other w ⟨g, 0, none⟩ ⟨g, k + 1, none⟩ u (by intro e; injection e with _ e; omega)
    · rw [e2]
      exact ⟨_, _, rfl, k1.cap, k1.rd ⟨k2, k3⟩⟩
/-- The model is laid into the result's block. -/
theorem fin_model {rb q lo : Nat} {w W0 W : World} {A B : Option Addr} {n c m e0 : Nat} {l : List Int} {r : List (List Int)} {x y : Value} {e : TypeId} (h1 : Rd intS lo W0.heap.size W0 A n l) (h2 : Rd (sliceS intS) lo W0.heap.size W0 B m r) (hlo : w.heap.size < lo) (hR : Rdr rb W0 q) (hC : Chg (fun k => k = rb) w W0) (hrb : rb < w.heap.size)
    (hw : W0.heap[w.heap.size]? = some (.cells #[x, y] e (0, 0))) (hW : W = (W0.setCell ⟨w.heap.size, 0, none⟩ (.slice A n c)).setCell ⟨w.heap.size, 1, none⟩ (.slice B m e0)) :
    W.cell? ⟨w.heap.size, 0, none⟩ = some (.slice A n c) ∧ W.cell? ⟨w.heap.size, 1, none⟩ = some (.slice B m e0) ∧ Rd intS w.heap.size W.heap.size W A n l ∧ Rd (sliceS intS) w.heap.size W.heap.size W B m r ∧ Rdr rb W q ∧ Chg (fun k => k = rb) w W := by
  subst hW
  obtain ⟨k0, k1, _, _⟩ := at_get (at_set1 (v := .slice B m e0) (at_set0 (v := .slice A n c) hw))
  have hc := ((Chg.refl (fun k => k = w.heap.size) W0).set (p := ⟨w.heap.size, 0, none⟩) rfl (.slice A n c)).set (p := ⟨w.heap.size, 1, none⟩) rfl (.slice B m e0)
  have hs := hc.size
  exact ⟨k0, k1, (h1.chg hc (Nat.le_refl _) (fun k e => .inr (by omega))).wide (by omega) hs, (h2.chg hc (Nat.le_refl _) (fun k e => .inr (by omega))).wide (by omega) hs, hR.chg hc (fun k hk e => by omega), chgN hC hc (fun k e => .inr (by omega))⟩
set_option maxRecDepth 100000 in
set_option maxHeartbeats 2000000 in
theorem l92Model_any (rb : Nat) (w : World) (p : Nat) (h : Rdr rb w p) (hp : p ≤ 1000) :
    Calls Try.prog 66 #[.pointer (some ⟨rb, 0, none⟩)] w fun e w' => ∃ A n c l B m e0 r p', e = .returned (.agg #[.slice A n c, .slice B m e0]) ∧ Rd intS w.heap.size w'.heap.size w' A n l ∧ Rd (sliceS intS) w.heap.size w'.heap.size w' B m r ∧ 1 ≤ n ∧ n ≤ 4 ∧ m ≤ 4 ∧ (∀ q ∈ r, q.length ≤ 4) ∧ p' ≤ p + 200 ∧ Rdr rb w' p' ∧ Chg (fun k => k = rb) w w' := by
  obtain ⟨j0, hj1, hy0, hy1, hy2⟩ := info_parts (show (Try.prog.info? 23).map (fun i => (i.zero, i.size, i.bytes)) = some (some (.slice none 0 0), 1, 24) by kernel_rfl)
  have HJ := hid (And.intro hj1 (And.intro hy0 (And.intro hy1 hy2)))
  clear hj1 hy0 hy1 hy2
  obtain ⟨i0, hi1, hz0, hz1, hz2⟩ := info_parts (show (Try.prog.info? 3).map (fun i => (i.zero, i.size, i.bytes)) = some (some (.int .i64 0), 1, 8) by kernel_rfl)
  have HI0 := hid (And.intro hi1 (And.intro hz0 (And.intro hz1 hz2)))
  clear hi1 hz0 hz1 hz2
  have hrl := h.lt
  have HR := hid (h.keep ((bnew w (.cells #[.slice none 0 0, .slice none 0 0] 26)).mono hrl))
  clear h
  go_enter Try.func66, Try.ntmps66
  go_wp2_with fail
  refine (pick_any rb _ p 4 HR.out (by omega) (by omega) (by omega)).mono ?_
  rintro e w1 ⟨v, rfl, hv0, hv1, hr1, hc1⟩
  obtain ⟨v, rfl⟩ := Int.eq_ofNat_of_zero_le hv0
  have hv2 := hv1 (by omega)
  have hs1 := hc1.size
  rw [World.size_alloc] at hs1
  obtain ⟨N, hN⟩ : ∃ N : Nat, 1 + (v : Int) = (N : Int) := ⟨v + 1, by omega⟩
  have hN1 : 1 ≤ N := by omega
  have hN4 : N ≤ 4 := by omega
  have HC1 := hid ((chg_new _ _ _).trans hc1)
  have HRES := hid ((hc1.block w.heap.size (by simp) (by omega)).trans (heap_alloc_new w (.cells #[.slice none 0 0, .slice none 0 0] 26)))
  have HR1 := hid hr1
  clear hr1 hc1 hv1 HR hv0
  have h1s : ((w1.alloc (.cells #[] 3)).alloc (.cells #[] 23)).heap.size = w1.heap.size + 1 + 1 := by simp
  have HO0 := hid ((((OwnR.nil (S := intS) (e := 3) (Nat.le_refl w1.heap.size) #[] rfl).al (.cells #[] 23)).al (.cells #[.slice (some ⟨w1.heap.size, 0, none⟩) 0 0, .slice (some ⟨w1.heap.size + 1, 0, none⟩) 0 0] 26)))
  have hN0 := ((NestR.nil (lo := w1.heap.size) (hi := w1.heap.size + 1) (et := 23) (ei := 3) (w := w1.alloc (.cells #[] 3)) (by simp) #[] rfl).al (.cells #[.slice (some ⟨w1.heap.size, 0, none⟩) 0 0, .slice (some ⟨w1.heap.size + 1, 0, none⟩) 0 0] 26))
  rw [World.size_alloc] at hN0
  have HN0 := hid (hN0.wide (hi' := (((w1.alloc (.cells #[] 3)).alloc (.cells #[] 23)).alloc (.cells #[.slice (some ⟨w1.heap.size, 0, none⟩) 0 0, .slice (some ⟨w1.heap.size + 1, 0, none⟩) 0 0] 26)).heap.size) (by simp))
  have hM0 := heap_alloc_new ((w1.alloc (.cells #[] 3)).alloc (.cells #[] 23)) (.cells #[.slice (some ⟨w1.heap.size, 0, none⟩) 0 0, .slice (some ⟨w1.heap.size + 1, 0, none⟩) 0 0] 26)
  rw [h1s] at hM0
  have HM0 := hid hM0
  have hB0 := btr (btr (bnew w1 (.cells #[] 3)) (bnew _ (.cells #[] 23))) (bnew _ (.cells #[.slice (some ⟨w1.heap.size, 0, none⟩) 0 0, .slice (some ⟨w1.heap.size + 1, 0, none⟩) 0 0] 26))
  have HR0 := hid (HR1.out.keep (hB0.mono (by omega)))
  have HC0 := hid (chgB (Chg.refl (fun k => k = rb) w1) hB0 (Nat.le_refl _))
  go_wp2_with fail
  obtain ⟨mb, hmbe⟩ : ∃ mb, w1.heap.size + 1 + 1 = mb := ⟨_, rfl⟩
  have HMBE := hid hmbe
  rw [hmbe]
  rw [hmbe] at hM0
  have HM0 := hid hM0
  clear hN0 hM0 hB0 h1s hmbe
  go_loopg [5] N (fun gk i wr => ∃ (ai : Nat) (xs : List Int) (rs : List RowD) (gS dS g d0 p' : Nat), ai + gk = N ∧ i = .int .i64 ai ∧ xs.length = ai ∧ rs.length = ai ∧ OwnR intS w1.heap.size wr 3 (.slice (some ⟨gS, 0, none⟩) xs.length dS) xs ∧ NestR w1.heap.size wr.heap.size wr 23 3 (.slice (some ⟨g, 0, none⟩) rs.length d0) rs ∧
    wr.heap[mb]? = some (.cells #[.slice (some ⟨gS, 0, none⟩) xs.length dS, .slice (some ⟨g, 0, none⟩) rs.length d0] 26 (0, 0)) ∧ (gS ≠ g ∧ gS ≠ mb ∧ g ≠ mb ∧ ∀ r ∈ rs, r.1 ≠ gS ∧ r.1 ≠ mb) ∧ (∀ r ∈ rs, r.2.2.length = N) ∧ p' ≤ p + 1 + 5 * ai ∧ Rdr rb wr p' ∧ Chg (fun k => k = rb) w1 wr)
  case atStart => exact ⟨0, [], [], _, _, _, _, p + 1, Nat.zero_add _, rfl, rfl, rfl, HO0.out, HN0.out, HM0.out, ⟨by omega, by have := HMBE.out; omega, by have := HMBE.out; omega, (fun r hr => by cases hr)⟩, (fun r hr => by cases hr), by omega, HR0.out, HC0.out⟩
  case round =>
    clear HO0 HN0 HM0 HR0 HC0
    obtain ⟨ai, xs, rs, gS, dS, g, d0, p', hkg, rfl, hxl, hrl5, hO, hN, hM, hsep, hl4, hp', hR, hC⟩ := hrel
    have HKG := hid hkg
    have HXL := hid hxl
    have HRL := hid hrl5
    have HO := hid hO
    have HN := hid hN
    have HM := hid hM
    have HSEP := hid hsep
    have HL4 := hid hl4
    have HR := hid hR
    have HC := hid hC
    have hak : ai ≤ N := by omega
    have hrl8 : rs.length ≤ 8 := by omega
    have hxl8 : xs.length ≤ 8 := by omega
    have hwz := hC.size
    have hmb := (Array.getElem?_eq_some_iff.1 hM).1
    obtain ⟨hg1, hg2⟩ := hN.own.own_lt (k := g) rfl
    obtain ⟨hgs1, hgs2⟩ := hO.own_lt (k := gS) rfl
    obtain ⟨mc0, mc1, mf0, mf1⟩ := at_get hM
    have HMb := hid hM
    have HSEPb := hid hsep
    clear hkg hrl5 hN hl4 hR hC hO hM hxl hsep HM HSEP
    by_cases hlt : ai < N
    case neg =>
      obtain rfl : N = ai := by omega
      have hrb1 : rb < w1.heap.size := by omega
      go_wp2_with fail
      refine (pick_any rb wr p' 40 HR.out (by omega) (by omega) (by omega)).mono ?_
      rintro e w2 ⟨v2, rfl, hw0, hw1, hr2, hc2⟩
      have hs2 := hc2.size
      have hO2 := HO.out.pk hc2 hrb1
      have hN2 := (HN.out.pk hc2 hrb1).wide hs2
      have hM2 := (hc2.block mb hmb (by have := HMBE.out; omega)).trans HMb.out
      rw [HXL.out] at hO2 hM2
      rw [HRL.out] at hN2 hM2
      have HO2 := hid hO2
      have HN2 := hid hN2
      have hRES := (hc2.block w.heap.size (by omega) (by omega)).trans ((HC.out.block w.heap.size (by omega) (by omega)).trans HRES.out)
      have HR2 := hid hr2
      have HC2 := hid (HC1.out.trans (HC.out.trans hc2))
      have HM2 := hid hM2
      have HRES2 := hid hRES
      clear mc0 mc1 mf0 mf1 hc2 hr2 hO2 hN2 HR HO HN HMb hRES HRES hw1
      obtain ⟨mc0, mc1, mf0, mf1⟩ := at_get hM2
      obtain ⟨rc0, rc1, rf0, rf1⟩ := at_get HRES2.out
      clear hM2
      have hwm : w.heap.size < mb := by have := HMBE.out; omega
      have hmw : ¬ mb = w.heap.size := by omega
      have hmb2 : mb < w2.heap.size := by omega
      have hN0i : (0 : Int) < (N : Int) := by omega
      have hN0n : 0 < N := by omega
      have hN1i : (1 : Int) ≤ (N : Int) := by omega
      by_cases e0 : v2 = 0
      case pos =>
        subst e0
        clear hwm hmw mc0 mc1 mf0 mf1 rc0 rc1 rf0 rf1
        go_wp2_with fail
        refine wp_region_invH (by kernel_rfl) (by kernel_rfl) (fun L a X => ∃ v53 v54 v55 v56 v57 v58 v59 v60 : Value, ∃ (q : Nat), a = { tmps := #[.pointer (some ⟨rb, 0, none⟩), undef, .pointer (some ⟨w.heap.size, 0, none⟩), .int .i64 N, .pointer (some ⟨mb, 0, none⟩), .int .i64 N, u6, u7, .pointer (some ⟨rb, 0, none⟩), .int .i64 v, .int .i64 N, .slice (some ⟨w1.heap.size, 0, none⟩) 0 0, .slice (some ⟨w1.heap.size + 1, 0, none⟩) 0 0, .agg #[.slice (some ⟨w1.heap.size, 0, none⟩) 0 0, .slice (some ⟨w1.heap.size + 1, 0, none⟩) 0 0], .int .i64 N, .int .i64 N, .bool false, u17, u18, u19, u20, u21, u22, u23, u24, u25, u26, u27, u28, u29, u30, u31, u32, u33, u34, u35, u36, u37, u38, u39, u40, u41, u42, u43, u44, u45, u46, u47, u48, .pointer (some ⟨rb, 0, none⟩), .int .i64 0, .bool true, .bool true, v53, v54, v55, v56, v57, v58, v59, v60, undef, undef, undef, undef, undef, undef, undef, undef, undef, undef, undef, undef, undef, undef, undef, undef, undef], defers := [] } ∧
          (Rdr rb X q) ∧ ((L 4 = false → q = p' + 1) ∧ q ≤ p' + 2) ∧ (Chg (fun k => k = rb ∨ k = gS) w2 X) ∧ (L 8 = false → OwnR intS w1.heap.size X 3 (.slice (some ⟨gS, 0, none⟩) N dS) xs) ∧ (L 0 = true → v53 = .pointer (some ⟨mb, 0, none⟩)) ∧ (L 1 = true → v54 = .slice (some ⟨gS, 0, none⟩) N dS) ∧ (L 2 = true → ∃ b, v55 = .slice (some ⟨b, 0, none⟩) 2 2 ∧ Lit X w2.heap.size b #[.int .i64 (-1), .int .i64 10]) ∧ (L 3 = true → v56 = .pointer (some ⟨rb, 0, none⟩)) ∧ (L 4 = true → ∃ z : Nat, v57 = .int .i64 z ∧ z < 2) ∧ (L 5 = true → ∃ b z, v58 = .pointer (some ⟨b, z, none⟩) ∧ z < 2 ∧ Lit X w2.heap.size b #[.int .i64 (-1), .int .i64 10]) ∧ (L 6 = true → ∃ x : Int, v59 = .int .i64 x) ∧ (L 7 = true → v60 = .pointer (some ⟨gS, 0, none⟩)) ∧ (L 8 = true → ∃ x : Int, OwnR intS w1.heap.size X 3 (.slice (some ⟨gS, 0, none⟩) N dS) (xs.set 0 x))) ?_ ⟨?_, ?_, ?_, ?_, ?_, ?_, ?_, ?_, ?_, trivial⟩ ?_
        · exact ⟨_, _, _, _, _, _, _, _, p' + 1, rfl, HR2.out.keep (Below.refl _ _).drew, ⟨fun _ => rfl, by omega⟩, (Chg.refl _ _).drew, fun _ => HO2.out.flat intS_flat (Chg.refl (fun _ => False) w2).drew (fun _ _ h => h), fun h => (by cases h), fun h => (by cases h), fun h => (by cases h), fun h => (by cases h), fun h => (by cases h), fun h => (by cases h), fun h => (by cases h), fun h => (by cases h), fun h => (by cases h)⟩
        · rintro L a X K0 ⟨v53, v54, v55, v56, v57, v58, v59, v60, q, rfl, hR, hq, hC, hO, f0, f1, f2, f3, f4, f5, f6, f7, f8⟩ hL hd hK
          clear hd
          refine ⟨rfl, ?_⟩
          go_simp
          exact hK _ _ ⟨_, _, _, _, _, _, _, _, q, rfl, hR, hq, hC, hO, fun _ => rfl, f1, f2, f3, f4, f5, f6, f7, f8⟩
        · rintro L a X K0 ⟨v53, v54, v55, v56, v57, v58, v59, v60, q, rfl, hR, hq, hC, hO, f0, f1, f2, f3, f4, f5, f6, f7, f8⟩ hL hd hK
          have d0 := hd ⟨0, .data⟩ (by simp) rfl
          obtain rfl := f0 d0
          obtain ⟨q0, _, _, _⟩ := at_get ((hC.block mb hmb2 (fun e => by have := HMBE.out; have := HSEPb.out.2.1; omega)).trans HM2.out)
          clear hd
          refine ⟨rfl, ?_⟩
          go_simp
          exact hK _ _ ⟨_, _, _, _, _, _, _, _, q, rfl, hR, hq, hC, hO, f0, fun _ => rfl, f2, f3, f4, f5, f6, f7, f8⟩
        · rintro L a X K0 ⟨v53, v54, v55, v56, v57, v58, v59, v60, q, rfl, hR, hq, hC, hO, f0, f1, f2, f3, f4, f5, f6, f7, f8⟩ hL hd hK
          have hc := chgE X (.cells #[.int .i64 (-1), .int .i64 10] 3)
          clear hd
          refine ⟨rfl, ?_⟩
          go_simp
          exact hK _ _ ⟨_, _, _, _, _, _, _, _, q, rfl, hR.chg hc (fun _ _ h => h), hq, hC.trans (hc.wide (fun _ h => h.elim)), fun h => (hO h).flat intS_flat hc (fun _ _ h => h), f0, f1, fun _ => ⟨_, rfl, Lit.new _ hC.size⟩, f3, f4, fun h => (by obtain ⟨b, z, e, h2, l⟩ := f5 h; exact ⟨b, z, e, h2, l.chg hc (fun _ h => h.elim)⟩), f6, f7, fun h => (by obtain ⟨x, l⟩ := f8 h; exact ⟨x, l.flat intS_flat hc (fun _ _ h => h)⟩)⟩
        · rintro L a X K0 ⟨v53, v54, v55, v56, v57, v58, v59, v60, q, rfl, hR, hq, hC, hO, f0, f1, f2, f3, f4, f5, f6, f7, f8⟩ hL hd hK
          clear hd
          refine ⟨rfl, ?_⟩
          go_simp
          exact hK _ _ ⟨_, _, _, _, _, _, _, _, q, rfl, hR, hq, hC, hO, f0, f1, f2, fun _ => rfl, f4, f5, f6, f7, f8⟩
        · rintro L a X K0 ⟨v53, v54, v55, v56, v57, v58, v59, v60, q, rfl, hR, hq, hC, hO, f0, f1, f2, f3, f4, f5, f6, f7, f8⟩ hL hd hK
          have d3 := hd ⟨3, .data⟩ (by simp) rfl
          obtain rfl := f3 d3
          clear hd
          refine ⟨rfl, ?_⟩
          go_simp
          refine (pick_any rb X q 2 hR (by omega) (by omega) (by omega)).mono ?_
          rintro e X2 ⟨z, rfl, z0, z1, hr2, hc⟩
          obtain ⟨z, rfl⟩ := Int.eq_ofNat_of_zero_le z0
          exact hK _ _ ⟨_, _, _, _, _, _, _, _, q + 1, rfl, hr2, ⟨fun h => (by cases h), by have := hq.1 hL; omega⟩, hC.trans (hc.wide (fun k h => .inl h)), fun h => (hO h).flat intS_flat hc (fun k hk e => by have hk1 := OwnR.own_lt (by first | exact hO h | exact l) hk; have := hk1.1; omega), f0, f1, fun h => (by obtain ⟨b, e, l⟩ := f2 h; exact ⟨b, e, l.chg hc (fun k e => by omega)⟩), f3, fun _ => ⟨z, rfl, by have := z1 (by omega); omega⟩, fun h => (by obtain ⟨b, z, e, h2, l⟩ := f5 h; exact ⟨b, z, e, h2, l.chg hc (fun k e => by omega)⟩), f6, f7, fun h => (by obtain ⟨x, l⟩ := f8 h; exact ⟨x, l.flat intS_flat hc (fun k hk e => by have hk1 := OwnR.own_lt (by first | exact hO h | exact l) hk; have := hk1.1; omega)⟩)⟩
        · rintro L a X K0 ⟨v53, v54, v55, v56, v57, v58, v59, v60, q, rfl, hR, hq, hC, hO, f0, f1, f2, f3, f4, f5, f6, f7, f8⟩ hL hd hK
          have d2 := hd ⟨2, .data⟩ (by simp) rfl
          obtain ⟨b, rfl, l2⟩ := f2 d2
          have d4 := hd ⟨4, .data⟩ (by simp) rfl
          obtain ⟨z, rfl, hz⟩ := f4 d4
          have hzi : (z : Int) < 2 := by omega
          clear hd
          refine ⟨rfl, ?_⟩
          go_simp
          exact hK _ _ ⟨_, _, _, _, _, _, _, _, q, rfl, hR, hq, hC, hO, f0, f1, fun _ => ⟨b, rfl, l2⟩, f3, fun _ => ⟨z, rfl, hz⟩, fun _ => ⟨b, z, rfl, hz, l2⟩, f6, f7, f8⟩
        · rintro L a X K0 ⟨v53, v54, v55, v56, v57, v58, v59, v60, q, rfl, hR, hq, hC, hO, f0, f1, f2, f3, f4, f5, f6, f7, f8⟩ hL hd hK
          have d5 := hd ⟨5, .data⟩ (by simp) rfl
          obtain ⟨b, z, rfl, hz, l5⟩ := f5 d5
          obtain ⟨x, hx⟩ := lit2 l5 hz
          clear hd
          refine ⟨rfl, ?_⟩
          go_simp
          exact hK _ _ ⟨_, _, _, _, _, _, _, _, q, rfl, hR, hq, hC, hO, f0, f1, f2, f3, f4, fun _ => ⟨b, z, rfl, hz, l5⟩, fun _ => ⟨x, rfl⟩, f7, f8⟩
        · rintro L a X K0 ⟨v53, v54, v55, v56, v57, v58, v59, v60, q, rfl, hR, hq, hC, hO, f0, f1, f2, f3, f4, f5, f6, f7, f8⟩ hL hd hK
          have d1 := hd ⟨1, .data⟩ (by simp) rfl
          obtain rfl := f1 d1
          clear hd
          refine ⟨rfl, ?_⟩
          go_simp
          exact hK _ _ ⟨_, _, _, _, _, _, _, _, q, rfl, hR, hq, hC, hO, f0, f1, f2, f3, f4, f5, f6, fun _ => rfl, f8⟩
        · rintro L a X K0 ⟨v53, v54, v55, v56, v57, v58, v59, v60, q, rfl, hR, hq, hC, hO, f0, f1, f2, f3, f4, f5, f6, f7, f8⟩ hL hd hK
          have d6 := hd ⟨6, .data⟩ (by simp) rfl
          obtain ⟨x, rfl⟩ := f6 d6
          have d7 := hd ⟨7, .data⟩ (by simp) rfl
          obtain rfl := f7 d7
          have hOx := hO hL
          obtain ⟨q0, q1⟩ := hOx.atI (j := 0) (by rw [HXL.out]; omega)
          have hc := (Chg.refl (fun k => k = gS) X).set (p := ⟨gS, 0, none⟩) rfl (.int .i64 x)
          clear hd
          refine ⟨rfl, ?_⟩
          go_simp
          exact hK _ _ ⟨_, _, _, _, _, _, _, _, q, rfl, hR.chg hc (fun k hk e => by omega), hq, hC.trans (hc.wide (fun k h => .inr h)), fun h => (by cases h), f0, f1, fun h => (by obtain ⟨b, e, l⟩ := f2 h; exact ⟨b, e, l.chg hc (fun k e => by omega)⟩), f3, f4, fun h => (by obtain ⟨b, z, e, h2, l⟩ := f5 h; exact ⟨b, z, e, h2, l.chg hc (fun k e => by omega)⟩), fun _ => ⟨x, rfl⟩, f7, fun _ => ⟨x, hOx.storeI (by rw [HXL.out]; omega) x⟩⟩
        · rintro L a X hLL ⟨v53, v54, v55, v56, v57, v58, v59, v60, q, rfl, hR, hq, hC, hO, f0, f1, f2, f3, f4, f5, f6, f7, f8⟩
          obtain ⟨x, hOx⟩ := f8 (hLL 8 (by simp))
          clear f0 f1 f2 f3 f4 f5 f6 f7 f8 hO hLL
          have hXs := hC.size
          have hq2 := hq.2
          have hM3 := (hC.block mb hmb2 (fun e => by have := HMBE.out; have := HSEPb.out.2.1; omega)).trans HM2.out
          have hRES3 := (hC.block w.heap.size (by omega) (fun e => by omega)).trans HRES2.out
          obtain ⟨mc0, mc1, mf0, mf1⟩ := at_get hM3
          obtain ⟨rc0, rc1, rf0, rf1⟩ := at_get hRES3
          have HRES3 := hid hRES3
          have HOX := hid hOx
          have HRX := hid hR
          have HCX := hid (chgN HC2.out hC (fun k e => by omega))
          have HNX := hid ((HN2.out.keep hC (fun k hk e => by
              have h' : some g = some k := hk
              injection h' with h'
              obtain ⟨s1, s2, s3, s4⟩ := HSEPb.out
              omega) (fun r hr e => by
              obtain ⟨s1, s2, s3, s4⟩ := HSEPb.out
              have h5 := s4 r hr
              have h6 := (HN2.out.row r hr).1
              omega)).wide hXs)
          have hwm : w.heap.size < mb := by have := HMBE.out; omega
          clear hM3 hRES3 hOx hR hq hC
          go_wp2_with fail
          have hsl : (xs.set 0 x).length = N := by simp; exact HXL.out
          have h1 := (HOX.out.rd (by omega)).2
          clear hsl
          have hF := fin_model (c := dS) (e0 := d0) h1 (HNX.out.rd (by have := HRL.out; omega)).2 (by omega) HRX.out HCX.out (by omega) HRES3.out rfl
          have HF := hid hF.2.2
          have k0 := hF.1
          have k1 := hF.2.1
          clear hF
          refine bodyPost_ret (v := .agg #[.slice (some ⟨gS, 0, none⟩) N dS, .slice (some ⟨g, 0, none⟩) N d0]) (by simp [results, Try.results66, go_sem, k0, k1]) rfl ?_
          exact ⟨_, _, dS, xs.set 0 x, _, _, d0, rs.map (·.2.2), q, rfl, HF.out.1, HF.out.2.1, by omega, by omega, by omega, (fun q hq => by
            obtain ⟨y, hy, rfl⟩ := List.mem_map.1 hq
            have := HL4.out y hy
            omega), by omega, HF.out.2.2.1, HF.out.2.2.2⟩
      by_cases e1 : v2 = 1
      case pos =>
        subst e1
        clear e0
        obtain ⟨r0, rs', hrs⟩ : ∃ r0 rs', Hid (rs = r0 :: rs') := by
          cases rs with
          | nil => have := HRL.out; simp at this; omega
          | cons x y => exact ⟨x, y, rfl⟩
        have hN2 := HN2.out
        rw [hrs.out] at hN2
        obtain ⟨k0, kf⟩ := hN2.at0
        have hl0 : r0.2.2.length = N := HL4.out r0 (by rw [hrs.out]; exact List.mem_cons_self ..)
        have hcap0 := (hN2.row r0 (List.mem_cons_self ..)).2.2.2.cap
        obtain ⟨hgl, hgh⟩ := hN2.own.own_lt (k := g) rfl
        have HCUT := hid fun (A' : Option Addr) (u : Value) => hN2.cut0 (A' := A') (u := u) (by have := HRL.out; rw [hrs.out] at this; simp at this; omega) (by omega)
        have k1 : w2.cell? ⟨g, 0, none⟩ = some (.slice (some ⟨r0.1, 0, none⟩) r0.2.2.length r0.2.1) := k0
        obtain ⟨len, hlen⟩ : ∃ len, r0.2.2.length = len := ⟨_, rfl⟩
        obtain ⟨cap, hcap⟩ : ∃ cap, r0.2.1 = cap := ⟨_, rfl⟩
        obtain ⟨bb, hbb⟩ : ∃ bb, r0.1 = bb := ⟨_, rfl⟩
        rw [hlen, hcap, hbb] at k1
        rw [hlen] at hl0 hcap0
        rw [hcap] at hcap0
        have hl1 : (1 : Int) ≤ (len : Int) := by omega
        have hgw : ¬ g = w.heap.size := by omega
        have hgm : g ≠ mb := HSEPb.out.2.2.1
        have HE := hid (And.intro hlen (And.intro hcap hbb))
        clear k0 hN2 hlen hcap hbb
        by_cases hc1 : cap = 1
        case pos =>
          subst hc1
          go_wp2_with fail
          refine wp_region_still_tail 8 (by kernel_rfl) (by kernel_rfl) ?_
          simp only [List.take_succ_cons, List.take_zero, List.drop_succ_cons, List.drop_zero]
          repeat still_step
          try refine wpStill_nil ?_
          change wpList _ _ _ _ _ w2.drew
          go_wp2_with fail
          have hcs : Chg (fun k => k = g) w2 (w2.setCell ⟨g, 0, none⟩ (.slice (some ⟨bb, 0, none⟩) (N - 1) 0)) := (Chg.refl (fun k => k = g) w2).set (p := ⟨g, 0, none⟩) rfl _
          have hF := fin_model (c := dS) (e0 := d0) ((HO2.out.flat intS_flat hcs (fun k hk e => by
            have h' : some gS = some k := hk
            injection h' with h'
            have := HSEPb.out.1
            omega)).rd (by have := HXL.out; omega)).2 ((HCUT.out (some ⟨bb, 0, none⟩) (.slice (some ⟨bb, 0, none⟩) (N - 1) 0) (by rw [HE.out.1, HE.out.2.1, hl0]) (fun h => by rw [HE.out.1] at h; omega)).wide (Nat.le_refl _) hcs.size) (by omega) (HR2.out.chg hcs (fun k hk e => by omega)) (chgN HC2.out hcs (fun k e => .inr (by omega))) (by omega) ((hcs.block w.heap.size (by omega) (by omega)).trans HRES2.out) rfl
          have HF := hid hF.2.2
          have k0 := hF.1
          have k1 := hF.2.1
          clear hF
          refine bodyPost_ret (v := .agg #[.slice (some ⟨gS, 0, none⟩) N dS, .slice (some ⟨g, 0, none⟩) N d0]) (by simp [results, Try.results66, go_sem, k0, k1]) rfl ?_
          refine ⟨_, _, dS, xs, _, _, d0, _, p' + 1, rfl, HF.out.1.bl (bdr _), HF.out.2.1.bl (bdr _), by omega, by omega, by omega, (fun q hq => ?_), by omega, HF.out.2.2.1.keep (Below.refl _ _).drew, HF.out.2.2.2.drew⟩
          rcases List.mem_cons.1 hq with rfl | hq
          · rw [List.length_drop]; have := HL4.out r0 (by rw [hrs.out]; exact List.mem_cons_self ..); omega
          · obtain ⟨y, hy, rfl⟩ := List.mem_map.1 hq
            have := HL4.out y (by rw [hrs.out]; exact List.mem_cons_of_mem _ hy)
            omega
        case neg =>
          go_wp2_with fail
          refine wp_region_still_tail 8 (by kernel_rfl) (by kernel_rfl) ?_
          simp only [List.take_succ_cons, List.take_zero, List.drop_succ_cons, List.drop_zero]
          repeat still_step
          try refine wpStill_nil ?_
          change wpList _ _ _ _ _ w2.drew
          go_wp2_with fail
          have hcs : Chg (fun k => k = g) w2 (w2.setCell ⟨g, 0, none⟩ (.slice (some ⟨bb, 1, none⟩) (N - 1) (cap - 1))) := (Chg.refl (fun k => k = g) w2).set (p := ⟨g, 0, none⟩) rfl _
          have hF := fin_model (c := dS) (e0 := d0) ((HO2.out.flat intS_flat hcs (fun k hk e => by
            have h' : some gS = some k := hk
            injection h' with h'
            have := HSEPb.out.1
            omega)).rd (by have := HXL.out; omega)).2 ((HCUT.out (some ⟨bb, 1, none⟩) (.slice (some ⟨bb, 1, none⟩) (N - 1) (cap - 1)) (by rw [HE.out.1, HE.out.2.1, hl0]) (fun h => by rw [HE.out.2.2])).wide (Nat.le_refl _) hcs.size) (by omega) (HR2.out.chg hcs (fun k hk e => by omega)) (chgN HC2.out hcs (fun k e => .inr (by omega))) (by omega) ((hcs.block w.heap.size (by omega) (by omega)).trans HRES2.out) rfl
          have HF := hid hF.2.2
          have k0 := hF.1
          have k1 := hF.2.1
          clear hF
          refine bodyPost_ret (v := .agg #[.slice (some ⟨gS, 0, none⟩) N dS, .slice (some ⟨g, 0, none⟩) N d0]) (by simp [results, Try.results66, go_sem, k0, k1]) rfl ?_
          refine ⟨_, _, dS, xs, _, _, d0, _, p' + 1, rfl, HF.out.1.bl (bdr _), HF.out.2.1.bl (bdr _), by omega, by omega, by omega, (fun q hq => ?_), by omega, HF.out.2.2.1.keep (Below.refl _ _).drew, HF.out.2.2.2.drew⟩
          rcases List.mem_cons.1 hq with rfl | hq
          · rw [List.length_drop]; have := HL4.out r0 (by rw [hrs.out]; exact List.mem_cons_self ..); omega
          · obtain ⟨y, hy, rfl⟩ := List.mem_map.1 hq
            have := HL4.out y (by rw [hrs.out]; exact List.mem_cons_of_mem _ hy)
            omega
      by_cases e2 : v2 = 2
      case pos =>
        subst e2
        clear e0 e1
        have hform := HN2.out.own.form
        have hcapd : N ≤ d0 := by
          obtain ⟨A0, c0, hf1, hf2⟩ := hform
          rw [List.length_map, HRL.out] at hf1 hf2
          injection hf1 with _ _ hf1
          omega
        clear hform
        have hrdn : ∀ W, Chg (fun k => k = mb) w2 W → ∀ A', (1 < N → A' = some ⟨g, 1, none⟩) → Rd (sliceS intS) w1.heap.size W.heap.size W A' (N - 1) (((rs.map (·.2.2)).take N).drop 1) := by
          intro W hcs A' hA'
          have h1 := ((HN2.out.keep hcs (fun k hk e => by
            have h' : some g = some k := hk
            injection h' with h'
            have := HSEPb.out.2.2.1
            omega) (fun r hr e => by
            have := (HSEPb.out.2.2.2 r hr).2
            omega)).rd (by have := HRL.out; omega)).2
          refine h1.sub (i := 1) (j := N) hN1 (Nat.le_refl _) A' (fun b off hb h1N => ?_)
          injection hb with hb
          injection hb with hb1 hb2
          rw [hA' h1N, ← hb1, ← hb2]
          rfl
        have hlr : N - 1 = (((rs.map (·.2.2)).take N).drop 1).length := by simp; have := HRL.out; omega
        have hmr : ∀ q ∈ ((rs.map (·.2.2)).take N).drop 1, q.length ≤ 4 := fun q hq => by
          obtain ⟨y, hy, rfl⟩ := List.mem_map.1 (List.mem_of_mem_take (List.mem_of_mem_drop hq))
          have := HL4.out y hy
          omega
        have hO3 : ∀ W, Chg (fun k => k = mb) w2 W → Rd intS w1.heap.size W.heap.size W (some ⟨gS, 0, none⟩) N xs := fun W hcs =>
          ((HO2.out.flat intS_flat hcs (fun k hk e => by
            have h' : some gS = some k := hk
            injection h' with h'
            have := HSEPb.out.2.1
            omega)).rd (by have := HXL.out; omega)).2
        have FIN := hid fun (u : Value) (A' : Option Addr) (c' : Nat) (hA' : 1 < N → A' = some ⟨g, 1, none⟩) =>
          let hcs : Chg (fun k => k = mb) w2 (w2.setCell ⟨mb, 1, none⟩ u) := (Chg.refl (fun k => k = mb) w2).set (p := ⟨mb, 1, none⟩) rfl u
          fin_model (c := dS) (e0 := c') (hO3 _ hcs) (hrdn _ hcs A' hA') (by omega) (HR2.out.chg hcs (fun k hk e => by omega)) (chgN HC2.out hcs (fun k e => .inr (by omega))) (by omega) ((hcs.block w.heap.size (by omega) (by omega)).trans HRES2.out) rfl
        have HLR := hid hlr
        have HMR := hid hmr
        clear hrdn hlr hmr hO3
        by_cases hd1 : d0 = 1
        case pos =>
          subst hd1
          go_wp2_with fail
          have hF := FIN.out (.slice (some ⟨g, 0, none⟩) 0 0) (some ⟨g, 0, none⟩) 0 (fun h => by omega)
          rw [show N - 1 = 0 by omega] at hF
          have HF := hid hF.2.2
          have k0 := hF.1
          have k1 := hF.2.1
          clear hF
          refine bodyPost_ret (v := .agg #[.slice (some ⟨gS, 0, none⟩) N dS, .slice (some ⟨g, 0, none⟩) 0 0]) (by simp [results, Try.results66, go_sem, k0, k1]) rfl ?_
          exact ⟨_, _, dS, xs, _, _, 0, _, p' + 1, rfl, HF.out.1, HF.out.2.1, by omega, by omega, by omega, HMR.out, by omega, HF.out.2.2.1, HF.out.2.2.2⟩
        case neg =>
          go_wp2_with fail
          have hF := FIN.out (.slice (some ⟨g, 1, none⟩) (N - 1) (d0 - 1)) (some ⟨g, 1, none⟩) (d0 - 1) (fun h => rfl)
          have HF := hid hF.2.2
          have k0 := hF.1
          have k1 := hF.2.1
          clear hF
          refine bodyPost_ret (v := .agg #[.slice (some ⟨gS, 0, none⟩) N dS, .slice (some ⟨g, 1, none⟩) (N - 1) (d0 - 1)]) (by simp [results, Try.results66, go_sem, k0, k1]) rfl ?_
          exact ⟨_, _, dS, xs, _, _, d0 - 1, _, p' + 1, rfl, HF.out.1, HF.out.2.1, by omega, by omega, by omega, HMR.out, by omega, HF.out.2.2.1, HF.out.2.2.2⟩
      have e0i : (v2 == 0) = false := by rw [beq_eq_false_iff_ne]; exact e0
      have e1i : (v2 == 1) = false := by rw [beq_eq_false_iff_ne]; exact e1
      have e2i : (v2 == 2) = false := by rw [beq_eq_false_iff_ne]; exact e2
      clear e0 e1 e2
      go_wp2_with fail
      have hF := fin_model (c := dS) (e0 := d0) (HO2.out.rd (by have := HXL.out; omega)).2 (HN2.out.rd (by have := HRL.out; omega)).2 (by omega) HR2.out HC2.out (by omega) HRES2.out rfl
      have HF := hid hF.2.2
      have k0 := hF.1
      have k1 := hF.2.1
      clear hF
      refine bodyPost_ret (v := .agg #[.slice (some ⟨gS, 0, none⟩) N dS, .slice (some ⟨g, 0, none⟩) N d0]) (by simp [results, Try.results66, go_sem, k0, k1]) rfl ?_
      exact ⟨_, _, dS, xs, _, _, d0, rs.map (·.2.2), p' + 1, rfl, HF.out.1, HF.out.2.1, by omega, by omega, by omega, (fun q hq => by
        obtain ⟨y, hy, rfl⟩ := List.mem_map.1 hq
        have := HL4.out y hy
        omega), by omega, HF.out.2.2.1, HF.out.2.2.2⟩
    case pos =>
      have hai : (ai : Int) < (N : Int) := by omega
      go_wp2_with fail
      refine wp_region_invH (by kernel_rfl) (by kernel_rfl) (fun L a X => ∃ v19 v20 v21 v22 v23 v24 v25 v26 v27 v28 : Value, ∃ (q : Nat), a = { tmps := #[.pointer (some ⟨rb, 0, none⟩), undef, .pointer (some ⟨w.heap.size, 0, none⟩), .int .i64 N, .pointer (some ⟨mb, 0, none⟩), .int .i64 ai, u6, u7, .pointer (some ⟨rb, 0, none⟩), .int .i64 v, .int .i64 N, .slice (some ⟨w1.heap.size, 0, none⟩) 0 0, .slice (some ⟨w1.heap.size + 1, 0, none⟩) 0 0, .agg #[.slice (some ⟨w1.heap.size, 0, none⟩) 0 0, .slice (some ⟨w1.heap.size + 1, 0, none⟩) 0 0], .int .i64 ai, .int .i64 N, .bool true, u17, u18, v19, v20, v21, v22, v23, v24, v25, v26, v27, v28, u29, u30, u31, u32, u33, u34, u35, u36, u37, u38, u39, u40, u41, u42, u43, u44, u45, u46, u47, u48, undef, undef, undef, undef, undef, undef, undef, undef, undef, undef, undef, undef, undef, undef, undef, undef, undef, undef, undef, undef, undef, undef, undef, undef, undef, undef, undef, undef, undef], defers := [] } ∧
        (Rdr rb X q) ∧ ((L 4 = false → q = p') ∧ q ≤ p' + 1) ∧ (Chg (fun k => k = rb ∨ k = gS ∨ k = mb) wr X) ∧ (L 8 = false → OwnR intS w1.heap.size X 3 (.slice (some ⟨gS, 0, none⟩) xs.length dS) xs) ∧ (L 10 = false → X.heap[mb]? = some (.cells #[.slice (some ⟨gS, 0, none⟩) xs.length dS, .slice (some ⟨g, 0, none⟩) rs.length d0] 26 (0, 0))) ∧ (L 1 = false → L 8 = false) ∧ (L 8 = false → L 10 = false) ∧ (L 0 = true → v19 = .pointer (some ⟨mb, 0, none⟩)) ∧ (L 1 = true → v20 = .slice (some ⟨gS, 0, none⟩) xs.length dS) ∧ (L 2 = true → ∃ b, v21 = .slice (some ⟨b, 0, none⟩) 4 4 ∧ Lit X wr.heap.size b #[.int .i64 0, .int .i64 1, .int .i64 2, .int .i64 5]) ∧ (L 3 = true → v22 = .pointer (some ⟨rb, 0, none⟩)) ∧ (L 4 = true → ∃ z : Nat, v23 = .int .i64 z ∧ z < 4) ∧ (L 5 = true → ∃ b z, v24 = .pointer (some ⟨b, z, none⟩) ∧ z < 4 ∧ Lit X wr.heap.size b #[.int .i64 0, .int .i64 1, .int .i64 2, .int .i64 5]) ∧ (L 6 = true → ∃ x : Int, v25 = .int .i64 x) ∧ (L 7 = true → ∃ (b : Nat) (x : Int), v26 = .slice (some ⟨b, 0, none⟩) 1 1 ∧ Lit X wr.heap.size b #[.int .i64 x]) ∧ (L 8 = true → ∃ (x : Int) (g' d' : Nat), v27 = .slice (some ⟨g', 0, none⟩) (xs.length + 1) d' ∧ OwnR intS w1.heap.size X 3 (.slice (some ⟨g', 0, none⟩) (xs.length + 1) d') (xs ++ [x]) ∧ (g' = gS ∨ wr.heap.size ≤ g')) ∧ (L 9 = true → v28 = .pointer (some ⟨mb, 0, none⟩)) ∧ (L 10 = true → X.heap[mb]? = some (.cells #[v27, .slice (some ⟨g, 0, none⟩) rs.length d0] 26 (0, 0)))) ?_ ⟨?_, ?_, ?_, ?_, ?_, ?_, ?_, ?_, ?_, ?_, ?_, trivial⟩ ?_
      · exact ⟨_, _, _, _, _, _, _, _, _, _, p', rfl, HR.out.keep (Below.refl _ _).drew, ⟨fun _ => rfl, by omega⟩, (Chg.refl _ _).drew, fun _ => HO.out.flat intS_flat (Chg.refl (fun _ => False) wr).drew (fun _ _ h => h), fun _ => HMb.out, fun _ => rfl, fun _ => rfl, fun h => (by cases h), fun h => (by cases h), fun h => (by cases h), fun h => (by cases h), fun h => (by cases h), fun h => (by cases h), fun h => (by cases h), fun h => (by cases h), fun h => (by cases h), fun h => (by cases h), fun h => (by cases h)⟩
      · rintro L a X K0 ⟨v19, v20, v21, v22, v23, v24, v25, v26, v27, v28, q, rfl, hR, hq, hC, hO, hM, o1, o2, f0, f1, f2, f3, f4, f5, f6, f7, f8, f9, f10⟩ hL hd hK
        clear hd
        refine ⟨rfl, ?_⟩
        go_simp
        exact hK _ _ ⟨_, _, _, _, _, _, _, _, _, _, q, rfl, hR, hq, hC, hO, hM, o1, o2, fun _ => rfl, f1, f2, f3, f4, f5, f6, f7, f8, f9, f10⟩
      · rintro L a X K0 ⟨v19, v20, v21, v22, v23, v24, v25, v26, v27, v28, q, rfl, hR, hq, hC, hO, hM, o1, o2, f0, f1, f2, f3, f4, f5, f6, f7, f8, f9, f10⟩ hL hd hK
        have d0 := hd ⟨0, .data⟩ (by simp) rfl
        obtain rfl := f0 d0
        obtain ⟨q0, _, _, _⟩ := at_get (hM (o2 (o1 hL)))
        clear hd
        refine ⟨rfl, ?_⟩
        go_simp
        exact hK _ _ ⟨_, _, _, _, _, _, _, _, _, _, q, rfl, hR, hq, hC, hO, hM, fun h => (by cases h), o2, f0, fun _ => rfl, f2, f3, f4, f5, f6, f7, f8, f9, f10⟩
      · rintro L a X K0 ⟨v19, v20, v21, v22, v23, v24, v25, v26, v27, v28, q, rfl, hR, hq, hC, hO, hM, o1, o2, f0, f1, f2, f3, f4, f5, f6, f7, f8, f9, f10⟩ hL hd hK
        have hmx : mb < X.heap.size := Nat.lt_of_lt_of_le hmb hC.size
        have hc := chgE X (.cells #[.int .i64 0, .int .i64 1, .int .i64 2, .int .i64 5] 3)
        clear hd
        refine ⟨rfl, ?_⟩
        go_simp
        exact hK _ _ ⟨_, _, _, _, _, _, _, _, _, _, q, rfl, hR.chg hc (fun _ _ h => h), hq, hC.trans (hc.wide (fun _ h => h.elim)), fun h => (hO h).flat intS_flat hc (fun _ _ h => h), fun h => (hc.block mb hmx (fun h => h)).trans (hM h), o1, o2, f0, f1, fun _ => ⟨_, rfl, Lit.new _ hC.size⟩, f3, f4, fun h => (by obtain ⟨b, z, e, h2, l⟩ := f5 h; exact ⟨b, z, e, h2, l.chg hc (fun _ h => h.elim)⟩), f6, fun h => (by obtain ⟨b, x, e, l⟩ := f7 h; exact ⟨b, x, e, l.chg hc (fun _ h => h.elim)⟩), fun h => (by obtain ⟨x, g', d', e, l, h2⟩ := f8 h; exact ⟨x, g', d', e, l.flat intS_flat hc (fun _ _ h => h), h2⟩), f9, fun h => (hc.block mb hmx (fun h => h)).trans (f10 h)⟩
      · rintro L a X K0 ⟨v19, v20, v21, v22, v23, v24, v25, v26, v27, v28, q, rfl, hR, hq, hC, hO, hM, o1, o2, f0, f1, f2, f3, f4, f5, f6, f7, f8, f9, f10⟩ hL hd hK
        clear hd
        refine ⟨rfl, ?_⟩
        go_simp
        exact hK _ _ ⟨_, _, _, _, _, _, _, _, _, _, q, rfl, hR, hq, hC, hO, hM, o1, o2, f0, f1, f2, fun _ => rfl, f4, f5, f6, f7, f8, f9, f10⟩
      · rintro L a X K0 ⟨v19, v20, v21, v22, v23, v24, v25, v26, v27, v28, q, rfl, hR, hq, hC, hO, hM, o1, o2, f0, f1, f2, f3, f4, f5, f6, f7, f8, f9, f10⟩ hL hd hK
        have d3 := hd ⟨3, .data⟩ (by simp) rfl
        obtain rfl := f3 d3
        have hmx : mb < X.heap.size := Nat.lt_of_lt_of_le hmb hC.size
        clear hd
        refine ⟨rfl, ?_⟩
        go_simp
        refine (pick_any rb X q 4 hR (by omega) (by omega) (by omega)).mono ?_
        rintro e X2 ⟨z, rfl, z0, z1, hr2, hc⟩
        obtain ⟨z, rfl⟩ := Int.eq_ofNat_of_zero_le z0
        exact hK _ _ ⟨_, _, _, _, _, _, _, _, _, _, q + 1, rfl, hr2, ⟨fun h => (by cases h), by have := hq.1 hL; omega⟩, hC.trans (hc.wide (fun k h => .inl h)), fun h => (hO h).flat intS_flat hc (fun k hk e => by have hk1 := OwnR.own_lt (by first | exact hO h | exact l) hk; have := hk1.1; omega), fun h => (hc.block mb hmx (fun e => by have := HMBE.out; omega)).trans (hM h), o1, o2, f0, f1, fun h => (by obtain ⟨b, e, l⟩ := f2 h; exact ⟨b, e, l.chg hc (fun k e => by omega)⟩), f3, fun _ => ⟨z, rfl, by have := z1 (by omega); omega⟩, fun h => (by obtain ⟨b, z, e, h2, l⟩ := f5 h; exact ⟨b, z, e, h2, l.chg hc (fun k e => by omega)⟩), f6, fun h => (by obtain ⟨b, x, e, l⟩ := f7 h; exact ⟨b, x, e, l.chg hc (fun k e => by omega)⟩), fun h => (by obtain ⟨x, g', d', e, l, h2⟩ := f8 h; exact ⟨x, g', d', e, l.flat intS_flat hc (fun k hk e => by have hk1 := OwnR.own_lt (by first | exact hO h | exact l) hk; have := hk1.1; omega), h2⟩), f9, fun h => (hc.block mb hmx (fun e => by have := HMBE.out; omega)).trans (f10 h)⟩
      · rintro L a X K0 ⟨v19, v20, v21, v22, v23, v24, v25, v26, v27, v28, q, rfl, hR, hq, hC, hO, hM, o1, o2, f0, f1, f2, f3, f4, f5, f6, f7, f8, f9, f10⟩ hL hd hK
        have d2 := hd ⟨2, .data⟩ (by simp) rfl
        obtain ⟨b, rfl, l2⟩ := f2 d2
        have d4 := hd ⟨4, .data⟩ (by simp) rfl
        obtain ⟨z, rfl, hz⟩ := f4 d4
        have hzi : (z : Int) < 4 := by omega
        clear hd
        refine ⟨rfl, ?_⟩
        go_simp
        exact hK _ _ ⟨_, _, _, _, _, _, _, _, _, _, q, rfl, hR, hq, hC, hO, hM, o1, o2, f0, f1, fun _ => ⟨b, rfl, l2⟩, f3, fun _ => ⟨z, rfl, hz⟩, fun _ => ⟨b, z, rfl, hz, l2⟩, f6, f7, f8, f9, f10⟩
      · rintro L a X K0 ⟨v19, v20, v21, v22, v23, v24, v25, v26, v27, v28, q, rfl, hR, hq, hC, hO, hM, o1, o2, f0, f1, f2, f3, f4, f5, f6, f7, f8, f9, f10⟩ hL hd hK
        have d5 := hd ⟨5, .data⟩ (by simp) rfl
        obtain ⟨b, z, rfl, hz, l5⟩ := f5 d5
        obtain ⟨x, hx⟩ := lit4 l5 hz
        clear hd
        refine ⟨rfl, ?_⟩
        go_simp
        exact hK _ _ ⟨_, _, _, _, _, _, _, _, _, _, q, rfl, hR, hq, hC, hO, hM, o1, o2, f0, f1, f2, f3, f4, fun _ => ⟨b, z, rfl, hz, l5⟩, fun _ => ⟨x, rfl⟩, f7, f8, f9, f10⟩
      · rintro L a X K0 ⟨v19, v20, v21, v22, v23, v24, v25, v26, v27, v28, q, rfl, hR, hq, hC, hO, hM, o1, o2, f0, f1, f2, f3, f4, f5, f6, f7, f8, f9, f10⟩ hL hd hK
        have d6 := hd ⟨6, .data⟩ (by simp) rfl
        obtain ⟨x, rfl⟩ := f6 d6
        have hmx : mb < X.heap.size := Nat.lt_of_lt_of_le hmb hC.size
        have hc := chgE X (.cells #[.int .i64 x] 3)
        clear hd
        refine ⟨rfl, ?_⟩
        go_simp
        exact hK _ _ ⟨_, _, _, _, _, _, _, _, _, _, q, rfl, hR.chg hc (fun _ _ h => h), hq, hC.trans (hc.wide (fun _ h => h.elim)), fun h => (hO h).flat intS_flat hc (fun _ _ h => h), fun h => (hc.block mb hmx (fun h => h)).trans (hM h), o1, o2, f0, f1, fun h => (by obtain ⟨b, e, l⟩ := f2 h; exact ⟨b, e, l.chg hc (fun _ h => h.elim)⟩), f3, f4, fun h => (by obtain ⟨b, z, e, h2, l⟩ := f5 h; exact ⟨b, z, e, h2, l.chg hc (fun _ h => h.elim)⟩), fun _ => ⟨x, rfl⟩, fun _ => ⟨_, x, rfl, Lit.new _ hC.size⟩, fun h => (by obtain ⟨x, g', d', e, l, h2⟩ := f8 h; exact ⟨x, g', d', e, l.flat intS_flat hc (fun _ _ h => h), h2⟩), f9, fun h => (hc.block mb hmx (fun h => h)).trans (f10 h)⟩
      · rintro L a X K0 ⟨v19, v20, v21, v22, v23, v24, v25, v26, v27, v28, q, rfl, hR, hq, hC, hO, hM, o1, o2, f0, f1, f2, f3, f4, f5, f6, f7, f8, f9, f10⟩ hL hd hK
        have d1 := hd ⟨1, .data⟩ (by simp) rfl
        obtain rfl := f1 d1
        have d7 := hd ⟨7, .data⟩ (by simp) rfl
        obtain ⟨b, x, rfl, l7⟩ := f7 d7
        have hmx : mb < X.heap.size := Nat.lt_of_lt_of_le hmb hC.size
        have hXs := hC.size
        clear hd
        refine ⟨rfl, ?_⟩
        refine wp_append_R2 (.tmp 20) (.tmp 26) _ rfl intS Try.underlying23 HI0.out rfl (by decide) (v := .slice (some ⟨gS, 0, none⟩) xs.length dS) rfl (hO hL) (y := x) rfl l7.2 rfl (by simp [Value.oneCell']) rfl (by omega) (by omega) (by omega) ?_
        intro A' c' X2 hO2 hc0 hv
        obtain ⟨g2, rfl, _⟩ := hO2.blk (by omega)
        have hc : Chg (fun k => k = gS) X X2 := hc0.wide (fun k h => by have h' : some gS = some k := h; injection h' with h'; exact h'.symm)
        have hg2 : g2 = gS ∨ wr.heap.size ≤ g2 := hv.elim (fun e => .inl (by have e2 : some g2 = some gS := e; injection e2)) (fun e => .inr (by have e2 : some g2 = some X.heap.size := e; injection e2 with e2; omega))
        exact hK _ _ ⟨_, _, _, _, _, _, _, _, _, _, q, rfl, hR.chg hc (fun k hk e => by omega), hq, hC.trans (hc.wide (fun k h => .inr (.inl h))), fun h => (by cases h), fun h => (hc.block mb hmx (fun e => HSEPb.out.2.1 e.symm)).trans (hM h), fun h => absurd (d1.symm.trans h) (by decide), fun h => (by cases h), f0, f1, fun h => (by obtain ⟨b, e, l⟩ := f2 h; exact ⟨b, e, l.chg hc (fun k e => by omega)⟩), f3, f4, fun h => (by obtain ⟨b, z, e, h2, l⟩ := f5 h; exact ⟨b, z, e, h2, l.chg hc (fun k e => by omega)⟩), f6, fun _ => ⟨b, x, rfl, l7.chg hc (fun k e => by omega)⟩, fun _ => ⟨x, g2, c', rfl, hO2, hg2⟩, f9, fun h => absurd ((o2 hL).symm.trans h) (by decide)⟩
      · rintro L a X K0 ⟨v19, v20, v21, v22, v23, v24, v25, v26, v27, v28, q, rfl, hR, hq, hC, hO, hM, o1, o2, f0, f1, f2, f3, f4, f5, f6, f7, f8, f9, f10⟩ hL hd hK
        clear hd
        refine ⟨rfl, ?_⟩
        go_simp
        exact hK _ _ ⟨_, _, _, _, _, _, _, _, _, _, q, rfl, hR, hq, hC, hO, hM, o1, o2, f0, f1, f2, f3, f4, f5, f6, f7, f8, fun _ => rfl, f10⟩
      · rintro L a X K0 ⟨v19, v20, v21, v22, v23, v24, v25, v26, v27, v28, q, rfl, hR, hq, hC, hO, hM, o1, o2, f0, f1, f2, f3, f4, f5, f6, f7, f8, f9, f10⟩ hL hd hK
        have d8 := hd ⟨8, .data⟩ (by simp) rfl
        obtain ⟨x, g', d', rfl, l8, h8⟩ := f8 d8
        have d9 := hd ⟨9, .data⟩ (by simp) rfl
        obtain rfl := f9 d9
        have hmx : mb < X.heap.size := Nat.lt_of_lt_of_le hmb hC.size
        have hMx := hM hL
        obtain ⟨q0, _, q2, _⟩ := at_get hMx
        have hc := (Chg.refl (fun k => k = mb) X).set (p := ⟨mb, 0, none⟩) rfl (.slice (some ⟨g', 0, none⟩) (xs.length + 1) d')
        clear hd
        refine ⟨rfl, ?_⟩
        go_simp
        exact hK _ _ ⟨_, _, _, _, _, _, _, _, _, _, q, rfl, hR.chg hc (fun k hk e => by have := HMBE.out; omega), hq, hC.trans (hc.wide (fun k h => .inr (.inr h))), fun h => absurd (d8.symm.trans h) (by decide), fun h => (by cases h), o1, fun h => absurd (d8.symm.trans h) (by decide), f0, f1, fun h => (by obtain ⟨b, e, l⟩ := f2 h; exact ⟨b, e, l.chg hc (fun k e => by omega)⟩), f3, f4, fun h => (by obtain ⟨b, z, e, h2, l⟩ := f5 h; exact ⟨b, z, e, h2, l.chg hc (fun k e => by omega)⟩), f6, fun h => (by obtain ⟨b, x, e, l⟩ := f7 h; exact ⟨b, x, e, l.chg hc (fun k e => by omega)⟩), fun _ => ⟨x, g', d', rfl, l8.flat intS_flat hc (fun k hk e => by have h' : some g' = some k := hk; injection h' with h'; have := HSEPb.out.2.1; have := HMBE.out; omega), h8⟩, f9, fun _ => at_set0 hMx⟩
      · rintro L a X hLL ⟨v19, v20, v21, v22, v23, v24, v25, v26, v27, v28, q, rfl, hR, hq, hC, hO, hM, o1, o2, f0, f1, f2, f3, f4, f5, f6, f7, f8, f9, f10⟩
        obtain ⟨x, g', d', rfl, l8, h8⟩ := f8 (hLL 8 (by simp))
        have hMX := f10 (hLL 10 (by simp))
        clear f0 f1 f2 f3 f4 f5 f6 f7 f8 f9 f10 o1 o2 hO hM hLL
        obtain ⟨wo, hwo⟩ : ∃ x : World, x = wr := ⟨_, rfl⟩
        subst hwo
        obtain ⟨gko, hgo⟩ : ∃ x : Nat, x = gk := ⟨_, rfl⟩
        subst hgo
        have hXs := hC.size
        have hrx := hR.lt
        have hsep : g' ≠ g ∧ g' ≠ mb ∧ g ≠ mb ∧ ∀ r ∈ rs, r.1 ≠ g' ∧ r.1 ≠ mb := by
          obtain ⟨s1, s2, s3, s4⟩ := HSEPb.out
          refine ⟨?_, ?_, s3, fun r hr => ⟨?_, (s4 r hr).2⟩⟩
          · rcases h8 with e | e
            · rw [e]; exact s1
            · omega
          · rcases h8 with e | e
            · rw [e]; exact s2
            · omega
          · have h9 := (HN.out.row r hr).2.2.2.lt
            rcases h8 with e | e
            · rw [e]; exact (s4 r hr).1
            · omega
        have hNX : NestR w1.heap.size X.heap.size X 23 3 (.slice (some ⟨g, 0, none⟩) rs.length d0) rs := (HN.out.keep hC (fun k hk e => by
            have h' : some g = some k := hk
            injection h' with h'
            obtain ⟨s1, s2, s3, s4⟩ := HSEPb.out
            omega) (fun r hr e => by
            obtain ⟨s1, s2, s3, s4⟩ := HSEPb.out
            have h5 := s4 r hr
            have h6 := (HN.out.row r hr).1
            omega)).wide hXs
        have hCX := chgN HC.out hC (fun k e => by have := HMBE.out; omega)
        have hRX := HR
        clear HO HN HR HC HMb HSEPb hRX mc0 mc1 mf0 mf1
        have HSX := hid hsep
        have HNX := hid hNX
        have HCX := hid hCX
        have HOX := hid l8
        have HMX := hid hMX
        have HRX := hid hR
        have hq1 := hq.2
        have hmx : mb < X.heap.size := by omega
        have hgx : g' < X.heap.size := (l8.own_lt (k := g') rfl).2
        have hgx2 : w1.heap.size ≤ g' := (l8.own_lt (k := g') rfl).1
        have ON0 := hid (OwnR.nil (S := intS) (base := X.heap.size) (e := 3) (Nat.le_refl X.heap.size) #[] rfl)
        have HRA0 := hid (hR.keep ((bnew X (.cells #[] 3)).mono hrx))
        clear hsep hNX hCX l8 hMX hR hq h8 hC
        go_wp2_with fail
        go_loopg [6, 7] N (fun gk row i wr => ∃ (j : Nat) (ys : List Int) (g2 d2 q2 : Nat), j + gk = N ∧ i = .int .i64 j ∧ row = .slice (some ⟨g2, 0, none⟩) ys.length d2 ∧ ys.length = j ∧ OwnR intS X.heap.size wr 3 (.slice (some ⟨g2, 0, none⟩) ys.length d2) ys ∧ q2 ≤ q + j ∧ Rdr rb wr q2 ∧ Chg (fun k => k = rb) X wr)
        case atStart => exact ⟨0, [], _, _, q, Nat.zero_add _, rfl, rfl, rfl, ON0.out, by omega, HRA0.out, chg_new _ _ _⟩
        case round =>
          clear ON0 HRA0
          obtain ⟨j, ys, g2, d2, q2, hjg, rfl, rfl, hyl, hO, hq2, hR2, hC2⟩ := hrel
          have HJG := hid hjg
          have HYL := hid hyl
          have HO := hid hO
          have HR2 := hid hR2
          have HC2 := hid hC2
          have hwz2 := hC2.size
          have hj : j ≤ N := by omega
          have hyl8 : ys.length ≤ 8 := by omega
          clear hjg hO hR2 hC2 hyl
          by_cases hjn : j < N
          case neg =>
            obtain rfl : N = j := by omega
            have hy0 : 0 < ys.length := by have := HYL.out; omega
            have hra := (HO.out.rowAt (by omega)).2
            have HRA := hid hra.1
            have hg2 := hra.2
            have HMW := hid ((HC2.out.block mb hmx (by have := HMBE.out; omega)).trans HMX.out)
            obtain ⟨mc0, mc1, _, _⟩ := at_get HMW.out
            clear hra
            go_wp2_with (at_builtin; refine wpList_append_rowV rfl (.tmp 44) (.tmp 46) _ rfl Try.underlying24 HJ.out (v := .slice (some ⟨g, 0, none⟩) rs.length d0) rfl rfl ((HNX.out.keep HC2.out (fun k hk e => by have := (HNX.out.own.own_lt hk).1; omega) (fun r hr e => by have := (HNX.out.row r hr).1; omega)).al _) (r := (g2, d2, ys)) rfl rfl (heap_alloc_new _ _) (HRA.out.al _) (by omega) (HNX.out.fresh hg2).1 (HNX.out.fresh hg2).2 (by omega) (by simp; omega) (by simp; omega) ?_; intro A3 c3 w3 hN3 hc3 hg3; obtain ⟨g3, rfl, hg3⟩ := hg3; have hc4 : Chg (fun k => k = g) wr w3 := (chg_new wr _ _).trans (hc3.wide (fun k h => by have h' : some g = some k := h; injection h' with h'; exact h'.symm)); have hM3 := (hc4.block mb (by omega) (fun e => HSX.out.2.2.1 e.symm)).trans HMW.out; obtain ⟨mc2, mc3, mf2, mf3⟩ := at_get hM3; have HM3 := hid hM3; have HN3 := hid hN3; have HC4 := hid hc4; clear hM3 hN3 hc4 hc3)
            have hg3m : g3 ≠ mb := by
              rcases hg3 with e | e
              · have e2 : some g = some g3 := e
                injection e2 with e2
                have := HSX.out.2.2.1
                omega
              · rw [World.size_alloc] at e
                omega
            have hg3g : g3 ≠ g' := by
              rcases hg3 with e | e
              · have e2 : some g = some g3 := e
                injection e2 with e2
                have := HSX.out.1
                omega
              · rw [World.size_alloc] at e
                omega
            have hcs := (Chg.refl (fun k => k = mb) w3).set (p := ⟨mb, 1, none⟩) rfl (.slice (some ⟨g3, 0, none⟩) (rs.length + 1) c3)
            have hrb : rb < w1.heap.size := by omega
            go_roundg (gko - 1)
            case measure => have := HKG.out; omega
            case rel =>
              refine ⟨ai + 1, xs ++ [x], rs ++ [(g2, d2, ys)], g', d', g3, c3, q2, by have := HKG.out; omega, by go_num, by rw [List.length_append, HXL.out]; rfl, by rw [List.length_append, HRL.out]; rfl, ?_, ?_, ?_, ⟨fun e => hg3g e.symm, by have := HMBE.out; have := HSX.out.2.1; omega, by have := HMBE.out; omega, fun r hr => ?_⟩, fun r hr => ?_, by omega, ?_, ?_⟩
              · rw [List.length_append]
                refine ((HOX.out.flat intS_flat HC2.out (fun k hk e => by have h' : some g' = some k := hk; injection h' with h'; omega)).flat intS_flat HC4.out (fun k hk e => by have h' : some g' = some k := hk; injection h' with h'; have := HSX.out.1; omega)).flat intS_flat hcs (fun k hk e => by have h' : some g' = some k := hk; injection h' with h'; have := HSX.out.2.1; omega)
              · rw [List.length_append]
                exact (HN3.out.keep hcs (fun k hk e => by have h' : some g3 = some k := hk; injection h' with h'; omega) (fun r hr e => by
                  rcases List.mem_append.1 hr with hr | hr
                  · exact (HSX.out.2.2.2 r hr).2 e
                  · rw [List.mem_singleton] at hr; subst hr; have e' : g2 = mb := e; omega)).wide (by simp)
              · rw [List.length_append, List.length_append]
                exact at_set1 HM3.out
              · rcases List.mem_append.1 hr with hr | hr
                · exact HSX.out.2.2.2 r hr
                · rw [List.mem_singleton] at hr; subst hr; exact ⟨by show g2 ≠ g'; omega, by show g2 ≠ mb; omega⟩
              · rcases List.mem_append.1 hr with hr | hr
                · exact HL4.out r hr
                · rw [List.mem_singleton] at hr; subst hr; exact HYL.out
              · exact (HR2.out.chg HC4.out (fun k hk e => by omega)).chg hcs (fun k hk e => by have := HMBE.out; omega)
              · exact chgN (chgN (chgN HCX.out HC2.out (fun k e => .inl e)) HC4.out (fun k e => .inr (by omega))) hcs (fun k e => .inr (by have := HMBE.out; omega))
          case pos =>
            have hji : (j : Int) < (N : Int) := by omega
            have HRa := hid (HR2.out.keep ((bnew wr (.cells #[.int .i64 0, .int .i64 1, .int .i64 3, .int .i64 2, .int .i64 0, .int .i64 7] 3)).mono HR2.out.lt))
            have hn6 := heap_alloc_new wr (.cells #[.int .i64 0, .int .i64 1, .int .i64 3, .int .i64 2, .int .i64 0, .int .i64 7] 3)
            have HN6 := hid hn6
            clear hn6
            go_wp2_with fail
            refine (pick_any rb _ q2 6 HRa.out (by omega) (by omega) (by omega)).mono ?_
            rintro e w2 ⟨z, rfl, hz0, hz1, hr3, hc3⟩
            obtain ⟨z, rfl⟩ := Int.eq_ofNat_of_zero_le hz0
            have hz2 := hz1 (by omega)
            have hz6 : z < 6 := by omega
            have hs3 := hc3.size
            rw [World.size_alloc] at hs3
            obtain ⟨y, hy⟩ := lit6 ((hc3.block wr.heap.size (by simp) (by omega)).trans HN6.out) hz6
            have HO3 := hid ((HO.out.al _).pk hc3 hrx)
            have HR3 := hid hr3
            have HC3 := hid ((HC2.out.trans (chg_new _ _ _)).trans hc3)
            clear hr3 hc3 hz1 hz0
            go_wp2_with (at_builtin; refine wpList_append_R rfl (.tmp 35) (.tmp 41) _ rfl intS Try.underlying23 HI0.out rfl (by decide) rfl (HO3.out.al _) (y := y) rfl (heap_alloc_new _ _) rfl (by simp [Value.oneCell']) rfl (by omega) (by omega) (by simp; omega) ?_; intro A2 c2 w6 hO4 hb4)
            obtain ⟨g4, rfl, _⟩ := hO4.blk (by omega)
            have HO4 := hid hO4
            have hb5 : Below X.heap.size w2 w6 := ((bnew _ _).mono (by omega)).trans hb4
            have HC5 := hid (chgB HC3.out hb5 (Nat.le_refl _))
            have HR5 := hid (HR3.out.keep (hb5.mono (by omega)))
            clear hO4 hb4 hb5
            go_roundg (gk - 1)
            case measure => have := HJG.out; omega
            case rel => exact ⟨j + 1, ys ++ [y], g4, c2, q2 + 1, by have := HJG.out; omega, by go_num, by rw [List.length_append]; rfl, by rw [List.length_append, HYL.out]; rfl, by rw [List.length_append]; exact HO4.out, by omega, HR5.out, HC5.out⟩
end Go.Proofs.Ytfjoininagdlcaa
