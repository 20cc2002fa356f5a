/- The iterator over all readings of a page: what it promises. -/
import Derived.Test.YtfjoininagdlcaaReadList
import Derived.Test.YtfjoininagdlcaaRangeChg
import Derived.Test.YtfjoininagdlcaaRegInv
import Derived.Test.YtfjoininagdlcaaNest
namespace Go.Proofs.Ytfjoininagdlcaa
open Go.RowKit Go.Shelf
attribute [local go_sem] Oper.semAt_some
/-- The block's first cells are the words of a list. -/
def PreAt (W : World) (b q : Nat) (pre : List Int) : Prop :=
  ∃ cur : Array Value, W.heap[b]? = some (.cells cur 3 (0, 0)) ∧ cur.size = q ∧ pre.length ≤ q ∧ ∀ j, j < pre.length → cur[j]? = some (.int .i64 (gt pre j))
theorem PreAt.lt {W : World} {b q : Nat} {pre : List Int} (h : PreAt W b q pre) : b < W.heap.size := by
  obtain ⟨cur, h1, _⟩ := h
  exact (Array.getElem?_eq_some_iff.1 h1).1
theorem PreAt.kept {W W' : World} {b q : Nat} {pre : List Int} (h : PreAt W b q pre) (hb : W'.heap[b]? = W.heap[b]?) : PreAt W' b q pre := by
  obtain ⟨cur, h1, h2⟩ := h
  exact ⟨cur, hb.trans h1, h2⟩
theorem PreAt.rd {W : World} {b q : Nat} {pre : List Int} (h : PreAt W b q pre) (hq : q ≤ 9223372036854775807) : Rd intS 0 W.heap.size W (some ⟨b, 0, none⟩) pre.length pre := by
  have hlt := h.lt
  obtain ⟨cur, h1, h2, h3, h4⟩ := h
  refine ⟨rfl, by omega, fun _ => ⟨b, 0, rfl, Nat.zero_le _, hlt, fun k hk => ⟨fun _ => .int .i64 (gt pre k), fun j hj => ?_, rfl⟩⟩⟩
  have hj' : j < 1 := hj
  obtain rfl : j = 0 := by omega
  have hs : 0 + k * intS.sz + 0 = k := by show 0 + k * 1 + 0 = k; omega
  rw [hs, cell_of_row W _ _ cur 3 (0, 0) h1]
  exact h4 k hk
theorem PreAt.snoc {W : World} {b q : Nat} {pre : List Int} (h : PreAt W b q pre) (hq : pre.length < q) (x : Int) : PreAt (W.setCell ⟨b, pre.length, none⟩ (.int .i64 x)) b q (pre ++ [x]) := by
  obtain ⟨cur, h1, h2, h3, h4⟩ := h
  refine ⟨_, heap_setCell_same W b pre.length cur 3 _ h1, by simpa using h2, by simp; omega, fun j hj => ?_⟩
  rw [Array.getElem?_setIfInBounds]
  by_cases e : pre.length = j
  · subst e
    rw [if_pos rfl, if_pos (by omega), gt_last]
  · have hj' : j < pre.length := by simp at hj; omega
    rw [if_neg e, h4 j hj', gt_append hj']
theorem PreAt.short {W : World} {b q : Nat} {pre : List Int} {x : Int} (h : PreAt W b q (pre ++ [x])) : PreAt W b q pre := by
  obtain ⟨cur, h1, h2, h3, h4⟩ := h
  simp at h3
  exact ⟨cur, h1, h2, by omega, fun j hj => by rw [h4 j (by simp; omega), gt_append hj]⟩
theorem chg_cell {D : Nat → Prop} {w w' : World} {k o : Nat} {v : Value} (hc : Chg D w w') (hk : ¬ D k) (h : w.cell? ⟨k, o, none⟩ = some v) : w'.cell? ⟨k, o, none⟩ = some v :=
  (World.cell?_of_block (hc.block k (block_lt_of_cell h) hk)).trans h
/-- One word more, within the block. -/
theorem wp_append_pre {P : Program} {o : Oper} {a : Act} {w : World} {K : Act → World → Prop} {Q : Exit → Act → World → Prop} (s x : Operand) (t : TypeId)
    (ho : o.op = .call { callee := .builtin .append, args := #[s, x], argTypes := #[t, t] }) {i : TypeInfo} (ht : P.underlying t = some (.slice 3)) (hi : P.info? 3 = some i) (hsz : i.size = 1)
    {b q : Nat} {pre : List Int} {n : Nat} (hn : pre.length = n) (hs : a.eval s = .slice (some ⟨b, 0, none⟩) n q) (hp : PreAt w b q pre) (hq : n < q)
    {g c : Nat} {y : Int} (hx : a.eval x = .slice (some ⟨g, 0, none⟩) 1 c) (hg : w.heap[g]? = some (.cells #[.int .i64 y] 3 (0, 0)))
    (h : ∀ w', PreAt w' b q (pre ++ [y]) → Chg (fun k => k = b) w w' → K (a.put o.dst (.slice (some ⟨b, 0, none⟩) (n + 1) q)) w') : o.wp P a w K Q := by
  subst hn
  obtain ⟨cur, h1, h2, h3, h4⟩ := hp
  have hrun := run_append_room (P := P) w t o.type 3 i ht hi b pre.length q cur h1 ⟨g, 0, none⟩ 1 c [.int .i64 y] (by rw [hsz]; rfl) (fun j u hj => by
    have hj0 : j = 0 := by cases j with | zero => rfl | succ j => simp at hj
    subst hj0
    have hadd : (⟨g, 0, none⟩ : Addr).add 0 = ⟨g, 0, none⟩ := rfl
    rw [hadd, cell_of_row w g 0 _ 3 (0, 0) hg]
    simpa using hj) (fun u hu => by rw [List.mem_singleton] at hu; subst hu; rfl) (by omega) (by rw [hsz]; simp; omega)
  rw [hsz, Nat.mul_one] at hrun
  unfold Oper.wp execOp
  simp only [ho, resolve, invoke, builtin, Sem.run_bind, Sem.run_pure, Result.andThen_ok, List.map_toArray, List.map_cons, List.map_nil, hs, hx, hrun]
  have hlc : pre.length ≤ cur.toList.length := by simp; omega
  refine h _ ⟨_, setRow_heap w b cur _ 3 (0, 0) h1, ?_, by simp; omega, fun j hj => ?_⟩ ⟨rfl, rfl, rfl, by simp, fun k _ hk => setRow_other w b k _ hk⟩
  · simp; omega
  · have htl : (cur.toList.take pre.length).length = pre.length := by rw [List.length_take]; omega
    rw [List.getElem?_toArray, List.append_assoc]
    by_cases e : j < pre.length
    · rw [List.getElem?_append_left (by omega), List.getElem?_take, if_pos e, gt_append e]
      simpa using h4 j e
    · have hj' : j = pre.length := by simp at hj; omega
      subst hj'
      rw [List.getElem?_append_right (by omega), htl, gt_last]
      simp
/-- The blocks that rounds and the iterator turn. -/
def turnD (n0 n1 b : Nat) : Nat → Prop := fun k => rng n0 n1 k ∨ k = b
/-- What the iterator leans on. -/
structure ItW (n0 n1 mb pb yb wb b ly : Nat) (A : Option Addr) (n c : Nat) (B : Option Addr) (m e0 : Nat) (C : Option Addr) (q d : Nat) (l : List Int) (r page : List (List Int)) (W : World) : Prop where
  hl : Rd intS 0 n0 W A n l
  hr : Rd (sliceS intS) 0 n0 W B m r
  hp : Rd (sliceS intS) 0 n0 W C q page
  cm : W.heap[mb]? = some (.cells #[.slice A n c, .slice B m e0] 26 (0, 0))
  cp : W.heap[pb]? = some (.cells #[.slice C q d] 24 (0, 0))
  cy : W.heap[yb]? = some (.cells #[.func (.yield ly) #[] #[]] 87 (0, 0))
  cw : W.heap[wb]? = some (.cells #[.func (.func 78) #[] #[.pointer (some ⟨pb, 0, none⟩), .pointer (some ⟨yb, 0, none⟩), .pointer (some ⟨mb, 0, none⟩), .pointer (some ⟨wb, 0, none⟩)]] 87 (0, 0))
  ok : bothOk l r page = true
  le : n0 ≤ n1 ∧ n1 ≤ mb ∧ n1 ≤ pb ∧ n1 ≤ yb ∧ n1 ≤ wb ∧ n1 ≤ b
  ne : mb ≠ b ∧ pb ≠ b ∧ yb ≠ b ∧ wb ≠ b
section
variable {n0 n1 mb pb yb wb b ly : Nat} {A : Option Addr} {n c : Nat} {B : Option Addr} {m e0 : Nat} {C : Option Addr} {q d : Nat} {l : List Int} {r page : List (List Int)} {W W' : World}
theorem ItW.lt (h : ItW n0 n1 mb pb yb wb b ly A n c B m e0 C q d l r page W) : n0 ≤ W.heap.size := by
  have := (Array.getElem?_eq_some_iff.1 h.cm).1
  have := h.le
  omega
theorem ItW.chg (h : ItW n0 n1 mb pb yb wb b ly A n c B m e0 C q d l r page W) (hc : Chg (turnD n0 n1 b) W W') : ItW n0 n1 mb pb yb wb b ly A n c B m e0 C q d l r page W' := by
  have hlt := h.lt
  obtain ⟨h1, h2, h3, h4, h5, h6, h7, h8, h9, h10⟩ := h
  have hd : ∀ k, turnD n0 n1 b k → n0 ≤ k ∨ k < 0 := fun k hk => by
    rcases hk with hk | hk
    · have := hk.1; omega
    · omega
  have hb : ∀ k, n1 ≤ k → k ≠ b → ¬ turnD n0 n1 b k := fun k a1 a2 a3 => by
    rcases a3 with a3 | a3
    · have := a3.2; omega
    · omega
  exact ⟨h1.chg hc hlt hd, h2.chg hc hlt hd, h3.chg hc hlt hd, (hc.block _ (Array.getElem?_eq_some_iff.1 h4).1 (hb _ (by omega) (by omega))).trans h4, (hc.block _ (Array.getElem?_eq_some_iff.1 h5).1 (hb _ (by omega) (by omega))).trans h5, (hc.block _ (Array.getElem?_eq_some_iff.1 h6).1 (hb _ (by omega) (by omega))).trans h6, (hc.block _ (Array.getElem?_eq_some_iff.1 h7).1 (hb _ (by omega) (by omega))).trans h7, h8, h9, h10⟩
end
/-- What a call of the walk leaves. -/
def WalkP (n0 n1 b q : Nat) (J Jx : Nat → List (List Int) → World → Prop) (pre : List Int) (before outs : List (List Int)) (W : World) (e : Ending) (W' : World) : Prop :=
  (e = .returned (.bool true) ∧ J b (before ++ outs) W' ∧ Chg (turnD n0 n1 b) W W' ∧ PreAt W' b q pre) ∨ (e = .returned (.bool false) ∧ ∃ t, t <+: outs ∧ Jx b (before ++ t) W')
/-- What has become of the world when the inner walk has said so. -/
def WRes (n0 n1 b q : Nat) (J Jx : Nat → List (List Int) → World → Prop) (pre : List Int) (before outs : List (List Int)) (W : World) : Bool → World → Prop
  | true, W' => J b (before ++ outs) W' ∧ Chg (turnD n0 n1 b) W W' ∧ PreAt W' b q pre
  | false, W' => ∃ t, t <+: outs ∧ Jx b (before ++ t) W'
section
variable (n0 n1 mb pb yb wb b ly : Nat) (A : Option Addr) (n c : Nat) (B : Option Addr) (m e0 : Nat) (C : Option Addr) (q d : Nat) (l : List Int) (r page xs : List (List Int)) (J Jx : Nat → List (List Int) → World → Prop)
set_option maxRecDepth 100000 in
set_option maxHeartbeats 1000000 in
theorem walk_leaf (hY : ∀ pre x X, J b pre X → PreAt X b q x ∧ x.length = q → (pre ++ [x]) <+: xs → YA Try.prog ly #[.slice (some ⟨b, 0, none⟩) q q] X fun e X' =>
      (e = .returned (.bool true) ∧ J b (pre ++ [x]) X' ∧ Chg (rng n0 n1) X X') ∨ (e = .returned (.bool false) ∧ Jx b (pre ++ [x]) X'))
    (pre : List Int) (before : List (List Int)) (W : World) (h : ItW n0 n1 mb pb yb wb b ly A n c B m e0 C q d l r page W) (hpre : PreAt W b q pre) (hpq : pre.length = q) (hJ : J b before W) (hx : (before ++ [pre]) <+: xs) :
    Calls Try.prog 78 #[.slice (some ⟨b, 0, none⟩) q q, .pointer (some ⟨pb, 0, none⟩), .pointer (some ⟨yb, 0, none⟩), .pointer (some ⟨mb, 0, none⟩), .pointer (some ⟨wb, 0, none⟩)] W (WalkP n0 n1 b q J Jx pre before [pre] W) := by
  have hb9 : n1 ≤ b := h.le.2.2.2.2.2
  have c1 : W.cell? ⟨pb, 0, none⟩ = some (.slice C q d) := by rw [cell_of_row W _ _ _ _ (0, 0) h.cp]; rfl
  have c2 : W.cell? ⟨yb, 0, none⟩ = some (.func (.yield ly) #[] #[]) := by rw [cell_of_row W _ _ _ _ (0, 0) h.cy]; rfl
  obtain ⟨fn, tmps, assign, body, hy, hR⟩ := hY before pre W hJ ⟨hpre, hpq⟩ hx 8
  have HP := hid hpre
  clear h hpre hJ hx hpq
  refine (callsIn_wide (n := 9)).1 (callsIn_of_wp Try.func78 rfl trivial ?_ rfl)
  simp only [Try.ntmps78, List.size_toArray, List.length_cons, List.length_nil, Nat.reduceAdd, Nat.reduceSub, Array.replicate_succ, Array.replicate_zero, List.push_toArray, List.append_toArray, List.nil_append, List.cons_append]
  gi_wp2_with fail
  refine hR.mono ?_
  rintro e W' (⟨rfl, hJ', hk⟩ | ⟨rfl, hJx'⟩)
  · gi_wp2_with fail
    go_ret
    exact .inl ⟨rfl, hJ', hk.wide fun _ h => .inl h, HP.out.kept (hk.block _ HP.out.lt fun h => by have := h.2; omega)⟩
  · gi_wp2_with fail
    go_ret
    exact .inr ⟨rfl, [pre], List.prefix_rfl, hJx'⟩
set_option maxRecDepth 100000 in
set_option maxHeartbeats 4000000 in
theorem walk_inner (hJs : ∀ s X X', J b s X → Chg (fun k => k = b) X X' → J b s X')
    (front : List (List Int)) (p : List Int) (ps : List (List Int)) (hpage : page = front ++ p :: ps) (pre : List Int) (hfp : pre.length = front.length) (hpn : ∀ y ∈ pre, 0 ≤ y ∧ y < (n : Int))
    (hrec : ∀ x before X, x ∈ p → ItW n0 n1 mb pb yb wb b ly A n c B m e0 C q d l r page X → PreAt X b q (pre ++ [x]) → J b before X → (before ++ readsOf l r ps (pre ++ [x])) <+: xs →
      Calls Try.prog 78 #[.slice (some ⟨b, 0, none⟩) (pre.length + 1) q, .pointer (some ⟨pb, 0, none⟩), .pointer (some ⟨yb, 0, none⟩), .pointer (some ⟨mb, 0, none⟩), .pointer (some ⟨wb, 0, none⟩)] X (WalkP n0 n1 b q J Jx (pre ++ [x]) before (readsOf l r ps (pre ++ [x])) X))
    (before : List (List Int)) (W : World) (h : ItW n0 n1 mb pb yb wb b ly A n c B m e0 C q d l r page W) (hpre : PreAt W b q pre) (hJ : J b before W) (hx : (before ++ readsOf l r (p :: ps) pre) <+: xs) :
    Calls Try.prog 78 #[.slice (some ⟨b, 0, none⟩) pre.length q, .pointer (some ⟨pb, 0, none⟩), .pointer (some ⟨yb, 0, none⟩), .pointer (some ⟨mb, 0, none⟩), .pointer (some ⟨wb, 0, none⟩)] W (WalkP n0 n1 b q J Jx pre before (readsOf l r (p :: ps) pre) W) := by
  obtain ⟨i0, hi1, hz0, hz1, hz2⟩ := info_parts (show (Try.prog.info? 3).map (fun i => (i.zero, i.size, i.bytes)) = some (some (.int .i64 0), 1, 8) by kernel_rfl)
  have HI := hid (And.intro hi1 (And.intro hz0 (And.intro hz1 hz2)))
  clear hi1 hz0 hz1 hz2
  have hb9 : n1 ≤ b := h.le.2.2.2.2.2
  have hql : q = page.length := h.hp.1
  have hplen : page.length = front.length + 1 + ps.length := by rw [hpage]; simp; omega
  obtain ⟨t, ht⟩ : ∃ t, pre.length = t := ⟨_, rfl⟩
  have htq : t < q := by omega
  have htqi : (t : Int) < (q : Int) := by omega
  have hgt : gt page t = p := by rw [hpage, ← ht, hfp]; simp [gt]
  have hok2 := pageOk_yes (bothOk_yes h.ok).2
  have hq8 : q ≤ 8 := by have := hok2.1; omega
  have hnl : n = l.length := h.hl.1
  have hpx := hid (show ∀ x ∈ p, 0 ≤ x ∧ x < (n : Int) from fun x hx => by have := (hok2.2 p (by rw [hpage]; simp)).2 x hx; rw [hnl]; exact this)
  have hp3 := h.hp.2.2
  obtain ⟨bp, op, hC, _, hbp, hcp⟩ := hp3 (by omega)
  subst hC
  obtain ⟨RA, rc, rcell, _, hrow⟩ := hcp.row htq
  rw [hgt] at rcell hrow
  have hp63 := hrow.2.1
  have c1 : W.cell? ⟨pb, 0, none⟩ = some (.slice (some ⟨bp, op, none⟩) q d) := by rw [cell_of_row W _ _ _ _ (0, 0) h.cp]; rfl
  have tneq : ((t : Int) == (q : Int)) = false := by simp; omega
  have IT := hid h
  have HJ := hid hJ
  have HPRE := hid hpre
  have HX := hid hx
  have HRC := hid hrec
  have HPG := hid hpage
  have HFP := hid hfp
  have HPN := hid hpn
  have ROW := hid hrow
  have HT := hid ht
  have HQL := hid hql
  have HNL := hid hnl
  clear h hJ hpre hx hrec hpage hfp hpn hrow hql hnl hcp hp3 hok2 hgt hplen
  rw [ht]
  clear ht
  go_enter Try.func78, Try.ntmps78
  go_wp2_with fail
  go_loopg [23] p.length (fun gk i wr => ∃ k : Nat, k + gk = p.length ∧ i = .int .i64 k ∧ J b (before ++ (p.take k).flatMap (stepR l r ps pre)) wr ∧ Chg (turnD n0 n1 b) W wr ∧ PreAt wr b q pre)
  case atStart => exact ⟨0, Nat.zero_add _, rfl, by simpa using HJ.out, Chg.refl _ _, HPRE.out⟩
  case round =>
    obtain ⟨k, hkg, rfl, hJk, hck, hpk⟩ := hrel
    have HKG := hid hkg
    have HJK := hid hJk
    have HCK := hid hck
    have HPK := hid hpk
    have hk : k ≤ p.length := by omega
    clear hkg hJk hck hpk
    by_cases hlt : k < p.length
    case neg =>
      obtain rfl : k = p.length := by omega
      go_wp2_with fail
      go_ret
      exact .inl ⟨rfl, by have := HJK.out; rw [List.take_length] at this; rw [readsOf_cons]; exact this, HCK.out, HPK.out⟩
    case pos =>
      have hki : (k : Int) < (p.length : Int) := by omega
      have IT2 := hid (IT.out.chg HCK.out)
      obtain ⟨bx, ox, rfl, _, hbx, hcx⟩ := ROW.out.2.2 (by omega)
      have n0b := IT.out.le.1
      have ndx : ¬ turnD n0 n1 b bx := fun h => by
        rcases h with h | h
        · have := h.1; omega
        · omega
      have cx := chg_cell HCK.out ndx (hcx.int hlt)
      obtain ⟨x, hxe⟩ : ∃ x, gt p k = x := ⟨_, rfl⟩
      rw [hxe] at cx
      have HXE := hid hxe
      have hxp : x ∈ p := hxe ▸ gt_mem hlt
      obtain ⟨hx0, hxn⟩ := hpx.out x hxp
      obtain ⟨v, hv⟩ : ∃ v, wgt l r (lastI pre) x = v := ⟨_, rfl⟩
      have HV := hid hv
      have HXP := hid hxp
      have HFT := hid (flat_take (f := stepR l r ps pre) hlt)
      clear hcx hxe hv hxp
      go_wp2_with fail
      have HW := hid fun X (hc : Chg (fun k => k = b) wr X) (hp' : PreAt X b q pre) =>
        have it := IT2.out.chg (hc.wide fun k hk => .inr hk)
        weight_any A B (some ⟨b, 0, none⟩) n c m e0 t q 0 l r pre x X (it.hl.wide (Nat.le_refl _) it.lt) (it.hr.wide (Nat.le_refl _) it.lt) (HT.out ▸ hp'.rd (by omega)) (bothOk_yes it.ok).1 HPN.out hx0 hxn
      by_cases hpos : 0 < v
      case neg =>
        have HST := hid (show stepR l r ps pre x = [] by unfold stepR; rw [HV.out, if_neg hpos])
        have hm1 := aft_cell (B := wr.heap.size) (w0 := wr) (Array.getElem?_eq_some_iff.1 IT2.out.cm).1 (show wr.cell? ⟨mb, 0, none⟩ = some (.slice A n c) from (at_get' IT2.out.cm).1)
        have hm2 := aft_cell (B := wr.heap.size) (w0 := wr) (Array.getElem?_eq_some_iff.1 IT2.out.cm).1 (show wr.cell? ⟨mb, 1, none⟩ = some (.slice B m e0) from (at_get' IT2.out.cm).2.1)
        have CALL := hid fun X : Aft wr.heap.size wr => aft_call ((HW.out X.val (⟨X.prop.os, X.prop.tape, X.prop.output, X.prop.size, fun k hk _ => X.prop.block k hk⟩) (HPK.out.kept (X.prop.block _ HPK.out.lt))).mono fun e w' h => (show e = .returned (.int .i64 v) ∧ Below X.val.heap.size X.val w' from ⟨by rw [h.1, HV.out], h.2⟩)) (Nat.le_refl _)
        clear cx
        refine wp_region_aft (Below.refl wr.heap.size wr) (by kernel_rfl) (by kernel_rfl) ?_
        repeat (go_big_quiet_step ((go_at_call 79; exact CALL.out _)))
        refine wpQuiet_nil ?_
        rintro _ ⟨⟨w2, hb2⟩, rfl⟩
        clear hm1 hm2
        have hc2 : Chg (fun _ => False) wr _ := ⟨hb2.os, hb2.tape, hb2.output, hb2.size, fun k hk _ => hb2.block k hk⟩
        go_wp2_with fail
        go_roundg (gk - 1)
        case measure => have := HKG.out; omega
        case rel => exact ⟨k + 1, by have := HKG.out; omega, by go_num, by rw [HFT.out, HXE.out, HST.out, List.append_nil]; exact hJs _ _ _ HJK.out (hc2.wide fun k hk => hk.elim), HCK.out.trans (hc2.wide fun k hk => hk.elim), HPK.out.kept (hc2.block _ HPK.out.lt (fun h => h))⟩
      case pos =>
        have HST := hid (show stepR l r ps pre x = readsOf l r ps (pre ++ [x]) by unfold stepR; rw [HV.out, if_pos hpos])
        have HPRX := hid (show (before ++ (p.take k).flatMap (stepR l r ps pre)) ++ readsOf l r ps (pre ++ [x]) <+: xs by
          refine List.IsPrefix.trans ?_ HX.out
          rw [readsOf_cons, List.append_assoc, List.prefix_append_right_inj, ← HST.out, ← HXE.out]
          exact flat_prefix hlt)
        have HPOS := hid hpos
        clear cx hpos
        refine wp_region_invG (by kernel_rfl) (by kernel_rfl) (fun L a w => ∃ (v27 v28 v29 v30 v31 v32 v33 v34 v35 v36 v37 v38 v39 v40 : Value), a = { tmps := #[.slice (some ⟨b, 0, none⟩) t q, .pointer (some ⟨pb, 0, none⟩), .pointer (some ⟨yb, 0, none⟩), .pointer (some ⟨mb, 0, none⟩), .pointer (some ⟨wb, 0, none⟩), undef, u6, undef, .int .i64 x, .slice (some ⟨b, 0, none⟩) t q, .int .i64 t, .slice (some ⟨bp, op, none⟩) q d, .int .i64 q, .bool false, undef, undef, undef, .slice (some ⟨bp, op, none⟩) q d, .slice (some ⟨b, 0, none⟩) t q, .int .i64 t, .pointer (some ⟨bp, op + t, none⟩), .slice (some ⟨bx, ox, none⟩) p.length rc, .int .i64 p.length, .int .i64 k, .bool true, .pointer (some ⟨bx, ox + k, none⟩), .int .i64 x, v27, v28, v29, v30, v31, v32, v33, v34, v35, v36, v37, v38, v39, v40, u41], defers := [] } ∧
            (L 0 = true → v27 = .agg #[.slice A n c, .slice B m e0]) ∧ (L 1 = true → v28 = .slice (some ⟨b, 0, none⟩) t q) ∧ (L 2 = true → v29 = .int .i64 x) ∧ (L 3 = true → v30 = .int .i64 v) ∧ (L 4 = true → v31 = .bool true) ∧ (L 5 = true → v32 = .bool true) ∧
            (L 6 = true → v33 = .func (.func 78) #[] #[.pointer (some ⟨pb, 0, none⟩), .pointer (some ⟨yb, 0, none⟩), .pointer (some ⟨mb, 0, none⟩), .pointer (some ⟨wb, 0, none⟩)]) ∧ (L 7 = true → v34 = .slice (some ⟨b, 0, none⟩) t q) ∧ (L 8 = true → v35 = .int .i64 x) ∧
            (L 9 = true → L 10 = false → ∃ g, v36 = .slice (some ⟨g, 0, none⟩) 1 1 ∧ w.heap[g]? = some (.cells #[.int .i64 x] 3 (0, 0))) ∧
            (L 10 = true → L 11 = false → v37 = .slice (some ⟨b, 0, none⟩) (t + 1) q ∧ PreAt w b q (pre ++ [x])) ∧
            (L 11 = true → ∃ z, v38 = .bool z ∧ WRes n0 n1 b q J Jx pre (before ++ (p.take k).flatMap (stepR l r ps pre)) (readsOf l r ps (pre ++ [x])) wr z w) ∧
            (L 12 = true → ∀ z, v38 = .bool z → v39 = .bool (!z)) ∧ (L 13 = true → ∀ z, v38 = .bool z → v40 = .bool (!z)) ∧
            (L 3 = true → L 0 = true) ∧ (L 4 = true → L 3 = true) ∧ (L 5 = true → L 3 = true) ∧ (L 10 = true → L 3 = true ∧ L 9 = true) ∧ (L 11 = true → L 6 = true ∧ L 10 = true) ∧ (L 12 = true → L 11 = true) ∧ (L 13 = true → L 11 = true) ∧
            (L 10 = false → Chg (fun _ => False) wr w) ∧ (L 11 = false → Chg (fun k => k = b) wr w)) ?_ ⟨?_, ?_, ?_, ?_, ?_, ?_, ?_, ?_, ?_, ?_, ?_, ?_, ?_, ?_, trivial⟩ ?_
        · exact ⟨u27, u28, u29, u30, u31, u32, u33, u34, u35, u36, u37, u38, u39, u40, rfl, fun h => (by cases h), fun h => (by cases h), fun h => (by cases h), fun h => (by cases h), fun h => (by cases h), fun h => (by cases h), fun h => (by cases h), fun h => (by cases h), fun h => (by cases h), fun h => (by cases h), fun h => (by cases h), fun h => (by cases h), fun h => (by cases h), fun h => (by cases h), fun h => (by cases h), fun h => (by cases h), fun h => (by cases h), fun h => (by cases h), fun h => (by cases h), fun h => (by cases h), fun h => (by cases h), fun _ => (Chg.refl _ _).drew', fun _ => (Chg.refl _ _).drew'⟩
        · rintro L a w' K0 ⟨v27, v28, v29, v30, v31, v32, v33, v34, v35, v36, v37, v38, v39, v40, rfl, hF⟩ hL hd hK
          have HF := hid hF
          clear hF
          have n11 : L 11 = false := by cases h : L 11 with | false => rfl | true => exact absurd ((HF.out.2.2.2.2.2.2.2.2.2.2.2.2.2.2.1) (((HF.out.2.2.2.2.2.2.2.2.2.2.2.2.2.2.2.2.2.1) ((HF.out.2.2.2.2.2.2.2.2.2.2.2.2.2.2.2.2.2.2.1) h).2).1)) (by rw [hL]; decide)
          have it := IT2.out.chg (((HF.out.2.2.2.2.2.2.2.2.2.2.2.2.2.2.2.2.2.2.2.2.2.2) n11).wide fun k hk => .inr hk)
          obtain ⟨q1, q2, _, _⟩ := at_get' it.cm
          clear hd
          refine ⟨by first | rfl | simp [Region.wanted, yielded], ?_⟩
          go_simp
          exact hK _ _ ⟨_, _, _, _, _, _, _, _, _, _, _, _, _, _, rfl, fun _ => rfl, (HF.out.2.1), (HF.out.2.2.1), (HF.out.2.2.2.1), (HF.out.2.2.2.2.1), (HF.out.2.2.2.2.2.1), (HF.out.2.2.2.2.2.2.1), (HF.out.2.2.2.2.2.2.2.1), (HF.out.2.2.2.2.2.2.2.2.1), (HF.out.2.2.2.2.2.2.2.2.2.1), (HF.out.2.2.2.2.2.2.2.2.2.2.1), (HF.out.2.2.2.2.2.2.2.2.2.2.2.1), (HF.out.2.2.2.2.2.2.2.2.2.2.2.2.1), (HF.out.2.2.2.2.2.2.2.2.2.2.2.2.2.1), fun h => rfl, (HF.out.2.2.2.2.2.2.2.2.2.2.2.2.2.2.2.1), (HF.out.2.2.2.2.2.2.2.2.2.2.2.2.2.2.2.2.1), (HF.out.2.2.2.2.2.2.2.2.2.2.2.2.2.2.2.2.2.1), (HF.out.2.2.2.2.2.2.2.2.2.2.2.2.2.2.2.2.2.2.1), (HF.out.2.2.2.2.2.2.2.2.2.2.2.2.2.2.2.2.2.2.2.1), (HF.out.2.2.2.2.2.2.2.2.2.2.2.2.2.2.2.2.2.2.2.2.1), (HF.out.2.2.2.2.2.2.2.2.2.2.2.2.2.2.2.2.2.2.2.2.2.1), (HF.out.2.2.2.2.2.2.2.2.2.2.2.2.2.2.2.2.2.2.2.2.2.2)⟩
        · rintro L a w' K0 ⟨v27, v28, v29, v30, v31, v32, v33, v34, v35, v36, v37, v38, v39, v40, rfl, hF⟩ hL hd hK
          have HF := hid hF
          clear hF
          clear hd
          refine ⟨by first | rfl | simp [Region.wanted, yielded], ?_⟩
          go_simp
          exact hK _ _ ⟨_, _, _, _, _, _, _, _, _, _, _, _, _, _, rfl, (HF.out.1), fun _ => rfl, (HF.out.2.2.1), (HF.out.2.2.2.1), (HF.out.2.2.2.2.1), (HF.out.2.2.2.2.2.1), (HF.out.2.2.2.2.2.2.1), (HF.out.2.2.2.2.2.2.2.1), (HF.out.2.2.2.2.2.2.2.2.1), (HF.out.2.2.2.2.2.2.2.2.2.1), (HF.out.2.2.2.2.2.2.2.2.2.2.1), (HF.out.2.2.2.2.2.2.2.2.2.2.2.1), (HF.out.2.2.2.2.2.2.2.2.2.2.2.2.1), (HF.out.2.2.2.2.2.2.2.2.2.2.2.2.2.1), (HF.out.2.2.2.2.2.2.2.2.2.2.2.2.2.2.1), (HF.out.2.2.2.2.2.2.2.2.2.2.2.2.2.2.2.1), (HF.out.2.2.2.2.2.2.2.2.2.2.2.2.2.2.2.2.1), (HF.out.2.2.2.2.2.2.2.2.2.2.2.2.2.2.2.2.2.1), (HF.out.2.2.2.2.2.2.2.2.2.2.2.2.2.2.2.2.2.2.1), (HF.out.2.2.2.2.2.2.2.2.2.2.2.2.2.2.2.2.2.2.2.1), (HF.out.2.2.2.2.2.2.2.2.2.2.2.2.2.2.2.2.2.2.2.2.1), (HF.out.2.2.2.2.2.2.2.2.2.2.2.2.2.2.2.2.2.2.2.2.2.1), (HF.out.2.2.2.2.2.2.2.2.2.2.2.2.2.2.2.2.2.2.2.2.2.2)⟩
        · rintro L a w' K0 ⟨v27, v28, v29, v30, v31, v32, v33, v34, v35, v36, v37, v38, v39, v40, rfl, hF⟩ hL hd hK
          have HF := hid hF
          clear hF
          clear hd
          refine ⟨by first | rfl | simp [Region.wanted, yielded], ?_⟩
          go_simp
          exact hK _ _ ⟨_, _, _, _, _, _, _, _, _, _, _, _, _, _, rfl, (HF.out.1), (HF.out.2.1), fun _ => rfl, (HF.out.2.2.2.1), (HF.out.2.2.2.2.1), (HF.out.2.2.2.2.2.1), (HF.out.2.2.2.2.2.2.1), (HF.out.2.2.2.2.2.2.2.1), (HF.out.2.2.2.2.2.2.2.2.1), (HF.out.2.2.2.2.2.2.2.2.2.1), (HF.out.2.2.2.2.2.2.2.2.2.2.1), (HF.out.2.2.2.2.2.2.2.2.2.2.2.1), (HF.out.2.2.2.2.2.2.2.2.2.2.2.2.1), (HF.out.2.2.2.2.2.2.2.2.2.2.2.2.2.1), (HF.out.2.2.2.2.2.2.2.2.2.2.2.2.2.2.1), (HF.out.2.2.2.2.2.2.2.2.2.2.2.2.2.2.2.1), (HF.out.2.2.2.2.2.2.2.2.2.2.2.2.2.2.2.2.1), (HF.out.2.2.2.2.2.2.2.2.2.2.2.2.2.2.2.2.2.1), (HF.out.2.2.2.2.2.2.2.2.2.2.2.2.2.2.2.2.2.2.1), (HF.out.2.2.2.2.2.2.2.2.2.2.2.2.2.2.2.2.2.2.2.1), (HF.out.2.2.2.2.2.2.2.2.2.2.2.2.2.2.2.2.2.2.2.2.1), (HF.out.2.2.2.2.2.2.2.2.2.2.2.2.2.2.2.2.2.2.2.2.2.1), (HF.out.2.2.2.2.2.2.2.2.2.2.2.2.2.2.2.2.2.2.2.2.2.2)⟩
        · rintro L a w' K0 ⟨v27, v28, v29, v30, v31, v32, v33, v34, v35, v36, v37, v38, v39, v40, rfl, hF⟩ hL hd hK
          have HF := hid hF
          clear hF
          obtain rfl := (HF.out.1) (hd ⟨0, .data⟩ (by simp) rfl)
          obtain rfl := (HF.out.2.1) (hd ⟨1, .data⟩ (by simp) rfl)
          obtain rfl := (HF.out.2.2.1) (hd ⟨2, .data⟩ (by simp) rfl)
          have d0 := hd ⟨0, .data⟩ (by simp) rfl
          have n10 : L 10 = false := by cases h : L 10 with | false => rfl | true => exact absurd ((HF.out.2.2.2.2.2.2.2.2.2.2.2.2.2.2.2.2.2.1) h).1 (by rw [hL]; decide)
          have n11 : L 11 = false := by cases h : L 11 with | false => rfl | true => exact absurd ((HF.out.2.2.2.2.2.2.2.2.2.2.2.2.2.2.2.2.2.2.1) h).2 (by rw [n10]; decide)
          have hc0 := (HF.out.2.2.2.2.2.2.2.2.2.2.2.2.2.2.2.2.2.2.2.2.2.1) n10
          have hpre1 := HPK.out.kept (hc0.block _ HPK.out.lt fun h => h)
          have hw1 := HW.out w' (hc0.wide fun k hk => hk.elim) hpre1
          clear hd
          refine ⟨by first | rfl | simp [Region.wanted, yielded], ?_⟩
          go_simp
          refine hw1.mono ?_
          rintro e w2 ⟨rfl, hb2⟩
          have hc2 : Chg (fun _ => False) w' w2 := ⟨hb2.os, hb2.tape, hb2.output, hb2.size, fun k hk _ => hb2.block k hk⟩
          exact hK _ _ ⟨_, _, _, _, _, _, _, _, _, _, _, _, _, _, rfl, (HF.out.1), (HF.out.2.1), (HF.out.2.2.1), fun _ => by rw [HV.out], (HF.out.2.2.2.2.1), (HF.out.2.2.2.2.2.1), (HF.out.2.2.2.2.2.2.1), (HF.out.2.2.2.2.2.2.2.1), (HF.out.2.2.2.2.2.2.2.2.1), fun h1 h2 => by obtain ⟨g, q1, q2⟩ := (HF.out.2.2.2.2.2.2.2.2.2.1) h1 h2; exact ⟨g, q1, (hb2.block g (Array.getElem?_eq_some_iff.1 q2).1).trans q2⟩, fun h => absurd h (by rw [show updL L 3 10 = L 10 from rfl, n10]; decide), fun h => absurd h (by rw [show updL L 3 11 = L 11 from rfl, n11]; decide), (HF.out.2.2.2.2.2.2.2.2.2.2.2.2.1), (HF.out.2.2.2.2.2.2.2.2.2.2.2.2.2.1), fun _ => d0, fun _ => rfl, fun _ => rfl, fun h => ⟨rfl, ((HF.out.2.2.2.2.2.2.2.2.2.2.2.2.2.2.2.2.2.1) h).2⟩, (HF.out.2.2.2.2.2.2.2.2.2.2.2.2.2.2.2.2.2.2.1), (HF.out.2.2.2.2.2.2.2.2.2.2.2.2.2.2.2.2.2.2.2.1), (HF.out.2.2.2.2.2.2.2.2.2.2.2.2.2.2.2.2.2.2.2.2.1), fun h => hc0.trans hc2, fun h => ((HF.out.2.2.2.2.2.2.2.2.2.2.2.2.2.2.2.2.2.2.2.2.2.2) h).trans (hc2.wide fun k hk => hk.elim)⟩
        · rintro L a w' K0 ⟨v27, v28, v29, v30, v31, v32, v33, v34, v35, v36, v37, v38, v39, v40, rfl, hF⟩ hL hd hK
          have HF := hid hF
          clear hF
          obtain rfl := (HF.out.2.2.2.1) (hd ⟨3, .data⟩ (by simp) rfl)
          have d3 := hd ⟨3, .data⟩ (by simp) rfl
          have hpos' : 0 < v := HPOS.out
          clear hd
          refine ⟨by first | rfl | simp [Region.wanted, yielded], ?_⟩
          go_simp
          exact hK _ _ ⟨_, _, _, _, _, _, _, _, _, _, _, _, _, _, rfl, (HF.out.1), (HF.out.2.1), (HF.out.2.2.1), (HF.out.2.2.2.1), fun _ => by simp, (HF.out.2.2.2.2.2.1), (HF.out.2.2.2.2.2.2.1), (HF.out.2.2.2.2.2.2.2.1), (HF.out.2.2.2.2.2.2.2.2.1), (HF.out.2.2.2.2.2.2.2.2.2.1), (HF.out.2.2.2.2.2.2.2.2.2.2.1), (HF.out.2.2.2.2.2.2.2.2.2.2.2.1), (HF.out.2.2.2.2.2.2.2.2.2.2.2.2.1), (HF.out.2.2.2.2.2.2.2.2.2.2.2.2.2.1), (HF.out.2.2.2.2.2.2.2.2.2.2.2.2.2.2.1), fun _ => d3, (HF.out.2.2.2.2.2.2.2.2.2.2.2.2.2.2.2.2.1), (HF.out.2.2.2.2.2.2.2.2.2.2.2.2.2.2.2.2.2.1), (HF.out.2.2.2.2.2.2.2.2.2.2.2.2.2.2.2.2.2.2.1), (HF.out.2.2.2.2.2.2.2.2.2.2.2.2.2.2.2.2.2.2.2.1), (HF.out.2.2.2.2.2.2.2.2.2.2.2.2.2.2.2.2.2.2.2.2.1), (HF.out.2.2.2.2.2.2.2.2.2.2.2.2.2.2.2.2.2.2.2.2.2.1), (HF.out.2.2.2.2.2.2.2.2.2.2.2.2.2.2.2.2.2.2.2.2.2.2)⟩
        · rintro L a w' K0 ⟨v27, v28, v29, v30, v31, v32, v33, v34, v35, v36, v37, v38, v39, v40, rfl, hF⟩ hL hd hK
          have HF := hid hF
          clear hF
          obtain rfl := (HF.out.2.2.2.2.1) (hd ⟨4, .data⟩ (by simp) rfl)
          have d3 := (HF.out.2.2.2.2.2.2.2.2.2.2.2.2.2.2.2.1) (hd ⟨4, .data⟩ (by simp) rfl)
          clear hd
          refine ⟨by first | rfl | simp [Region.wanted, yielded], ?_⟩
          go_simp
          exact hK _ _ ⟨_, _, _, _, _, _, _, _, _, _, _, _, _, _, rfl, (HF.out.1), (HF.out.2.1), (HF.out.2.2.1), (HF.out.2.2.2.1), (HF.out.2.2.2.2.1), fun _ => rfl, (HF.out.2.2.2.2.2.2.1), (HF.out.2.2.2.2.2.2.2.1), (HF.out.2.2.2.2.2.2.2.2.1), (HF.out.2.2.2.2.2.2.2.2.2.1), (HF.out.2.2.2.2.2.2.2.2.2.2.1), (HF.out.2.2.2.2.2.2.2.2.2.2.2.1), (HF.out.2.2.2.2.2.2.2.2.2.2.2.2.1), (HF.out.2.2.2.2.2.2.2.2.2.2.2.2.2.1), (HF.out.2.2.2.2.2.2.2.2.2.2.2.2.2.2.1), (HF.out.2.2.2.2.2.2.2.2.2.2.2.2.2.2.2.1), fun _ => d3, (HF.out.2.2.2.2.2.2.2.2.2.2.2.2.2.2.2.2.2.1), (HF.out.2.2.2.2.2.2.2.2.2.2.2.2.2.2.2.2.2.2.1), (HF.out.2.2.2.2.2.2.2.2.2.2.2.2.2.2.2.2.2.2.2.1), (HF.out.2.2.2.2.2.2.2.2.2.2.2.2.2.2.2.2.2.2.2.2.1), (HF.out.2.2.2.2.2.2.2.2.2.2.2.2.2.2.2.2.2.2.2.2.2.1), (HF.out.2.2.2.2.2.2.2.2.2.2.2.2.2.2.2.2.2.2.2.2.2.2)⟩
        · rintro L a w' K0 ⟨v27, v28, v29, v30, v31, v32, v33, v34, v35, v36, v37, v38, v39, v40, rfl, hF⟩ hL hd hK
          have HF := hid hF
          clear hF
          obtain rfl := (HF.out.2.2.2.2.2.1) (hd ⟨5, .guard⟩ (by simp) rfl)
          have n11 : L 11 = false := by cases h : L 11 with | false => rfl | true => exact absurd (((HF.out.2.2.2.2.2.2.2.2.2.2.2.2.2.2.2.2.2.2.1) h).1) (by rw [hL]; decide)
          have it := IT2.out.chg (((HF.out.2.2.2.2.2.2.2.2.2.2.2.2.2.2.2.2.2.2.2.2.2.2) n11).wide fun k hk => .inr hk)
          have q1 : w'.cell? ⟨wb, 0, none⟩ = some (.func (.func 78) #[] #[.pointer (some ⟨pb, 0, none⟩), .pointer (some ⟨yb, 0, none⟩), .pointer (some ⟨mb, 0, none⟩), .pointer (some ⟨wb, 0, none⟩)]) := by rw [cell_of_row w' _ _ _ _ (0, 0) it.cw]; rfl
          clear hd
          refine ⟨by first | rfl | simp [Region.wanted, yielded], ?_⟩
          go_simp
          exact hK _ _ ⟨_, _, _, _, _, _, _, _, _, _, _, _, _, _, rfl, (HF.out.1), (HF.out.2.1), (HF.out.2.2.1), (HF.out.2.2.2.1), (HF.out.2.2.2.2.1), (HF.out.2.2.2.2.2.1), fun _ => rfl, (HF.out.2.2.2.2.2.2.2.1), (HF.out.2.2.2.2.2.2.2.2.1), (HF.out.2.2.2.2.2.2.2.2.2.1), (HF.out.2.2.2.2.2.2.2.2.2.2.1), (HF.out.2.2.2.2.2.2.2.2.2.2.2.1), (HF.out.2.2.2.2.2.2.2.2.2.2.2.2.1), (HF.out.2.2.2.2.2.2.2.2.2.2.2.2.2.1), (HF.out.2.2.2.2.2.2.2.2.2.2.2.2.2.2.1), (HF.out.2.2.2.2.2.2.2.2.2.2.2.2.2.2.2.1), (HF.out.2.2.2.2.2.2.2.2.2.2.2.2.2.2.2.2.1), (HF.out.2.2.2.2.2.2.2.2.2.2.2.2.2.2.2.2.2.1), fun h => ⟨rfl, ((HF.out.2.2.2.2.2.2.2.2.2.2.2.2.2.2.2.2.2.2.1) h).2⟩, (HF.out.2.2.2.2.2.2.2.2.2.2.2.2.2.2.2.2.2.2.2.1), (HF.out.2.2.2.2.2.2.2.2.2.2.2.2.2.2.2.2.2.2.2.2.1), (HF.out.2.2.2.2.2.2.2.2.2.2.2.2.2.2.2.2.2.2.2.2.2.1), (HF.out.2.2.2.2.2.2.2.2.2.2.2.2.2.2.2.2.2.2.2.2.2.2)⟩
        · rintro L a w' K0 ⟨v27, v28, v29, v30, v31, v32, v33, v34, v35, v36, v37, v38, v39, v40, rfl, hF⟩ hL hd hK
          have HF := hid hF
          clear hF
          obtain rfl := (HF.out.2.2.2.2.2.1) (hd ⟨5, .guard⟩ (by simp) rfl)
          clear hd
          refine ⟨by first | rfl | simp [Region.wanted, yielded], ?_⟩
          go_simp
          exact hK _ _ ⟨_, _, _, _, _, _, _, _, _, _, _, _, _, _, rfl, (HF.out.1), (HF.out.2.1), (HF.out.2.2.1), (HF.out.2.2.2.1), (HF.out.2.2.2.2.1), (HF.out.2.2.2.2.2.1), (HF.out.2.2.2.2.2.2.1), fun _ => rfl, (HF.out.2.2.2.2.2.2.2.2.1), (HF.out.2.2.2.2.2.2.2.2.2.1), (HF.out.2.2.2.2.2.2.2.2.2.2.1), (HF.out.2.2.2.2.2.2.2.2.2.2.2.1), (HF.out.2.2.2.2.2.2.2.2.2.2.2.2.1), (HF.out.2.2.2.2.2.2.2.2.2.2.2.2.2.1), (HF.out.2.2.2.2.2.2.2.2.2.2.2.2.2.2.1), (HF.out.2.2.2.2.2.2.2.2.2.2.2.2.2.2.2.1), (HF.out.2.2.2.2.2.2.2.2.2.2.2.2.2.2.2.2.1), (HF.out.2.2.2.2.2.2.2.2.2.2.2.2.2.2.2.2.2.1), (HF.out.2.2.2.2.2.2.2.2.2.2.2.2.2.2.2.2.2.2.1), (HF.out.2.2.2.2.2.2.2.2.2.2.2.2.2.2.2.2.2.2.2.1), (HF.out.2.2.2.2.2.2.2.2.2.2.2.2.2.2.2.2.2.2.2.2.1), (HF.out.2.2.2.2.2.2.2.2.2.2.2.2.2.2.2.2.2.2.2.2.2.1), (HF.out.2.2.2.2.2.2.2.2.2.2.2.2.2.2.2.2.2.2.2.2.2.2)⟩
        · rintro L a w' K0 ⟨v27, v28, v29, v30, v31, v32, v33, v34, v35, v36, v37, v38, v39, v40, rfl, hF⟩ hL hd hK
          have HF := hid hF
          clear hF
          obtain rfl := (HF.out.2.2.2.2.2.1) (hd ⟨5, .guard⟩ (by simp) rfl)
          clear hd
          refine ⟨by first | rfl | simp [Region.wanted, yielded], ?_⟩
          go_simp
          exact hK _ _ ⟨_, _, _, _, _, _, _, _, _, _, _, _, _, _, rfl, (HF.out.1), (HF.out.2.1), (HF.out.2.2.1), (HF.out.2.2.2.1), (HF.out.2.2.2.2.1), (HF.out.2.2.2.2.2.1), (HF.out.2.2.2.2.2.2.1), (HF.out.2.2.2.2.2.2.2.1), fun _ => rfl, (HF.out.2.2.2.2.2.2.2.2.2.1), (HF.out.2.2.2.2.2.2.2.2.2.2.1), (HF.out.2.2.2.2.2.2.2.2.2.2.2.1), (HF.out.2.2.2.2.2.2.2.2.2.2.2.2.1), (HF.out.2.2.2.2.2.2.2.2.2.2.2.2.2.1), (HF.out.2.2.2.2.2.2.2.2.2.2.2.2.2.2.1), (HF.out.2.2.2.2.2.2.2.2.2.2.2.2.2.2.2.1), (HF.out.2.2.2.2.2.2.2.2.2.2.2.2.2.2.2.2.1), (HF.out.2.2.2.2.2.2.2.2.2.2.2.2.2.2.2.2.2.1), (HF.out.2.2.2.2.2.2.2.2.2.2.2.2.2.2.2.2.2.2.1), (HF.out.2.2.2.2.2.2.2.2.2.2.2.2.2.2.2.2.2.2.2.1), (HF.out.2.2.2.2.2.2.2.2.2.2.2.2.2.2.2.2.2.2.2.2.1), (HF.out.2.2.2.2.2.2.2.2.2.2.2.2.2.2.2.2.2.2.2.2.2.1), (HF.out.2.2.2.2.2.2.2.2.2.2.2.2.2.2.2.2.2.2.2.2.2.2)⟩
        · rintro L a w' K0 ⟨v27, v28, v29, v30, v31, v32, v33, v34, v35, v36, v37, v38, v39, v40, rfl, hF⟩ hL hd hK
          have HF := hid hF
          clear hF
          obtain rfl := (HF.out.2.2.2.2.2.1) (hd ⟨5, .guard⟩ (by simp) rfl)
          obtain rfl := (HF.out.2.2.2.2.2.2.2.2.1) (hd ⟨8, .data⟩ (by simp) rfl)
          have n10 : L 10 = false := by cases h : L 10 with | false => rfl | true => exact absurd ((HF.out.2.2.2.2.2.2.2.2.2.2.2.2.2.2.2.2.2.1) h).2 (by rw [hL]; decide)
          have n11 : L 11 = false := by cases h : L 11 with | false => rfl | true => exact absurd ((HF.out.2.2.2.2.2.2.2.2.2.2.2.2.2.2.2.2.2.2.1) h).2 (by rw [n10]; decide)
          clear hd
          refine ⟨by first | rfl | simp [Region.wanted, yielded], ?_⟩
          go_simp
          exact hK _ _ ⟨_, _, _, _, _, _, _, _, _, _, _, _, _, _, rfl, (HF.out.1), (HF.out.2.1), (HF.out.2.2.1), (HF.out.2.2.2.1), (HF.out.2.2.2.2.1), (HF.out.2.2.2.2.2.1), (HF.out.2.2.2.2.2.2.1), (HF.out.2.2.2.2.2.2.2.1), (HF.out.2.2.2.2.2.2.2.2.1), fun _ _ => ⟨_, rfl, heap_alloc_new _ _⟩, fun h => absurd h (by rw [show updL L 9 10 = L 10 from rfl, n10]; decide), fun h => absurd h (by rw [show updL L 9 11 = L 11 from rfl, n11]; decide), (HF.out.2.2.2.2.2.2.2.2.2.2.2.2.1), (HF.out.2.2.2.2.2.2.2.2.2.2.2.2.2.1), (HF.out.2.2.2.2.2.2.2.2.2.2.2.2.2.2.1), (HF.out.2.2.2.2.2.2.2.2.2.2.2.2.2.2.2.1), (HF.out.2.2.2.2.2.2.2.2.2.2.2.2.2.2.2.2.1), fun h => ⟨((HF.out.2.2.2.2.2.2.2.2.2.2.2.2.2.2.2.2.2.1) h).1, rfl⟩, (HF.out.2.2.2.2.2.2.2.2.2.2.2.2.2.2.2.2.2.2.1), (HF.out.2.2.2.2.2.2.2.2.2.2.2.2.2.2.2.2.2.2.2.1), (HF.out.2.2.2.2.2.2.2.2.2.2.2.2.2.2.2.2.2.2.2.2.1), fun h => ((HF.out.2.2.2.2.2.2.2.2.2.2.2.2.2.2.2.2.2.2.2.2.2.1) h).trans (chg_new _ _ _), fun h => ((HF.out.2.2.2.2.2.2.2.2.2.2.2.2.2.2.2.2.2.2.2.2.2.2) h).trans (chg_new _ _ _)⟩
        · rintro L a w' K0 ⟨v27, v28, v29, v30, v31, v32, v33, v34, v35, v36, v37, v38, v39, v40, rfl, hF⟩ hL hd hK
          have HF := hid hF
          clear hF
          obtain rfl := (HF.out.2.2.2.2.2.1) (hd ⟨5, .guard⟩ (by simp) rfl)
          have d7 := hd ⟨7, .data⟩ (by simp) rfl
          have d9 := hd ⟨9, .data⟩ (by simp) rfl
          have d3 := (HF.out.2.2.2.2.2.2.2.2.2.2.2.2.2.2.2.2.1) (hd ⟨5, .guard⟩ (by simp) rfl)
          obtain rfl := (HF.out.2.2.2.2.2.2.2.1) d7
          obtain ⟨g, rfl, hgb⟩ := (HF.out.2.2.2.2.2.2.2.2.2.1) d9 hL
          have n11 : L 11 = false := by cases h : L 11 with | false => rfl | true => exact absurd ((HF.out.2.2.2.2.2.2.2.2.2.2.2.2.2.2.2.2.2.2.1) h).2 (by rw [hL]; decide)
          have hc0 := (HF.out.2.2.2.2.2.2.2.2.2.2.2.2.2.2.2.2.2.2.2.2.2.1) hL
          have hpre1 := HPK.out.kept (hc0.block _ HPK.out.lt fun h => h)
          clear hd
          refine ⟨by first | rfl | simp [Region.wanted, yielded], ?_⟩
          refine wp_append_pre (.tmp 34) (.tmp 36) _ rfl Try.underlying23 HI.out.1 HI.out.2.2.1 HT.out rfl hpre1 htq rfl hgb fun w2 hp2 hc2 => ?_
          exact hK _ _ ⟨_, _, _, _, _, _, _, _, _, _, _, _, _, _, rfl, (HF.out.1), (HF.out.2.1), (HF.out.2.2.1), (HF.out.2.2.2.1), (HF.out.2.2.2.2.1), (HF.out.2.2.2.2.2.1), (HF.out.2.2.2.2.2.2.1), (HF.out.2.2.2.2.2.2.2.1), (HF.out.2.2.2.2.2.2.2.2.1), fun _ h => (by cases h), fun _ _ => ⟨rfl, hp2⟩, fun h => absurd h (by rw [show updL L 10 11 = L 11 from rfl, n11]; decide), (HF.out.2.2.2.2.2.2.2.2.2.2.2.2.1), (HF.out.2.2.2.2.2.2.2.2.2.2.2.2.2.1), (HF.out.2.2.2.2.2.2.2.2.2.2.2.2.2.2.1), (HF.out.2.2.2.2.2.2.2.2.2.2.2.2.2.2.2.1), (HF.out.2.2.2.2.2.2.2.2.2.2.2.2.2.2.2.2.1), fun _ => ⟨d3, d9⟩, fun h => ⟨((HF.out.2.2.2.2.2.2.2.2.2.2.2.2.2.2.2.2.2.2.1) h).1, rfl⟩, (HF.out.2.2.2.2.2.2.2.2.2.2.2.2.2.2.2.2.2.2.2.1), (HF.out.2.2.2.2.2.2.2.2.2.2.2.2.2.2.2.2.2.2.2.2.1), fun h => (by cases h), fun _ => (hc0.wide fun k hk => hk.elim).trans hc2⟩
        · rintro L a w' K0 ⟨v27, v28, v29, v30, v31, v32, v33, v34, v35, v36, v37, v38, v39, v40, rfl, hF⟩ hL hd hK
          have HF := hid hF
          clear hF
          obtain rfl := (HF.out.2.2.2.2.2.1) (hd ⟨5, .guard⟩ (by simp) rfl)
          have d6 := hd ⟨6, .data⟩ (by simp) rfl
          have d10 := hd ⟨10, .data⟩ (by simp) rfl
          obtain rfl := (HF.out.2.2.2.2.2.2.1) d6
          obtain ⟨rfl, hp2⟩ := (HF.out.2.2.2.2.2.2.2.2.2.2.1) d10 hL
          have hc2 := (HF.out.2.2.2.2.2.2.2.2.2.2.2.2.2.2.2.2.2.2.2.2.2.2) hL
          have n12 : L 12 = false := by cases h : L 12 with | false => rfl | true => exact absurd ((HF.out.2.2.2.2.2.2.2.2.2.2.2.2.2.2.2.2.2.2.2.1) h) (by rw [hL]; decide)
          have n13 : L 13 = false := by cases h : L 13 with | false => rfl | true => exact absurd ((HF.out.2.2.2.2.2.2.2.2.2.2.2.2.2.2.2.2.2.2.2.2.1) h) (by rw [hL]; decide)
          have hcall := HRC.out x (before ++ (p.take k).flatMap (stepR l r ps pre)) w' HXP.out (IT2.out.chg (hc2.wide fun k hk => .inr hk)) hp2 (hJs _ _ _ HJK.out hc2) HPRX.out
          rw [HT.out] at hcall
          clear hd
          refine ⟨by first | rfl | simp [Region.wanted, yielded], ?_⟩
          go_simp
          refine hcall.mono ?_
          rintro e w2 (⟨rfl, hJ2, hck2, hpk2⟩ | ⟨rfl, t2, ht2, hJx2⟩)
          · exact hK _ _ ⟨_, _, _, _, _, _, _, _, _, _, _, _, _, _, rfl, (HF.out.1), (HF.out.2.1), (HF.out.2.2.1), (HF.out.2.2.2.1), (HF.out.2.2.2.2.1), (HF.out.2.2.2.2.2.1), (HF.out.2.2.2.2.2.2.1), (HF.out.2.2.2.2.2.2.2.1), (HF.out.2.2.2.2.2.2.2.2.1), fun _ h => absurd h (by rw [show updL L 11 10 = L 10 from rfl, d10]; decide), fun _ h => (by cases h), fun _ => ⟨true, rfl, ⟨hJ2, (hc2.wide fun k hk => .inr hk).trans hck2, hpk2.short⟩⟩, fun h => absurd h (by rw [show updL L 11 12 = L 12 from rfl, n12]; decide), fun h => absurd h (by rw [show updL L 11 13 = L 13 from rfl, n13]; decide), (HF.out.2.2.2.2.2.2.2.2.2.2.2.2.2.2.1), (HF.out.2.2.2.2.2.2.2.2.2.2.2.2.2.2.2.1), (HF.out.2.2.2.2.2.2.2.2.2.2.2.2.2.2.2.2.1), (HF.out.2.2.2.2.2.2.2.2.2.2.2.2.2.2.2.2.2.1), fun _ => ⟨d6, d10⟩, fun _ => rfl, fun _ => rfl, fun h => absurd h (by rw [show updL L 11 10 = L 10 from rfl, d10]; decide), fun h => (by cases h)⟩
          · exact hK _ _ ⟨_, _, _, _, _, _, _, _, _, _, _, _, _, _, rfl, (HF.out.1), (HF.out.2.1), (HF.out.2.2.1), (HF.out.2.2.2.1), (HF.out.2.2.2.2.1), (HF.out.2.2.2.2.2.1), (HF.out.2.2.2.2.2.2.1), (HF.out.2.2.2.2.2.2.2.1), (HF.out.2.2.2.2.2.2.2.2.1), fun _ h => absurd h (by rw [show updL L 11 10 = L 10 from rfl, d10]; decide), fun _ h => (by cases h), fun _ => ⟨false, rfl, t2, ht2, hJx2⟩, fun h => absurd h (by rw [show updL L 11 12 = L 12 from rfl, n12]; decide), fun h => absurd h (by rw [show updL L 11 13 = L 13 from rfl, n13]; decide), (HF.out.2.2.2.2.2.2.2.2.2.2.2.2.2.2.1), (HF.out.2.2.2.2.2.2.2.2.2.2.2.2.2.2.2.1), (HF.out.2.2.2.2.2.2.2.2.2.2.2.2.2.2.2.2.1), (HF.out.2.2.2.2.2.2.2.2.2.2.2.2.2.2.2.2.2.1), fun _ => ⟨d6, d10⟩, fun _ => rfl, fun _ => rfl, fun h => absurd h (by rw [show updL L 11 10 = L 10 from rfl, d10]; decide), fun h => (by cases h)⟩
        · rintro L a w' K0 ⟨v27, v28, v29, v30, v31, v32, v33, v34, v35, v36, v37, v38, v39, v40, rfl, hF⟩ hL hd hK
          have HF := hid hF
          clear hF
          obtain rfl := (HF.out.2.2.2.2.2.1) (hd ⟨5, .guard⟩ (by simp) rfl)
          have d11 := hd ⟨11, .data⟩ (by simp) rfl
          obtain ⟨z, rfl, hz⟩ := (HF.out.2.2.2.2.2.2.2.2.2.2.2.1) d11
          clear hd
          refine ⟨by first | rfl | simp [Region.wanted, yielded], ?_⟩
          go_simp
          exact hK _ _ ⟨_, _, _, _, _, _, _, _, _, _, _, _, _, _, rfl, (HF.out.1), (HF.out.2.1), (HF.out.2.2.1), (HF.out.2.2.2.1), (HF.out.2.2.2.2.1), (HF.out.2.2.2.2.2.1), (HF.out.2.2.2.2.2.2.1), (HF.out.2.2.2.2.2.2.2.1), (HF.out.2.2.2.2.2.2.2.2.1), (HF.out.2.2.2.2.2.2.2.2.2.1), (HF.out.2.2.2.2.2.2.2.2.2.2.1), (HF.out.2.2.2.2.2.2.2.2.2.2.2.1), fun _ z h => by injection h with h; subst h; rfl, (HF.out.2.2.2.2.2.2.2.2.2.2.2.2.2.1), (HF.out.2.2.2.2.2.2.2.2.2.2.2.2.2.2.1), (HF.out.2.2.2.2.2.2.2.2.2.2.2.2.2.2.2.1), (HF.out.2.2.2.2.2.2.2.2.2.2.2.2.2.2.2.2.1), (HF.out.2.2.2.2.2.2.2.2.2.2.2.2.2.2.2.2.2.1), (HF.out.2.2.2.2.2.2.2.2.2.2.2.2.2.2.2.2.2.2.1), fun _ => d11, (HF.out.2.2.2.2.2.2.2.2.2.2.2.2.2.2.2.2.2.2.2.2.1), (HF.out.2.2.2.2.2.2.2.2.2.2.2.2.2.2.2.2.2.2.2.2.2.1), (HF.out.2.2.2.2.2.2.2.2.2.2.2.2.2.2.2.2.2.2.2.2.2.2)⟩
        · rintro L a w' K0 ⟨v27, v28, v29, v30, v31, v32, v33, v34, v35, v36, v37, v38, v39, v40, rfl, hF⟩ hL hd hK
          have HF := hid hF
          clear hF
          obtain rfl := (HF.out.2.2.2.2.2.1) (hd ⟨5, .data⟩ (by simp) rfl)
          have d12 := hd ⟨12, .data⟩ (by simp) rfl
          have d11 := (HF.out.2.2.2.2.2.2.2.2.2.2.2.2.2.2.2.2.2.2.2.1) d12
          obtain ⟨z, rfl, hz⟩ := (HF.out.2.2.2.2.2.2.2.2.2.2.2.1) d11
          obtain rfl := (HF.out.2.2.2.2.2.2.2.2.2.2.2.2.1) d12 z rfl
          clear hd
          refine ⟨by first | rfl | simp [Region.wanted, yielded], ?_⟩
          go_simp
          exact hK _ _ ⟨_, _, _, _, _, _, _, _, _, _, _, _, _, _, rfl, (HF.out.1), (HF.out.2.1), (HF.out.2.2.1), (HF.out.2.2.2.1), (HF.out.2.2.2.2.1), (HF.out.2.2.2.2.2.1), (HF.out.2.2.2.2.2.2.1), (HF.out.2.2.2.2.2.2.2.1), (HF.out.2.2.2.2.2.2.2.2.1), (HF.out.2.2.2.2.2.2.2.2.2.1), (HF.out.2.2.2.2.2.2.2.2.2.2.1), (HF.out.2.2.2.2.2.2.2.2.2.2.2.1), (HF.out.2.2.2.2.2.2.2.2.2.2.2.2.1), fun _ z h => by injection h with h; subst h; rfl, (HF.out.2.2.2.2.2.2.2.2.2.2.2.2.2.2.1), (HF.out.2.2.2.2.2.2.2.2.2.2.2.2.2.2.2.1), (HF.out.2.2.2.2.2.2.2.2.2.2.2.2.2.2.2.2.1), (HF.out.2.2.2.2.2.2.2.2.2.2.2.2.2.2.2.2.2.1), (HF.out.2.2.2.2.2.2.2.2.2.2.2.2.2.2.2.2.2.2.1), (HF.out.2.2.2.2.2.2.2.2.2.2.2.2.2.2.2.2.2.2.2.1), fun _ => d11, (HF.out.2.2.2.2.2.2.2.2.2.2.2.2.2.2.2.2.2.2.2.2.2.1), (HF.out.2.2.2.2.2.2.2.2.2.2.2.2.2.2.2.2.2.2.2.2.2.2)⟩
        · rintro L a w' hLL ⟨v27, v28, v29, v30, v31, v32, v33, v34, v35, v36, v37, v38, v39, v40, rfl, f0, f1, f2, f3, f4, f5, f6, f7, f8, f9, f10, f11, f12, f13, g3, g4, g5, g10, g11, g12, g13, w10, w11⟩
          obtain ⟨z, rfl, hz⟩ := f11 (hLL 11 (by simp))
          obtain rfl := f13 (hLL 13 (by simp)) z rfl
          clear f0 f1 f2 f3 f4 f5 f6 f7 f8 f9 f10 f11 f12 f13 g3 g4 g5 g10 g11 g12 g13 w10 w11 hLL
          cases z with
          | true =>
            obtain ⟨hJ2, hck2, hpk2⟩ := hz
            simp only [Bool.not_true]
            go_wp2_with fail
            go_roundg (gk - 1)
            case measure => have := HKG.out; omega
            case rel => exact ⟨k + 1, by have := HKG.out; omega, by go_num, by rw [HFT.out, HXE.out, HST.out, ← List.append_assoc]; exact hJ2, HCK.out.trans hck2, hpk2⟩
          | false =>
            obtain ⟨t2, ht2, hJx2⟩ := hz
            simp only [Bool.not_false]
            go_wp2_with fail
            go_ret
            refine .inr ⟨rfl, (p.take k).flatMap (stepR l r ps pre) ++ t2, ?_, by rw [← List.append_assoc]; exact hJx2⟩
            rw [readsOf_cons]
            refine List.IsPrefix.trans ?_ (flat_prefix hlt)
            rw [List.prefix_append_right_inj, HXE.out, HST.out]
            exact ht2
end
end Go.Proofs.Ytfjoininagdlcaa
