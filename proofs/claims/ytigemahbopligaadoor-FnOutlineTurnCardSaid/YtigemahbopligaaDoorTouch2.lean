/- How many points of an outline were there already: what the program's function returns. -/
import Derived.Test.YtigemahbopligaaDoorEnds
import Derived.Test.YtigemahbopligaaDoorTouchPure
import Derived.Test.YtigemahbopligaaDoorSeat
import Derived.Deep.LoopGhost
import Derived.Deep.CutRange
import Derived.Maps.OwnOps
import Derived.DeepKeys4
import Derived.Test.YtigemahbopligaaDoorMapTwo
namespace Go.Proofs.YtigemahbopligaaDoor
open Go.RowKit Go.Maps
theorem grid_law : WideMaps.KeyLaw Tryd.prog 53 := deep_law_laid Tryd.laidOut (m := 2) (by omega) (of_decide_eq_true (by kernel_rfl)) (by kernel_rfl) (by rw [Tryd.underlying53])
theorem grid_keyed : Keyed Tryd.prog 53 := Keyed.of_law grid_law
theorem grid_zero (w : World) : (zeroValue 3).run Tryd.prog w = .ok (.int .i64 0) w := by kernel_rfl
theorem wf64 {x : Int} (h : -100 ≤ x ∧ x ≤ 100) : (Lit.int .i64 x).wf = true := WalkArith.wf_i64 (by omega)
/-- What a point reads as, as a map's key. -/
def klit (p : Int × Int) : Lit := (DataW.agg [.lit (.int .i64 p.1), .lit (.int .i64 p.2)] : DataW Unit).asKey
theorem grid_key (p : Int × Int) (hx : -100 ≤ p.1 ∧ p.1 ≤ 100) (hy : -100 ≤ p.2 ∧ p.2 ≤ 100) : keyOf Tryd.prog 53 (.agg #[.int .i64 p.1, .int .i64 p.2]) = some (klit p) := by
  have c1 : Tryd.prog.cellsOf 3 = 1 := by kernel_rfl
  have c2 : Tryd.prog.cellsOf 53 = 2 := by kernel_rfl
  refine (keyOf_asKey (H := Unit) (enc := fun _ => ()) (w := default) (base := 0) (sp := fun _ => true) (held := true) (ps := []) (by kernel_rfl) (by rw [Tryd.underlying53]) (by simp [Value.formed, Tryd.underlying53, c2]) ⟨3, ?_⟩).1
  simp [DataW.trod, Tryd.underlying53, Tryd.underlying3, Value.cells, c1, c2, wf64 hx, wf64 hy]
/-- Block b is a map whose entry at each small point p is f p. -/
def MapG (w : World) (b n : Nat) (f : Int × Int → Int) : Prop :=
  ∃ D : DataW Unit, w.ownsMap Tryd.prog 53 (plainElem Tryd.prog 3) b n D ∧ IsMap D ∧ ∀ p : Int × Int, (-100 ≤ p.1 ∧ p.1 ≤ 100) → (-100 ≤ p.2 ∧ p.2 ≤ 100) → D.atKey (klit p) (.lit (.int .i64 0)) = .lit (.int .i64 (f p))
theorem MapG.look {w : World} {b n : Nat} {f : Int × Int → Int} (h : MapG w b n f) (p : Int × Int) (hx : -100 ≤ p.1 ∧ p.1 ≤ 100) (hy : -100 ≤ p.2 ∧ p.2 ≤ 100) :
    (Instr.lookup 57 (.map (some b)) (.agg #[.int .i64 p.1, .int .i64 p.2]) false).run Tryd.prog w = .ok (.int .i64 (f p)) w := by
  obtain ⟨D, ho, _, hf⟩ := h
  obtain ⟨c, hrun, hat, _⟩ := ho.lookup_int grid_keyed Tryd.underlying57 Tryd.underlying3 (grid_zero _) (grid_key p hx hy)
  have := hat.symm.trans (hf p hx hy)
  injection this with this
  injection this with _ this
  rw [← this]; exact hrun
theorem MapG.made (w : World) : MapG (w.alloc (.map #[] 0)) w.heap.size 0 (fun _ => 0) :=
  ⟨_, World.ownsMap_made w _ _ _, isMap_empty, fun _ _ _ => rfl⟩
theorem MapG.chg {w w' : World} {b n : Nat} {f : Int × Int → Int} (h : MapG w b n f) {D : Nat → Prop} (hc : Chg D w w') (hd : ¬ D b) : MapG w' b n f := by
  obtain ⟨E, ⟨es, clock, h1, h2⟩, h3⟩ := h
  exact ⟨E, ⟨es, clock, (hc.block b (Array.getElem?_eq_some_iff.1 h1).1 hd).trans h1, h2⟩, h3⟩
theorem chg_grown {w w' : World} {b : Nat} (h : w.grownBy w' (some b)) : Chg (fun k => k = b) w w' := ⟨h.os, h.tape, h.output, h.size, fun k hk hd => h.block k hk fun e => hd (Option.some.inj e)⟩
/-- f, but v at p. -/
def updG (f : Int × Int → Int) (p : Int × Int) (v : Int) : Int × Int → Int := fun q => if q = p then v else f q
theorem updG_self (f : Int × Int → Int) (p : Int × Int) : updG f p (f p) = f := by
  funext q
  unfold updG
  split
  · next h => rw [h]
  · rfl
theorem klit_ne {p q : Int × Int} (hx : -100 ≤ p.1 ∧ p.1 ≤ 100) (hy : -100 ≤ p.2 ∧ p.2 ≤ 100) (qx : -100 ≤ q.1 ∧ q.1 ≤ 100) (qy : -100 ≤ q.2 ∧ q.2 ≤ 100) (h : q ≠ p) : klit q ≠ klit p := fun e => by
  have h1 := grid_key q qx qy
  rw [e] at h1
  have := grid_law.inj h1 (grid_key p hx hy)
  apply h
  have a1 := congrArg (fun v : Value => match v with | .agg c => c | _ => #[]) this
  simp only [] at a1
  have a2 := congrArg (fun c : Array Value => (c[0]?, c[1]?)) a1
  simp at a2
  exact Prod.ext a2.1 a2.2
theorem MapG.upd {w w' : World} {b n : Nat} {f : Int × Int → Int} (h : MapG w b n f) (hn : n < 1000) (p : Int × Int) (hx : -100 ≤ p.1 ∧ p.1 ≤ 100) (hy : -100 ≤ p.2 ∧ p.2 ≤ 100) {v : Int} (hv : (Lit.int .i64 v).wf = true)
    (hrun : (Instr.mapUpdate 57 (.map (some b)) (.agg #[.int .i64 p.1, .int .i64 p.2]) (.int .i64 v)).run Tryd.prog w = .ok () w') : MapG w' b (n + 1) (updG f p v) ∧ w.grownBy w' (some b) := by
  obtain ⟨D, ho, hm, hf⟩ := h
  obtain ⟨w2, h1, h2, h3⟩ := ho.update grid_keyed Tryd.underlying57 (by unfold maxLen; omega) (grid_key p hx hy) (plainElem_int Tryd.underlying3 hv)
  rw [hrun] at h1
  injection h1 with _ h1
  subst h1
  refine ⟨⟨_, h2, hm.put _ _, fun q qx qy => ?_⟩, h3⟩
  by_cases e : q = p
  · subst e
    rw [atKey_put_same hm (grid_keyed.key (grid_key q hx hy))]
    simp [updG]
  · rw [atKey_put_other (klit_ne hx hy qx qy e), hf q qx qy]
    simp [updG, e]
theorem MapG.entry {w : World} {b n : Nat} {f : Int × Int → Int} (h : MapG w b n f) (hn : n < 1000) (p : Int × Int) (hx : -100 ≤ p.1 ∧ p.1 ≤ 100) (hy : -100 ≤ p.2 ∧ p.2 ≤ 100) (hw : (Lit.int .i64 (f p)).wf = true) :
    ∃ (st : Int) (w1 : World), (Instr.mapEntry 57 (.map (some b)) (.agg #[.int .i64 p.1, .int .i64 p.2])).run Tryd.prog w = .ok (.tuple #[.int .i64 (f p), .int .i64 st]) w1 ∧ MapG w1 b (n + 1) f ∧ w.grownBy w1 (some b) ∧
      ∀ v : Int, (Lit.int .i64 v).wf = true → ∃ w2, (Instr.entryStore 57 (.map (some b)) (.int .i64 st) (.int .i64 v)).run Tryd.prog w1 = .ok () w2 ∧ MapG w2 b (n + 1) (updG f p v) ∧ w.grownBy w2 (some b) := by
  have h0 := h
  have hlk := h.look p hx hy
  obtain ⟨D, ⟨es, clock, hb, F, hs, hD⟩, hm, hf⟩ := h
  obtain ⟨v0, st, es1, clock1, r1, r2, r3, r4⟩ := entry_two grid_law Tryd.underlying57 grid_zero hb F (grid_key p hx hy)
  rw [hlk] at r3
  injection r3 with r3 _
  subst r3
  obtain ⟨m1, g1⟩ := h0.upd hn p hx hy hw r2
  rw [updG_self] at m1
  refine ⟨(st : Int), _, r1, m1, g1, fun v hv => ?_⟩
  obtain ⟨es', clock', e1, e2⟩ := r4 _ (.int .i64 v) (Go.ChangeMaps.heap_setBlock_same hb _)
  rw [setBlock_two] at e1
  obtain ⟨m2, g2⟩ := h0.upd hn p hx hy hv e2
  exact ⟨_, e1, m2, g2⟩
set_option maxRecDepth 100000 in
set_option maxHeartbeats 1000000 in
theorem implOutlineTouches_any (A : Option Addr) (n c lo : Nat) (o : List (Int × Int)) (w : World) (hx : Rd strokeS lo w.heap.size w A n o) (hT : Tabs w) :
    Calls Tryd.prog 17 #[.slice A n c] w fun e w' => e = .returned (.int .i64 (touOf o)) ∧ Below w.heap.size w w' := by
  have HV := hid (chainOf_any A n c lo o w hx)
  clear hx
  by_cases hok : outOk o = true
  case neg =>
    have hok' : outOk o = false := by simpa using hok
    have HH := hid (show touOf o = -1 by simp [touOf, hok'])
    clear hok
    go_enter Tryd.func17, Tryd.ntmps17
    go_wp2_with fail
    refine HV.out.mono ?_
    rintro e w1 ⟨p, rfl, hb1, _⟩
    go_wp2
    go_ret
    exact ⟨ret_int HH.out.symm, hb1⟩
  case pos =>
    obtain ⟨hl, h8⟩ := outOk_yes hok
    have HK := linked_ok hl
    have HP := hid (ptsO_pens HK)
    have hm := ptsO_length HK
    have hm25 : (ptsO o).length ≤ 25 := by omega
    have HBD := hid (ptsO_bd HK)
    have HH := hid (show touOf o = touL [] (ptsO o) by simp [touOf, hok])
    have HB := hid (show ∀ x ∈ o.map penN, 0 ≤ x ∧ x ≤ 23 from fun x hx => by
      obtain ⟨y, hy, rfl⟩ := List.mem_map.1 hx
      exact penN_bd (HK y hy))
    have HT := hid hT
    clear hl HK hT hm
    have hmm := @run_makeMap Tryd.prog
    go_enter Tryd.func17, Tryd.ntmps17
    go_wp2_with fail
    refine HV.out.mono ?_
    rintro e w1 ⟨p, rfl, hb1, hC⟩
    have hC1 := hid (hC hok)
    clear hC
    have HOK := hid hok
    go_wp2_with fail
    have c2 := bnew w1 (.map #[] 0)
    have hb2 := btr hb1 c2
    have hM := MapG.made w1
    have hz2 : w1.heap.size < (w1.alloc (.map #[] 0)).heap.size := by simp
    generalize w1.alloc (.map #[] 0) = w2 at *
    refine (points_any p _ _ _ _ (hC1.out.below c2 (Nat.le_refl _)) c2.size HB.out (by rw [List.length_map]; exact h8) (HT.out.bl hb2)).mono ?_
    rintro e w3 ⟨A2, c3, rfl, hO, hb3⟩
    rw [HP.out] at hO
    rw [HP.out]
    have HR := hid (hO.rd (by omega)).2
    have HB3 := hid (btr hb2 hb3)
    have hz3 : w1.heap.size < w3.heap.size := by have := hb3.size; omega
    have HM3 := hid (hM.chg (chg_below hb3) (by omega))
    clear hO hb2 hb3 c2 hM hok
    have hwz := hb1.size
    clear hb1 hmm
    have hL : (ptsO o).length = (ptsO o).length := rfl
    generalize ptsO o = l at *
    clear hL
    go_wp2
    go_loopg [5, 20] l.length (fun gk t i wr => ∃ (k : Nat) (z : Int), k + gk = l.length ∧ i = .int .i64 k ∧ t = .int .i64 z ∧ 0 ≤ z ∧ z ≤ k ∧ touL [] l = z + touL (l.take k) (l.drop k) ∧ Chg (fun b => b = w1.heap.size) w3 wr ∧ MapG wr w1.heap.size k (cntP (l.take k)))
    case atStart => exact ⟨0, 0, Nat.zero_add _, rfl, rfl, by omega, by omega, by simp, Chg.refl _ _, HM3.out⟩
    case round =>
      obtain ⟨k, z, hkg, rfl, rfl, hz0, hz1, hr, hc, hM⟩ := hrel
      have hk : k ≤ l.length := by omega
      have HKG := hid hkg
      have HRR := hid hr
      have HM := hid hM
      clear hkg hr hM
      by_cases hlt : k < l.length
      case neg =>
        obtain rfl : k = l.length := by omega
        have HF := hid (show touOf o = z by rw [HH.out, HRR.out, List.drop_length]; simp [touL])
        go_wp2
        go_ret
        exact ⟨ret_int HF.out.symm, HB3.out.trans (hc.below (by omega) (by omega))⟩
      case pos =>
        have hki : (k : Int) < (l.length : Int) := by omega
        have hd := hid (drop_gt hlt)
        have ht := hid (take_gt hlt)
        have hr := HR.out.2.2
        obtain ⟨b, off, rfl, hbl, hbb, hcx⟩ := hr (by omega)
        have cx := hc.cell (by omega) (hcx.stroke hlt).1
        have cy := hc.cell (by omega) (hcx.stroke hlt).2
        clear hr hcx
        have hq := HBD.out _ (gt_mem hlt)
        obtain ⟨pt, hpt⟩ : ∃ q, gt l k = q := ⟨_, rfl⟩
        rw [hpt] at cx cy hq
        have hpx : -100 ≤ pt.1 ∧ pt.1 ≤ 100 := by omega
        have hpy : -100 ≤ pt.2 ∧ pt.2 ≤ 100 := by omega
        have HPT := hid hpt
        have HPP := hid (And.intro hpx hpy)
        clear hpt hq hpx hpy
        have c7 := chg_new wr (.cells #[.int .i64 pt.1, .int .i64 pt.2] 53) (fun b => b = w1.heap.size)
        have hp7 := heap_alloc_new wr (.cells #[.int .i64 pt.1, .int .i64 pt.2] 53)
        have hzr := hc.size
        have HM7 := hid (HM.out.chg (chg_below (bnew wr (.cells #[.int .i64 pt.1, .int .i64 pt.2] 53))) (by omega))
        have hlk := HM7.out.look pt HPP.out.1 HPP.out.2
        obtain ⟨cn, hcn⟩ : ∃ c, cntP (l.take k) pt = c := ⟨_, rfl⟩
        rw [hcn] at hlk
        have hcb := cntP_bd (l.take k) pt
        rw [hcn] at hcb
        have hcb2 : cn ≤ k := by have := List.length_take_le k l; omega
        have hcb1 := hcb.1
        have HCN := hid hcn
        have HF := hid (show touL [] l = z + bitI (decide (0 < cn)) + touL (l.take (k + 1)) (l.drop (k + 1)) by
          rw [HRR.out, hd.out, touL, ht.out, HPT.out, ← hcn, cntP_pos]
          omega)
        have HUP := hid (show updG (cntP (l.take k)) pt (cn + 1) = cntP (l.take (k + 1)) by
          funext q
          rw [ht.out, HPT.out, cntP_snoc]
          unfold updG
          by_cases e : q = pt
          · subst e; simp [hcn, eqD_self, bitI]
          · rw [if_neg e, eqD_no (fun e' => e e'.symm)]; simp [bitI])
        have HM7d := hid (HM7.out.chg (chg_below (bdr _)) (by simp; omega))
        obtain ⟨st, w8, hme, hM8, hg8, hst⟩ := HM7d.out.entry (by omega) pt HPP.out.1 HPP.out.2 (by rw [hcn]; exact WalkArith.wf_i64 (by omega))
        obtain ⟨w9, hes, hM9, hg9⟩ := hst (cn + 1) (WalkArith.wf_i64 (by omega))
        have hlk7 := HM7d.out.look pt HPP.out.1 HPP.out.2
        have hlk8 := hM8.look pt HPP.out.1 HPP.out.2
        rw [hcn] at hlk7 hlk8 hme
        rw [HUP.out] at hM9
        have HM9 := hid hM9
        have HG9 := hid hg9
        have h8b := hg8.block wr.heap.size (by simp) (by simp; omega)
        clear hM8 hM9 hg8 hg9 hst hcn hcb
        obtain ⟨p0, p1, _, _⟩ := at_get hp7
        obtain ⟨r0, r1, _, _⟩ := at_get (h8b.trans hp7)
        clear hp7 h8b
        go_upto_region 9 with (fail)
        generalize wr.alloc (.cells #[.int .i64 pt.1, .int .i64 pt.2] 53) = w7 at *
        by_cases hpos : 0 < cn
        case pos =>
          have hd1 : decide (0 < cn) = true := by simpa using hpos
          go_wp2_with fail
          go_region
          clear hlk hlk7 hlk8 hme hes p0 p1 r0 r1
          go_wp2_with fail
          go_roundg (gk - 1)
          case measure => have := HKG.out; omega
          case rel => exact ⟨k + 1, z + 1, by have := HKG.out; omega, by go_num, rfl, by omega, by omega, HF.out.trans (by rw [hd1]; rfl), hc.trans (c7.trans ((Chg.refl _ _).drew.trans (chg_grown HG9.out))), HM9.out⟩
        case neg =>
          have hd1 : decide (0 < cn) = false := by simpa using hpos
          go_wp2_with fail
          go_region
          clear hlk hlk7 hlk8 hme hes p0 p1 r0 r1
          go_wp2_with fail
          go_roundg (gk - 1)
          case measure => have := HKG.out; omega
          case rel => exact ⟨k + 1, z, by have := HKG.out; omega, by go_num, rfl, by omega, by omega, HF.out.trans (by rw [hd1]; simp [bitI]), hc.trans (c7.trans ((Chg.refl _ _).drew.trans (chg_grown HG9.out))), HM9.out⟩
end Go.Proofs.YtigemahbopligaaDoor
