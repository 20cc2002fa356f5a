/- The box of an outline: what the program's and the reference's functions return. -/
import Derived.Test.YtigemahbopligaaDoorEnds
import Derived.BigRegion
import Derived.Deep.LoopGhost
import Derived.Deep.CutRange
namespace Go.Proofs.YtigemahbopligaaDoor
open Go.RowKit
def minL (m : Int) : List Int → Int
  | [] => m
  | x :: r => minL (if x < m then x else m) r
def maxL (m : Int) : List Int → Int
  | [] => m
  | x :: r => maxL (if m < x then x else m) r
def spanL (l : List Int) : Int := maxL (gt l 0) l - minL (gt l 0) l
def boxX (o : List (Int × Int)) : Int := if outOk o then spanL ((ptsO o).map (·.1)) else 0
def boxY (o : List (Int × Int)) : Int := if outOk o then spanL ((ptsO o).map (·.2)) else 0
theorem pts_span {o : List (Int × Int)} : spanL ((ptsO o).map (·.1)) = maxL 0 ((ptsO o).map (·.1)) - minL 0 ((ptsO o).map (·.1)) ∧ spanL ((ptsO o).map (·.2)) = maxL 0 ((ptsO o).map (·.2)) - minL 0 ((ptsO o).map (·.2)) := ⟨rfl, rfl⟩
set_option maxRecDepth 100000 in
set_option maxHeartbeats 1000000 in
theorem l1Span_any (A : Option Addr) (n c lo : Nat) (l : List Int) (w : World) (hx : Rd intS lo w.heap.size w A n l) (h0 : 0 < n) (hbd : ∀ x ∈ l, -100 ≤ x ∧ x ≤ 100) :
    Calls Tryd.prog 37 #[.slice A n c] w fun e w' => e = .returned (.int .i64 (spanL l)) ∧ w = w' := by
  obtain ⟨e1, e2, e3⟩ := hx
  obtain ⟨b, off, rfl, _, hbb, hcx⟩ := e3 h0
  have E1 := hid e1; clear e1
  have CX := hid fun k (hk : k < n) => hcx.int hk
  have c0 := hcx.int h0
  have HBD := hid hbd
  obtain ⟨f1, f2⟩ := hbd _ (gt_mem (l := l) (k := 0) (by rw [← E1.out]; exact h0))
  clear hcx e3 hbd
  have h0i : (0 : Int) < (n : Int) := by omega
  rw [Nat.add_zero] at c0
  go_enter Tryd.func37, Tryd.ntmps37
  go_wp2
  go_loop [3, 4, 5] (fun low high i => ∃ (k : Nat) (x y : Int), k ≤ n ∧ i = .int .i64 k ∧ low = .int .i64 x ∧ high = .int .i64 y ∧ -100 ≤ x ∧ x ≤ 100 ∧ -100 ≤ y ∧ y ≤ 100 ∧ spanL l = maxL y (l.drop k) - minL x (l.drop k)) (fun _ _ i => n - (intOf i).toNat)
  case atStart => exact ⟨0, gt l 0, gt l 0, Nat.zero_le _, rfl, rfl, rfl, f1, f2, f1, f2, rfl⟩
  case round =>
    obtain ⟨k, x, y, hk, rfl, rfl, rfl, x1, x2, y1, y2, hr⟩ := hrel
    have HR := hid hr; clear hr
    by_cases hlt : k < n
    · have cx := CX.out k hlt
      have hd := hid (drop_gt (l := l) (by rw [← E1.out]; exact hlt))
      obtain ⟨g1, g2⟩ := HBD.out _ (gt_mem (l := l) (by rw [← E1.out]; exact hlt))
      have hki : (k : Int) < (n : Int) := by omega
      go_wp2
      refine ⟨⟨k + 1, _, _, by omega, by go_num, rfl, rfl, ?_, ?_, ?_, ?_, by rw [HR.out, hd.out]; rfl⟩, ?_⟩
      · split <;> omega
      · split <;> omega
      · split <;> omega
      · split <;> omega
      · simp [intOf]; omega
    · obtain rfl : k = n := by omega
      have hnil : l.drop k = [] := List.drop_eq_nil_of_le (by rw [E1.out]; omega)
      have HF := hid (show spanL l = y - x by rw [HR.out, hnil]; rfl)
      clear hnil
      go_wp2
      go_ret
      exact ⟨ret_int HF.out.symm, rfl⟩
set_option maxRecDepth 100000 in
set_option maxHeartbeats 1000000 in
theorem specOutlineBox_any (A : Option Addr) (n c lo : Nat) (o : List (Int × Int)) (w : World) (hx : Rd strokeS lo w.heap.size w A n o) :
    Calls Tryd.prog 12 #[.slice A n c] w fun e w' => e = .returned (.tuple #[.int .i64 (boxX o), .int .i64 (boxY o), .bool (outOk o)]) ∧ Below w.heap.size w w' := by
  have HX := hid hx
  have hno := hid hx.1
  have HV := hid (specOutlineValid_any A n c lo o w hx)
  clear hx
  by_cases hok : outOk o = true
  case neg =>
    have hok' : outOk o = false := by simpa using hok
    have HH := hid (show boxX o = 0 ∧ boxY o = 0 by simp [boxX, boxY, hok'])
    clear hok
    go_enter Tryd.func12, Tryd.ntmps12
    go_wp2_with fail
    refine HV.out.mono ?_
    rintro e w1 ⟨rfl, hb1⟩
    rw [hok']
    go_wp2
    go_ret3
    exact ⟨ret_iib HH.out.1.symm HH.out.2.symm hok'.symm, hb1⟩
  case pos =>
    obtain ⟨hl, h8⟩ := outOk_yes hok
    have HK := linked_ok hl
    have hm := ptsO_length HK
    have hm1 := hm.1
    have hm25 : (ptsO o).length ≤ 25 := by omega
    have HBD := hid (ptsO_bd HK)
    have HH := hid (show boxX o = spanL ((ptsO o).map (·.1)) ∧ boxY o = spanL ((ptsO o).map (·.2)) by simp [boxX, boxY, hok])
    have HKK := hid HK
    clear hl HK hm
    go_enter Tryd.func12, Tryd.ntmps12
    go_wp2_with fail
    refine HV.out.mono ?_
    rintro e w1 ⟨rfl, hb1⟩
    rw [hok]
    have HOK := hid hok
    clear hok
    go_wp2_with fail
    refine (l1Points_any A n c lo o w1 (HX.out.bl hb1) HKK.out (by rw [hno.out]; exact h8)).mono ?_
    rintro e w2 ⟨B, b, C, d, rfl, hX, hY, hb2⟩
    have RX := hid (hX.rd (by rw [List.length_map]; omega)).2
    have RY := hid (hY.rd (by rw [List.length_map]; omega)).2
    have HB12 := hid (btr hb1 hb2)
    clear hX hY hb1 hb2
    go_wp2_with fail
    refine (l1Span_any _ _ _ _ _ _ RX.out hm1 (fun x hx => by obtain ⟨p, hp, rfl⟩ := List.mem_map.1 hx; have := HBD.out p hp; omega)).mono ?_
    rintro e w' ⟨rfl, rfl⟩
    go_wp2_with fail
    refine (l1Span_any _ _ _ _ _ _ RY.out hm1 (fun x hx => by obtain ⟨p, hp, rfl⟩ := List.mem_map.1 hx; have := HBD.out p hp; omega)).mono ?_
    rintro e w' ⟨rfl, rfl⟩
    go_wp2
    go_ret3
    exact ⟨ret_iib HH.out.1.symm HH.out.2.symm HOK.out.symm, HB12.out⟩
/-- Two stores into the first ¦ the second cells of two blocks, and a draw. -/
theorem two_set0 {w : World} {b c e : Nat} {x y u v s t : Value} (hbc : b ≠ c) (h1 : w.heap[b]? = some (.cells #[x, y] e (0, 0))) (h2 : w.heap[c]? = some (.cells #[u, v] e (0, 0))) :
    ∃ w', ((w.setCell ⟨b, 0, none⟩ s).setCell ⟨c, 0, none⟩ t).drew = w' ∧ w'.heap[b]? = some (.cells #[s, y] e (0, 0)) ∧ w'.heap[c]? = some (.cells #[t, v] e (0, 0)) ∧ Chg (fun k => k = b ∨ k = c) w w' :=
  ⟨_, rfl, (Below.heap_setCell (w.setCell ⟨b, 0, none⟩ s) ⟨c, 0, none⟩ t b hbc).trans (at_set0 h1), at_set0 ((Below.heap_setCell w ⟨b, 0, none⟩ s c (Ne.symm hbc)).trans h2),
    (((Chg.refl (fun k => k = b ∨ k = c) w).set (p := ⟨b, 0, none⟩) (.inl rfl) s).set (p := ⟨c, 0, none⟩) (.inr rfl) t).drew⟩
theorem two_set1 {w : World} {b c e : Nat} {x y u v s t : Value} (hbc : b ≠ c) (h1 : w.heap[b]? = some (.cells #[x, y] e (0, 0))) (h2 : w.heap[c]? = some (.cells #[u, v] e (0, 0))) :
    ∃ w', ((w.setCell ⟨b, 1, none⟩ s).setCell ⟨c, 1, none⟩ t).drew = w' ∧ w'.heap[b]? = some (.cells #[x, s] e (0, 0)) ∧ w'.heap[c]? = some (.cells #[u, t] e (0, 0)) ∧ Chg (fun k => k = b ∨ k = c) w w' :=
  ⟨_, rfl, (Below.heap_setCell (w.setCell ⟨b, 1, none⟩ s) ⟨c, 1, none⟩ t b hbc).trans (at_set1 h1), at_set1 ((Below.heap_setCell w ⟨b, 1, none⟩ s c (Ne.symm hbc)).trans h2),
    (((Chg.refl (fun k => k = b ∨ k = c) w).set (p := ⟨b, 1, none⟩) (.inl rfl) s).set (p := ⟨c, 1, none⟩) (.inr rfl) t).drew⟩
theorem box_chg {D : Nat → Prop} {a b c d e : World} (h1 : Chg D a b) (h2 : Below b.heap.size b c) (h3 : Chg D c d) (h4 : Chg D d e) : Chg D a e :=
  h1.trans (Chg.trans ⟨h2.os, h2.tape, h2.output, h2.size, fun i hi _ => h2.block i hi⟩ (h3.trans h4))
set_option maxRecDepth 100000 in
set_option maxHeartbeats 2000000 in
theorem implOutlineBox_any (A : Option Addr) (n c lo : Nat) (o : List (Int × Int)) (w : World) (hx : Rd strokeS lo w.heap.size w A n o) (hT : Tabs w) :
    Calls Tryd.prog 14 #[.slice A n c] w fun e w' => e = .returned (.tuple #[.int .i64 (boxX o), .int .i64 (boxY o), .bool (outOk o)]) ∧ Below w.heap.size w w' := by
  have HV := hid (chainOf_any A n c lo o w hx)
  clear hx
  by_cases hok : outOk o = true
  case neg =>
    have hok' : outOk o = false := by simpa using hok
    have HH := hid (show boxX o = 0 ∧ boxY o = 0 by simp [boxX, boxY, hok'])
    clear hok
    go_enter Tryd.func14, Tryd.ntmps14
    go_wp2_with fail
    refine HV.out.mono ?_
    rintro e w1 ⟨p, rfl, hb1, _⟩
    go_wp2
    go_ret3
    exact ⟨ret_iib HH.out.1.symm HH.out.2.symm hok'.symm, hb1⟩
  case pos =>
    obtain ⟨hl, h8⟩ := outOk_yes hok
    have HK := linked_ok hl
    have HP := hid (ptsO_pens HK)
    have hm := ptsO_length HK
    have hm25 : (ptsO o).length ≤ 25 := by omega
    have HBD := hid (ptsO_bd HK)
    have HH := hid (show boxX o = maxL 0 ((ptsO o).map (·.1)) - minL 0 ((ptsO o).map (·.1)) ∧ boxY o = maxL 0 ((ptsO o).map (·.2)) - minL 0 ((ptsO o).map (·.2)) by rw [← pts_span.1, ← pts_span.2]; simp [boxX, boxY, hok])
    have HB := hid (show ∀ x ∈ o.map penN, 0 ≤ x ∧ x ≤ 23 from fun x hx => by
      obtain ⟨y, hy, rfl⟩ := List.mem_map.1 hx
      exact penN_bd (HK y hy))
    have HT := hid hT
    clear hl HK hT hm
    go_enter Tryd.func14, Tryd.ntmps14
    go_wp2_with fail
    refine HV.out.mono ?_
    rintro e w1 ⟨p, rfl, hb1, hC⟩
    have hC1 := hid (hC hok)
    clear hC
    have HOK := hid hok
    go_wp2_with fail
    have c2 := bal (bnew w1 (.cells #[.int .i64 0, .int .i64 0] 53)) (.cells #[.int .i64 0, .int .i64 0] 53)
    have hl0 := ((bnew (w1.alloc (.cells #[.int .i64 0, .int .i64 0] 53)) (.cells #[.int .i64 0, .int .i64 0] 53)).block w1.heap.size (by simp)).trans (heap_alloc_new w1 (.cells #[.int .i64 0, .int .i64 0] 53))
    have hh0 := heap_alloc_new (w1.alloc (.cells #[.int .i64 0, .int .i64 0] 53)) (.cells #[.int .i64 0, .int .i64 0] 53)
    have hsz : ∀ o' : Obj, (w1.alloc o').heap.size = w1.heap.size + 1 := fun o' => by simp
    have hsz2 : ∀ o' p' : Obj, ((w1.alloc o').alloc p').heap.size = w1.heap.size + 2 := fun o' p' => by simp
    have HZ := hsz2 (.cells #[.int .i64 0, .int .i64 0] 53) (.cells #[.int .i64 0, .int .i64 0] 53)
    rw [hsz] at hh0
    clear hsz hsz2
    generalize (w1.alloc (.cells #[.int .i64 0, .int .i64 0] 53)).alloc (.cells #[.int .i64 0, .int .i64 0] 53) = w2 at *
    have hb2 := btr hb1 c2
    refine (points_any p _ _ _ _ (hC1.out.below c2 (Nat.le_refl _)) c2.size HB.out (by rw [List.length_map]; exact h8) (HT.out.bl hb2)).mono ?_
    rintro e w3 ⟨A2, c3, rfl, hO, hb3⟩
    rw [HP.out] at hO
    rw [HP.out]
    have HR := hid (hO.rd (by omega)).2
    have HB3 := hid (btr hb2 hb3)
    have hl3 := (hb3.block w1.heap.size (by omega)).trans hl0
    have hh3 := (hb3.block (w1.heap.size + 1) (by omega)).trans hh0
    have hz3 : w1.heap.size + 2 ≤ w3.heap.size := by have := hb3.size; omega
    have hz2 : w1.heap.size + 2 ≤ w2.heap.size := by omega
    clear hO hb2 hb3 c2 hl0 hh0 HZ hok
    have hwz := hb1.size
    clear hb1
    go_wp2
    go_loopg [21] (ptsO o).length (fun gk i wr => ∃ (k : Nat) (lx ly hx hy : Int), k + gk = (ptsO o).length ∧ i = .int .i64 k ∧ wr.heap[w1.heap.size]? = some (.cells #[.int .i64 lx, .int .i64 ly] 53 (0, 0)) ∧ wr.heap[w1.heap.size + 1]? = some (.cells #[.int .i64 hx, .int .i64 hy] 53 (0, 0)) ∧ Chg (fun k => k = w1.heap.size ∨ k = w1.heap.size + 1) w3 wr ∧ (-24 ≤ lx ∧ lx ≤ 24) ∧ (-24 ≤ ly ∧ ly ≤ 24) ∧ (-24 ≤ hx ∧ hx ≤ 24) ∧ (-24 ≤ hy ∧ hy ≤ 24) ∧ maxL 0 ((ptsO o).map (·.1)) = maxL hx (((ptsO o).drop k).map (·.1)) ∧ maxL 0 ((ptsO o).map (·.2)) = maxL hy (((ptsO o).drop k).map (·.2)) ∧ minL 0 ((ptsO o).map (·.1)) = minL lx (((ptsO o).drop k).map (·.1)) ∧ minL 0 ((ptsO o).map (·.2)) = minL ly (((ptsO o).drop k).map (·.2)))
    case atStart => exact ⟨0, 0, 0, 0, 0, Nat.zero_add _, rfl, hl3, hh3, Chg.refl _ _, by omega, by omega, by omega, by omega, rfl, rfl, rfl, rfl⟩
    case round =>
      clear hl3 hh3
      obtain ⟨k, lx, ly, hx, hy, hkg, rfl, hl, hh, hc, b1, b2, b3, b4, r1, r2, r3, r4⟩ := hrel
      have R := hid (And.intro r1 (And.intro r2 (And.intro r3 r4)))
      have hk : k ≤ (ptsO o).length := by omega
      have HKG := hid hkg
      clear hkg
      clear r1 r2 r3 r4
      by_cases hlt : k < (ptsO o).length
      case neg =>
        obtain rfl : k = (ptsO o).length := by omega
        have hnil : (ptsO o).drop (ptsO o).length = [] := List.drop_length
        rw [hnil] at R
        have HF := hid (show boxX o = hx - lx ∧ boxY o = hy - ly by rw [HH.out.1, HH.out.2, R.out.1, R.out.2.1, R.out.2.2.1, R.out.2.2.2]; exact ⟨rfl, rfl⟩)
        obtain ⟨l0, l1, lf0, lf1⟩ := at_get hl
        obtain ⟨h0, h1, hf0, hf1⟩ := at_get hh
        clear hnil hl hh
        have a1 : IntKind.i64.wrap (hx - lx) = hx - lx := IntWalk.i64_in _ (by omega)
        have a2 : IntKind.i64.wrap (hy - ly) = hy - ly := IntWalk.i64_in _ (by omega)
        go_wp2_with fail
        go_still (by kernel_rfl)
        go_wp2
        go_ret3
        exact ⟨ret_iib HF.out.1.symm HF.out.2.symm HOK.out.symm, (HB3.out.trans (hc.below (by omega) (by omega))).drew⟩
      case pos =>
        have hki : (k : Int) < ((ptsO o).length : Int) := by omega
        obtain ⟨_, _, hr⟩ := HR.out
        obtain ⟨b, off, rfl, hbl, hbb, hcx⟩ := hr (by omega)
        have cx := hc.cell (by omega) (hcx.stroke hlt).1
        have cy := hc.cell (by omega) (hcx.stroke hlt).2
        clear hr hcx
        have hd := hid (drop_gt hlt)
        have hq := HBD.out _ (gt_mem hlt)
        go_wp2_with fail
        obtain ⟨⟨p1, p2⟩, p3, p4⟩ := hq
        have B7 := bnew wr (.cells #[.int .i64 (gt (ptsO o) k).1, .int .i64 (gt (ptsO o) k).2] 53)
        have hp7 := heap_alloc_new wr (.cells #[.int .i64 (gt (ptsO o) k).1, .int .i64 (gt (ptsO o) k).2] 53)
        generalize wr.alloc (.cells #[.int .i64 (gt (ptsO o) k).1, .int .i64 (gt (ptsO o) k).2] 53) = w7 at *
        obtain ⟨p0, p1', _, _⟩ := at_get hp7
        have hl7 := (B7.block _ (Array.getElem?_eq_some_iff.1 hl).1).trans hl
        have hh7 := (B7.block _ (Array.getElem?_eq_some_iff.1 hh).1).trans hh
        obtain ⟨l0, l1, lf0, lf1⟩ := at_get hl7
        obtain ⟨h0, h1, hf0, hf1⟩ := at_get hh7
        have hzr := hc.size
        have n1 : wr.heap.size ≠ w1.heap.size := by omega
        have n2 : w1.heap.size ≠ wr.heap.size := by omega
        have n3 : wr.heap.size ≠ w1.heap.size + 1 := by omega
        have n4 : w1.heap.size + 1 ≠ wr.heap.size := by omega
        clear cx cy hl hh
        have BD := hid (And.intro b1 (And.intro b2 (And.intro b3 (And.intro b4 (And.intro p1 (And.intro p2 (And.intro p3 p4)))))))
        have HNN := hid (And.intro hlt (And.intro h8 (And.intro hm25 (And.intro hwz (And.intro hz2 (And.intro hz3 (And.intro hzr (And.intro hbl (And.intro hbb hk)))))))))
        have HC' := hid hc
        have HB7 := hid B7
        clear b1 b2 b3 b4 p1 p2 p3 p4 hlt h8 hm25 hwz hz2 hz3 hzr hbl hbb hk hc B7 HV HB HT hC1 HP
        have HP7 := hid hp7
        have HL7 := hid hl7
        have HH7 := hid hh7
        clear hp7 hl7 hh7
        obtain ⟨s1, hs1⟩ : ∃ z, (if (gt (ptsO o) k).1 < lx then (gt (ptsO o) k).1 else lx) = z := ⟨_, rfl⟩
        obtain ⟨t1, ht1⟩ : ∃ z, (if hx < (gt (ptsO o) k).1 then (gt (ptsO o) k).1 else hx) = z := ⟨_, rfl⟩
        obtain ⟨s2, hs2⟩ : ∃ z, (if (gt (ptsO o) k).2 < ly then (gt (ptsO o) k).2 else ly) = z := ⟨_, rfl⟩
        obtain ⟨t2, ht2⟩ : ∃ z, (if hy < (gt (ptsO o) k).2 then (gt (ptsO o) k).2 else hy) = z := ⟨_, rfl⟩
        obtain ⟨b1, b2, b3, b4, p1, p2, p3, p4⟩ := BD.out
        have h8 := HNN.out.2.1
        have q1 : -24 ≤ s1 ∧ s1 ≤ 24 := by rw [← hs1]; split <;> omega
        have q2 : -24 ≤ t1 ∧ t1 ≤ 24 := by rw [← ht1]; split <;> omega
        have q3 : -24 ≤ s2 ∧ s2 ≤ 24 := by rw [← hs2]; split <;> omega
        have q4 : -24 ≤ t2 ∧ t2 ≤ 24 := by rw [← ht2]; split <;> omega
        have HQ := hid (And.intro q1 (And.intro q2 (And.intro q3 q4)))
        have HS := hid (And.intro hs1 (And.intro ht1 (And.intro hs2 ht2)))
        clear q1 q2 q3 q4 hs1 ht1 hs2 ht2 b1 b2 b3 b4 p1 p2 p3 p4 h8
        go_cut [25] from 25 to 36 (fun _ wx => wx.heap[w1.heap.size]? = some (.cells #[.int .i64 s1, .int .i64 ly] 53 (0, 0)) ∧ wx.heap[w1.heap.size + 1]? = some (.cells #[.int .i64 t1, .int .i64 hy] 53 (0, 0)) ∧ Chg (fun k => k = w1.heap.size ∨ k = w1.heap.size + 1) w7 wx)
        case first =>
          go_region
          rw [HS.out.1, HS.out.2.1]
          go_wp2_with fail
          go_meet
          obtain ⟨w8, e8, hl8, hh8, C8⟩ := two_set0 (s := .int .i64 s1) (t := .int .i64 t1) (by omega) HL7.out HH7.out
          rw [e8]
          exact ⟨hl8, hh8, C8⟩
        case rest =>
          obtain ⟨hl8, hh8, C8⟩ := hcut
          have hp8 := (C8.block wr.heap.size (Array.getElem?_eq_some_iff.1 HP7.out).1 (by omega)).trans HP7.out
          clear l0 l1 lf0 lf1 h0 h1 hf0 hf1 p0 p1'
          obtain ⟨p0, p1', _, _⟩ := at_get hp8
          obtain ⟨l0, l1, lf0, lf1⟩ := at_get hl8
          obtain ⟨h0, h1, hf0, hf1⟩ := at_get hh8
          have HL8 := hid hl8
          have HH8 := hid hh8
          have HC8 := hid C8
          clear hl8 hh8 hp8 C8
          go_upto_region 9 with (fail)
          go_region
          rw [HS.out.2.2.1, HS.out.2.2.2]
          obtain ⟨w9, e9, hl9, hh9, C9⟩ := two_set1 (s := .int .i64 s2) (t := .int .i64 t2) (by omega) HL8.out HH8.out
          rw [e9]
          clear l0 l1 lf0 lf1 h0 h1 hf0 hf1 p0 p1' e9
          have HC79 := hid (box_chg HC'.out HB7.out HC8.out C9)
          have HL9 := hid hl9
          have HH9 := hid hh9
          have hk25 : k < 25 := Nat.lt_of_lt_of_le HNN.out.1 HNN.out.2.2.1
          clear hl9 hh9 C9
          go_wp2_with fail
          go_roundg (gk - 1)
          case measure => have := HKG.out; have := HNN.out.1; omega
          case rel =>
            obtain ⟨q1, q2, q3, q4⟩ := HQ.out
            exact ⟨k + 1, s1, s2, t1, t2, by have := HKG.out; have := HNN.out.1; omega, by go_num, HL9.out, HH9.out, HC79.out, q1, q3, q2, q4, by rw [R.out.1, hd.out, ← HS.out.2.1]; rfl, by rw [R.out.2.1, hd.out, ← HS.out.2.2.2]; rfl, by rw [R.out.2.2.1, hd.out, ← HS.out.1]; rfl, by rw [R.out.2.2.2, hd.out, ← HS.out.2.2.1]; rfl⟩
end Go.Proofs.YtigemahbopligaaDoor
