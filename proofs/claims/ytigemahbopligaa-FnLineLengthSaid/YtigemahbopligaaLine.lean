/- Written forms and lines: what the laws' helpers and the validity tests do. -/
import Derived.Test.YtigemahbopligaaChain
import Derived.Test.YtigemahbopligaaAtTwo
import Derived.Deep.LoopGhost
import Derived.Deep.RegionHeld3
namespace Go.Proofs.Ytigemahbopligaa
open Go.RowKit
attribute [local go_sem] Oper.semAt_some
abbrev WrT : Type := List (Int × Int) × Int
def writtenOk (x : WrT) : Bool := outOk x.1 && inB x.2 0 2
def lineOk (l : List WrT) : Bool := decide (l.length ≤ 20) && l.all writtenOk
def lengthsOf : List WrT → Int
  | [] => 0
  | x :: r => lenOf x.1 + lengthsOf r
def lineV (l : List WrT) : Int := match lineOk l with
  | true => lengthsOf l
  | false => -1
theorem RdAt.written {lo hi : Nat} {w : World} {b off n : Nat} {l : List WrT} (h : RdAt writtenS (rng lo hi) w b off n l) {k : Nat} (hk : k < n) :
    ∃ A c, w.cell? ⟨b, off + k * 2, none⟩ = some (.slice A (gt l k).1.length c) ∧ w.cell? ⟨b, off + k * 2 + 1, none⟩ = some (.int .i64 (gt l k).2) ∧ (gt l k).1.length ≤ c ∧ Rd strokeS lo hi w A (gt l k).1.length (gt l k).1 := by
  obtain ⟨f, hf, ⟨A, c, h1, h2, h3⟩, h4⟩ := h k hk
  have h0 := hf 0 (by show 0 < 2; omega)
  have h6 := hf 1 (by show 1 < 2; omega)
  rw [h1] at h0
  rw [show f 1 = _ from h4] at h6
  exact ⟨A, c, h0, h6, h2, Rd_iff.2 h3⟩
def szW (l : List WrT) (left : Int) : Int := if left - l.length < 0 then -1 else szGo (l.map fun x => x.1.length) (left - l.length)
theorem szI_bd {n : Nat} {l : Int} (h : 0 ≤ l) : szI n l ≤ l ∧ -1 ≤ szI n l := by unfold szI; split <;> omega
theorem szGo_bd : ∀ (ns : List Nat) (l : Int), 0 ≤ l → szGo ns l ≤ l ∧ -1 ≤ szGo ns l
  | [], l, h => by rw [szGo]; omega
  | m :: r, l, h => by
    rw [szGo]
    have h1 := szI_bd (n := m) h
    by_cases hs : szI m l < 0
    · rw [if_pos hs]; omega
    · rw [if_neg hs]
      have := szGo_bd r (szI m l) (by omega)
      omega
theorem szW_ub {l : List WrT} {left : Int} (h : 0 ≤ left) : szW l left ≤ left ∧ -1 ≤ szW l left := by
  unfold szW
  split
  · omega
  · have := szGo_bd (l.map fun x => x.1.length) (left - l.length) (by omega)
    omega
theorem szGo_each : ∀ (ns : List Nat) (l : Int), 0 ≤ l → 0 ≤ szGo ns l → ∀ n ∈ ns, (n : Int) ≤ l
  | [], _, _, _, n, hn => by cases hn
  | m :: r, l, h0, h, n, hn => by
    rw [szGo] at h
    by_cases hs : szI m l < 0
    · rw [if_pos hs] at h; omega
    · rw [if_neg hs] at h
      have h1 := szI_bd (n := m) h0
      have h2 : (m : Int) ≤ l := by
        unfold szI at hs
        split at hs <;> omega
      rcases List.mem_cons.1 hn with rfl | hn
      · exact h2
      · have := szGo_each r _ (by omega) h n hn
        omega
theorem szW_len {l : List WrT} {left : Int} (h0 : 0 ≤ left) (h : 0 ≤ szW l left) : (l.length : Int) ≤ left ∧ ∀ x ∈ l, (x.1.length : Int) ≤ left := by
  unfold szW at h
  split at h
  · omega
  · refine ⟨by omega, fun x hx => ?_⟩
    have := szGo_each _ _ (by omega) h x.1.length (List.mem_map.2 ⟨x, hx, rfl⟩)
    omega
set_option maxHeartbeats 400000 in
theorem szWritten_any (A : Option Addr) (n c : Nat) (p left : Int) (w : World) (hn : n ≤ 9223372036854775807) (h0 : 0 ≤ left) (h1 : left ≤ 1048576) :
    Calls Try.prog 52 #[.agg #[.slice A n c, .int .i64 p], .int .i64 left] w fun e w' => e = .returned (.int .i64 (szI n left)) ∧ Below w.heap.size w w' := by
  have hu := szI_bd (n := n) h0
  have hsz := fun w' => szStrokeS_any A n c left w' hn h0 h1
  obtain ⟨s, hs⟩ : ∃ s, szI n left = s := ⟨_, rfl⟩
  rw [hs] at hu
  have HS := hid hs
  by_cases hneg : s < 0
  · obtain rfl : s = -1 := by omega
    clear hs
    go_enter Try.func52, Try.ntmps52
    go_wp2_with (go_at_call 10; refine (hsz _).mono ?_; rintro e w' ⟨rfl, rfl⟩; rw [HS.out])
    go_ret
    exact ⟨ret_int HS.out.symm, bnew _ _⟩
  · clear hs
    go_enter Try.func52, Try.ntmps52
    go_wp2_with (go_at_call 10; refine (hsz _).mono ?_; rintro e w' ⟨rfl, rfl⟩; rw [HS.out])
    go_ret
    exact ⟨ret_int HS.out.symm, bnew _ _⟩
set_option maxHeartbeats 1000000 in
theorem szWrittenS_any (A : Option Addr) (n c lo : Nat) (left : Int) (l : List WrT) (w : World) (hx : Rd writtenS lo w.heap.size w A n l) (h0 : 0 ≤ left) (h1 : left ≤ 1048576) :
    Calls Try.prog 23 #[.slice A n c, .int .i64 left] w fun e w' => e = .returned (.int .i64 (szW l left)) ∧ Below w.heap.size w w' := by
  obtain ⟨e1, e2, e3⟩ := hx
  have E1 := hid e1; clear e1
  have E3 := hid e3; clear e3
  by_cases h : left - n < 0
  · have HH := hid (show szW l left = -1 by simp [szW, ← E1.out, h])
    go_enter Try.func23, Try.ntmps23
    go_wp2_with fail
    go_ret
    exact ⟨ret_int HH.out.symm, Below.refl _ _⟩
  · have HH := hid (show szW l left = szGo ((l.drop 0).map fun x => x.1.length) (left - n) by simp only [szW, ← E1.out, if_neg h, List.drop_zero])
    go_enter Try.func23, Try.ntmps23
    go_wp2_with fail
    go_loopw [1, 5] (fun q i wr => ∃ (k : Nat) (m : Int), k ≤ n ∧ i = .int .i64 k ∧ q = .int .i64 m ∧ 0 ≤ m ∧ m ≤ 1048576 ∧ szW l left = szGo ((l.drop k).map fun x => x.1.length) m ∧ Below w.heap.size w wr) (fun _ i _ => n - (intOf i).toNat)
    case atStart => exact ⟨0, _, Nat.zero_le _, rfl, rfl, by omega, by omega, HH.out, Below.refl _ _⟩
    case round =>
      obtain ⟨k, m, hk, rfl, rfl, hm0, hm1, hr, hb⟩ := hrel
      have HR := hid hr; clear hr
      have HB := hid hb; clear hb
      clear HH
      by_cases hlt : k < n
      · obtain ⟨b, off, rfl, _, hbb, hcx⟩ := E3.out (by omega)
        obtain ⟨A1, c1, x0, x1, x3, x4⟩ := hcx.written hlt
        have cx0 := bcl HB.out x0
        have cx1 := bcl HB.out x1
        have hxl := x4.2.1
        have HD := hid (drop_gt (l := l) (by rw [← E1.out]; exact hlt))
        obtain ⟨X1, hX1⟩ : ∃ X1, gt l k = X1 := ⟨_, rfl⟩
        rw [hX1] at cx0 cx1 HD hxl
        obtain ⟨o1, p1⟩ := X1
        dsimp only at cx0 cx1 hxl
        obtain ⟨q, hq⟩ : ∃ q, o1.length = q := ⟨_, rfl⟩
        rw [hq] at cx0 hxl
        have HQ := hid hq
        clear hcx x0 x1 x3 x4 hX1 hq
        have hu := szI_bd (n := q) hm0
        have hsz := fun w' => szWritten_any A1 q c1 p1 m w' hxl (by omega) hm1
        obtain ⟨s, hs⟩ : ∃ s, szI q m = s := ⟨_, rfl⟩
        rw [hs] at hu
        have HS := hid hs
        clear hs
        by_cases hneg : s < 0
        · go_wp2_with fail
          refine (hsz _).mono ?_
          rintro e w1 ⟨rfl, hb1⟩
          rw [HS.out]
          have HB1 := hid hb1; clear hb1
          go_wp2_with fail
          go_ret
          exact ⟨ret_int (by rw [HR.out, HD.out, List.map_cons, szGo, HQ.out, HS.out, if_pos hneg]), btr HB.out HB1.out⟩
        · go_wp2_with fail
          refine (hsz _).mono ?_
          rintro e w1 ⟨rfl, hb1⟩
          rw [HS.out]
          have HB1 := hid hb1; clear hb1
          go_wp2_with fail
          go_roundw
          case rel => exact ⟨k + 1, _, by omega, by go_num, rfl, by omega, by omega, (by rw [HR.out, HD.out, List.map_cons, szGo, HQ.out, HS.out, if_neg (by omega)]), btr HB.out HB1.out⟩
          case measure => simp [intOf]; omega
      · obtain rfl : k = n := by omega
        go_wp2_with fail
        go_ret
        exact ⟨ret_int (by rw [HR.out, List.drop_eq_nil_of_le (by rw [E1.out]; omega)]; rfl), HB.out⟩
set_option maxHeartbeats 400000 in
theorem eqWritten_any (A A' : Option Addr) (n n' c c' lo lo' : Nat) (p p' : Int) (xs ys : List (Int × Int)) (w : World) (hx : Rd strokeS lo w.heap.size w A n xs) (hy : Rd strokeS lo' w.heap.size w A' n' ys) :
    Calls Try.prog 56 #[.agg #[.slice A n c, .int .i64 p], .agg #[.slice A' n' c', .int .i64 p']] w fun e w' => e = .returned (.bool (eqD (xs, p) (ys, p'))) ∧ Below w.heap.size w w' := by
  have hB : ∀ x y : Obj, Below w.heap.size w ((w.alloc x).alloc y) := fun x y => ((Below.refl _ _).alloc (Nat.le_refl _) _).alloc (by simp) _
  have HB := hid hB; clear hB
  have HX := hid hx; clear hx
  have HY := hid hy; clear hy
  have HP := hid (show eqD (xs, p) (ys, p') = (eqD xs ys && eqD p p') from rfl)
  have h01 := heap_alloc_new w (.cells #[.slice A n c, .int .i64 p] 51)
  have h02 := (bnew (w.alloc (.cells #[.slice A n c, .int .i64 p] 51)) (.cells #[.slice A' n' c', .int .i64 p'] 51)).block w.heap.size (by simp) |>.trans h01
  have h03 := heap_alloc_new (w.alloc (.cells #[.slice A n c, .int .i64 p] 51)) (.cells #[.slice A' n' c', .int .i64 p'] 51)
  rw [World.size_alloc] at h03
  have H2 := hid h02
  have H3 := hid h03
  have HZ := hid (show ((w.alloc (.cells #[.slice A n c, .int .i64 p] 51)).alloc (.cells #[.slice A' n' c', .int .i64 p'] 51)).heap.size = w.heap.size + 2 by simp)
  clear h01 h02 h03
  obtain ⟨ab, hab⟩ : ∃ ab, eqD xs ys = ab := ⟨_, rfl⟩
  have HAB := hid hab
  clear hab
  cases ab with
  | false =>
    go_enter Try.func56, Try.ntmps56
    go_wp2_with fail
    refine (eqStrokeS_any _ _ _ _ _ _ _ _ _ _ _ (HX.out.bl (HB.out _ _)) (HY.out.bl (HB.out _ _))).mono ?_
    rintro e w1 ⟨rfl, hb1⟩
    rw [HAB.out]
    have HB1 := hid hb1
    clear hb1
    go_wp2_with fail
    go_ret
    exact ⟨ret_bool (by rw [HP.out, HAB.out, Bool.false_and]), btr (HB.out _ _) HB1.out⟩
  | true =>
    by_cases hpp : p = p'
    · have ht : (p != p') = false := by simp [hpp]
      have HV := hid (show eqD p p' = true by rw [hpp]; exact eqD_self _)
      clear hpp
      go_enter Try.func56, Try.ntmps56
      go_wp2_with fail
      refine (eqStrokeS_any _ _ _ _ _ _ _ _ _ _ _ (HX.out.bl (HB.out _ _)) (HY.out.bl (HB.out _ _))).mono ?_
      rintro e w1 ⟨rfl, hb1⟩
      rw [HAB.out]
      have HB1 := hid hb1
      obtain ⟨_, k1, _, _⟩ := at_get ((hb1.block w.heap.size (by rw [HZ.out]; omega)).trans H2.out)
      obtain ⟨_, k2, _, _⟩ := at_get ((hb1.block (w.heap.size + 1) (by rw [HZ.out]; omega)).trans H3.out)
      clear hb1
      go_wp2_with fail
      go_ret
      exact ⟨ret_bool (by rw [HP.out, HAB.out, HV.out]; rfl), btr (HB.out _ _) HB1.out⟩
    · have ht : (p != p') = true := by simp [hpp]
      have HV := hid (show eqD p p' = false from eqD_no hpp)
      clear hpp
      go_enter Try.func56, Try.ntmps56
      go_wp2_with fail
      refine (eqStrokeS_any _ _ _ _ _ _ _ _ _ _ _ (HX.out.bl (HB.out _ _)) (HY.out.bl (HB.out _ _))).mono ?_
      rintro e w1 ⟨rfl, hb1⟩
      rw [HAB.out]
      have HB1 := hid hb1
      obtain ⟨_, k1, _, _⟩ := at_get ((hb1.block w.heap.size (by rw [HZ.out]; omega)).trans H2.out)
      obtain ⟨_, k2, _, _⟩ := at_get ((hb1.block (w.heap.size + 1) (by rw [HZ.out]; omega)).trans H3.out)
      clear hb1
      go_wp2_with fail
      go_ret
      exact ⟨ret_bool (by rw [HP.out, HAB.out, HV.out]; rfl), btr (HB.out _ _) HB1.out⟩
end Go.Proofs.Ytigemahbopligaa
