/- Rows of texts of the call's own: copies, marks. -/
import Derived.Test.YthijnojefeeaoaaMarkT
namespace Go.Proofs.Ythijnojefeeaoaa
open Go.RowKit
theorem chgW {D : Nat → Prop} {w w' : World} (h : Below w.heap.size w w') : Chg D w w' := ⟨h.os, h.tape, h.output, h.size, fun k hk _ => h.block k hk⟩
theorem strS_flat' : Shape.flat strS := fun _ _ _ _ _ _ h => h
/-- A row of texts: its block, its capacity, what it reads as. -/
abbrev RowT : Type := Nat × Nat × List ByteArray
def rowTV (r : RowT) : Value := .slice (some ⟨r.1, 0, none⟩) r.2.2.length r.2.1
def RowS (w : World) (r : RowT) : Prop :=
  ∃ cur : Array Value, w.heap[r.1]? = some (.cells cur 9 (0, 0)) ∧ r.2.2.length ≤ r.2.1 ∧ r.2.2.length ≤ cur.size ∧ r.2.2.length ≤ 9223372036854775807 ∧ ∀ j, j < r.2.2.length → cur[j]? = some (.string (gt r.2.2 j)) ∧ (gt r.2.2 j).size ≤ 9223372036854775807
theorem RowS.lt {w : World} {r : RowT} (h : RowS w r) : r.1 < w.heap.size := by
  obtain ⟨cur, h1, _⟩ := h
  exact (Array.getElem?_eq_some_iff.1 h1).1
theorem RowS.cap {w : World} {r : RowT} (h : RowS w r) : r.2.2.length ≤ r.2.1 := by
  obtain ⟨_, _, h, _⟩ := h
  exact h
theorem RowS.kept {w w' : World} {r : RowT} (h : RowS w r) (hb : w'.heap[r.1]? = w.heap[r.1]?) : RowS w' r := by
  obtain ⟨cur, h1, h2⟩ := h
  exact ⟨cur, hb.trans h1, h2⟩
theorem RowS.chg {D : Nat → Prop} {w w' : World} {r : RowT} (h : RowS w r) (hc : Chg D w w') (hd : ¬ D r.1) : RowS w' r := h.kept (hc.block _ h.lt hd)
theorem RowS.rd {w : World} {r : RowT} (h : RowS w r) {D : Nat → Prop} (hD : D r.1) : RdD strS D w (some ⟨r.1, 0, none⟩) r.2.2.length r.2.2 := by
  obtain ⟨cur, h1, h2, h3, h4, h5⟩ := h
  refine ⟨rfl, h4, fun _ => ⟨r.1, 0, rfl, hD, fun k hk => ⟨fun _ => .string (gt r.2.2 k), fun j hj => ?_, rfl, (h5 k hk).2⟩⟩⟩
  have hj' : j < 1 := hj
  obtain rfl : j = 0 := by omega
  have hs : 0 + k * strS.sz + 0 = k := by show 0 + k * 1 + 0 = k; omega
  rw [hs, cell_of_row w r.1 _ cur _ (0, 0) h1]
  exact (h5 k hk).1
theorem RowS.rd0 {w : World} {g c n : Nat} {l : List ByteArray} (h : RowS w (g, c, l)) (hn : n = l.length) : Rd strS 0 w.heap.size w (some ⟨g, 0, none⟩) n l := by
  subst hn
  exact Rd_iff.2 (h.rd (D := rng 0 w.heap.size) ⟨Nat.zero_le _, h.lt⟩)
theorem OwnR.rowS {base : Nat} {w : World} {g n c : Nat} {l : List ByteArray} (h : OwnR strS base w 9 (.slice (some ⟨g, 0, none⟩) n c) l) (hm : l.length ≤ 9223372036854775807) : n = l.length ∧ RowS w (g, c, l) ∧ base ≤ g := by
  obtain ⟨xs, ⟨hl, h2⟩, hx⟩ := h
  rcases h2 with ⟨h3, h0⟩ | ⟨g', cap, cur, h3, hg, hh, hc, hcm, hcs, htake⟩
  · injection h3 with a1 a2 a3
    cases a1
  · injection h3 with a1 a2 a3
    injection a1 with a1
    injection a1 with a1
    subst a1 a2 a3
    have hcs' : cur.size = c * 1 := hcs
    refine ⟨rfl, ⟨cur, hh, hc, by show l.length ≤ cur.size; omega, hm, fun j hj => ?_⟩, hg⟩
    obtain ⟨f, hf, he⟩ := hx j hj
    have f0 := hf 0 (by show 0 < 1; omega)
    have s0 : j * strS.sz + 0 = j := by show j * 1 + 0 = j; omega
    have e0 : f 0 = .string (gt l j) := he.1
    rw [s0, e0, ← htake, List.getElem?_take] at f0
    split at f0
    · exact ⟨by simpa using f0, he.2⟩
    · cases f0
theorem Filled.rowS {lo hi g n : Nat} {w : World} {l : List ByteArray} (h : Filled strS lo hi w g 9 n n l) : RowS w (g, n, l) := by
  obtain ⟨cur, h1, h2, h3, h4, h5⟩ := h
  have hz : strS.sz = 1 := rfl
  rw [hz, Nat.mul_one] at h2
  refine ⟨cur, h1, by show l.length ≤ n; omega, by show l.length ≤ cur.size; omega, by show l.length ≤ _; omega, fun j hj => ?_⟩
  have hj' : j < l.length := hj
  obtain ⟨f, hf1, he⟩ := h5 j (by omega)
  have f0 := hf1 0 (by rw [hz]; omega)
  rw [hz, Nat.mul_one, Nat.add_zero] at f0
  have e0 : f 0 = .string (gt l j) := he.1
  rw [e0] at f0
  exact ⟨f0, he.2⟩
set_option maxHeartbeats 400000 in
theorem toStringS_row (A : Option Addr) (n c lo : Nat) (xs : List ByteArray) (w : World) (hx : Rd strS lo w.heap.size w A n xs) (hn : n ≤ 1048576) :
    Calls Try.prog 26 #[.slice A n c] w fun e w' => ∃ g, e = .returned (.slice (some ⟨g, 0, none⟩) n n) ∧ RowS w' (g, n, xs) ∧ w.heap.size ≤ g ∧ Below w.heap.size w w' := by
  obtain ⟨i0, hi, hz0, hz1, hz2⟩ := info_parts (show (Try.prog.info? 9).map (fun i => (i.zero, i.size, i.bytes)) = some (some (.string ByteArray.empty), 1, 16) by kernel_rfl)
  have hmk := fun w => make_rule (P := Try.prog) Try.underlying24 hi hz0 hz1 hz2 (n := n) (by omega) (by omega) w
  have F0 := fun w => Filled.new strS w.heap.size w.heap.size w 9 (madeCells #[Value.string ByteArray.empty] n) xs (by rw [size_madeCells, ← hx.1]; show n = n * 1; omega) (by have := hx.1; omega)
  obtain ⟨e1, e2, e3⟩ := hx
  have E1 := hid e1; clear e1
  have E3 := hid e3; clear e3
  clear hi hz0 hz1 hz2
  go_enter Try.func26, Try.ntmps26
  go_wp2
  clear hmk
  go_loopw [4] (fun i wr => ∃ k : Nat, k ≤ n ∧ i = .int .i64 k ∧ Filled strS w.heap.size w.heap.size wr w.heap.size 9 n k xs ∧ Below w.heap.size w wr) (fun i _ => n - (intOf i).toNat)
  case atStart => exact ⟨0, Nat.zero_le _, rfl, by have := F0 w; rw [← E1.out] at this; exact this, (Below.refl _ _).alloc (Nat.le_refl _) _⟩
  case round =>
    obtain ⟨k, hk, rfl, hF, hb⟩ := hrel
    clear F0
    by_cases hlt : k < n
    · obtain ⟨b, off, rfl, _, hbb, hcx⟩ := E3.out (by omega)
      obtain ⟨c0, c9⟩ := hcx.str hlt
      have cx := (hb.cell (p := ⟨b, off + k, none⟩) hbb).trans c0
      obtain ⟨⟨v, c1⟩, f1⟩ := hF.at_ (i := k) (by show k < n * 1; omega)
      clear hcx c0
      go_wp2
      go_roundw
      case rel => exact ⟨k + 1, by omega, by go_num, hF.set1 rfl hlt ⟨rfl, c9⟩ (by omega), hb.setCell (by simp) _⟩
      case measure => simp [intOf]; omega
    · obtain rfl : k = n := by omega
      go_wp2
      go_ret
      exact ⟨_, rfl, hF.rowS, Nat.le_refl _, hb⟩
/-- The marks of so many texts. -/
def marksT (k : Int) (n : Nat) : List ByteArray := (List.range n).map fun (j : Nat) => mtV (k + (j : Int))
theorem marksT_len (k : Int) (n : Nat) : (marksT k n).length = n := by simp [marksT]
theorem marksT_gt {k : Int} {n j : Nat} (h : j < n) : gt (marksT k n) j = mtV (k + j) := by simp [gt, marksT, h]
set_option maxHeartbeats 1000000 in
theorem markStringS_row (b n c : Nat) (l : List ByteArray) (k0 : Int) (w : World) (hr : RowS w (b, c, l)) (hnl : n = l.length) (hn : n ≤ 1048576) (h0 : 0 ≤ k0) (h1 : k0 ≤ 16777216) :
    Calls Try.prog 31 #[.slice (some ⟨b, 0, none⟩) n c, .int .i64 k0] w fun r w' => r = .returned (.int .i64 (k0 + n)) ∧ RowS w' (b, c, marksT k0 n) ∧ Chg (fun k => k = b) w w' := by
  have hbl := hr.lt
  obtain ⟨cur, hc, hcap, hsz, h63, _⟩ := hr
  have hbl : b < w.heap.size := hbl
  have hcap' : n ≤ c := by rw [hnl]; exact hcap
  have hsz' : n ≤ cur.size := by rw [hnl]; exact hsz
  have HF := hid (show ∃ cur : Array Value, w.heap[b]? = some (.cells cur 9 (0, 0)) ∧ n ≤ cur.size ∧ ∀ j, j < 0 → cur[j]? = some (.string (mtV (k0 + j))) from ⟨cur, hc, hsz', fun j hj => absurd hj (by omega)⟩)
  clear hc hsz hsz' hcap h63 hnl
  go_enter Try.func31, Try.ntmps31
  go_wp2_with fail
  go_loopg [1, 5] n (fun gk k i wr => ∃ (j : Nat) (m : Int), j + gk = n ∧ i = .int .i64 j ∧ k = .int .i64 m ∧ m = k0 + j ∧ (∃ cur : Array Value, wr.heap[b]? = some (.cells cur 9 (0, 0)) ∧ n ≤ cur.size ∧ ∀ q, q < j → cur[q]? = some (.string (mtV (k0 + q)))) ∧ Chg (fun k => k = b) w wr)
  case atStart => exact ⟨0, k0, Nat.zero_add _, rfl, rfl, by simp, HF.out, Chg.refl _ _⟩
  case round =>
    clear HF
    obtain ⟨j, m, hjg, rfl, rfl, hm, ⟨cur, hcur, hsz, hel⟩, hch⟩ := hrel
    have HJG := hid hjg
    have HM := hid hm
    have HEL := hid hel
    have HCU := hid hcur
    have hwz := hch.size
    have hm1 : m ≤ 1099511627776 := by omega
    have hm0 : 0 ≤ m := by omega
    have hj : j ≤ n := by omega
    clear hjg hm hcur hel
    by_cases hlt : j < n
    case pos =>
      have hji : (j : Int) < (n : Int) := by omega
      obtain ⟨u, hu⟩ : ∃ u, cur[j]'(by omega) = u := ⟨_, rfl⟩
      have huj : cur[j]? = some u := by rw [← hu]; exact Array.getElem?_eq_getElem (by omega)
      have HUJ := hid huj
      clear hu huj
      go_wp2_with fail
      refine (markText_any m wr hm1).mono ?_
      rintro e w4 ⟨rfl, hb4⟩
      have hcur4 := (hb4.block b (by omega)).trans HCU.out
      have c1 : w4.cell? ⟨b, j, none⟩ = some u := by rw [cell_of_row w4 b j cur 9 (0, 0) hcur4]; exact HUJ.out
      have f1 := frozen_of_row w4 b j cur 9 hcur4
      have HC4 := hid hcur4
      have HB4 := hid hb4
      clear hcur4 hb4
      go_wp2_with fail
      go_roundg (gk - 1)
      case measure => have := HJG.out; omega
      case rel =>
        have h2 := heap_setCell_same w4 b j cur 9 (.string (mtV m)) HC4.out
        refine ⟨j + 1, m + 1, by have := HJG.out; omega, by go_num, rfl, by rw [HM.out]; omega, ⟨_, h2, by simpa using hsz, fun q hq => ?_⟩, (hch.trans (chgW HB4.out)).set rfl _⟩
        rw [Array.getElem?_setIfInBounds]
        by_cases e1 : j = q
        · subst e1
          rw [if_pos rfl, if_pos (by omega), HM.out]
        · rw [if_neg e1]
          exact HEL.out q (by omega)
    case neg =>
      obtain rfl : j = n := by omega
      go_wp2_with fail
      go_ret
      refine ⟨ret_int HM.out, ⟨cur, HCU.out, by rw [marksT_len]; exact hcap', by rw [marksT_len]; exact hsz, by rw [marksT_len]; omega, fun q hq => ?_⟩, hch⟩
      rw [marksT_len] at hq
      rw [marksT_gt hq]
      exact ⟨HEL.out q hq, mtV_size _ (by omega)⟩
end Go.Proofs.Ythijnojefeeaoaa
