/- ReadingsMany: what the reference's function returns. -/
import Derived.Test.YtfjoininagdlcaaMany
namespace Go.Proofs.Ytfjoininagdlcaa
open Go.RowKit
theorem sum_take_le {f : Int → Nat} (p : List Int) (k : Nat) : ((p.take k).map f).sum ≤ (p.map f).sum := by
  conv => rhs; rw [← List.take_append_drop k p, List.map_append, List.sum_append]
  omega
theorem sum_take_succ {f : Int → Nat} {p : List Int} {k : Nat} (h : k < p.length) : ((p.take (k + 1)).map f).sum = ((p.take k).map f).sum + f (gt p k) := by
  rw [take_gt h, List.map_append, List.sum_append]; simp
def manyStep (l : List Int) (r ps : List (List Int)) (b x : Int) : Nat := if 0 < wgt l r b x then manyOf l r ps x else 0
theorem many_cons (l : List Int) (r : List (List Int)) (p : List Int) (ps : List (List Int)) (b : Int) : manyOf l r (p :: ps) b = (p.map (manyStep l r ps b)).sum := rfl
theorem many_top {l : List Int} {r page front ps : List (List Int)} (h : bothOk l r page = true) (hp : page = front ++ ps) (b : Int) : manyOf l r ps b ≤ 1679616 := by
  have h1 := (bothOk_yes h).2
  have h2 := (pageOk_yes h1).1
  have h3 := many_le l r ps b fun p hp' => pageOk_len h1 p (by rw [hp]; exact List.mem_append_right _ hp')
  have h4 : 6 ^ ps.length ≤ 6 ^ 8 := Nat.pow_le_pow_right (by omega) (by rw [hp] at h2; simp at h2; omega)
  have h5 : (6 : Nat) ^ 8 = 1679616 := rfl
  omega
set_option maxRecDepth 100000 in
set_option maxHeartbeats 2000000 in
theorem l5Many_any (A B C : Option Addr) (n c m e0 q d lo : Nat) (l : List Int) (r page : List (List Int)) (hok : bothOk l r page = true) (ps : List (List Int)) :
    ∀ (front : List (List Int)) (b : Int) (w : World), page = front ++ ps → b < n → Rd intS lo w.heap.size w A n l → Rd (sliceS intS) lo w.heap.size w B m r → Rd (sliceS intS) lo w.heap.size w C q page →
    Calls Try.prog 54 #[.agg #[.slice A n c, .slice B m e0], .slice C q d, .int .i64 (front.length : Nat), .int .i64 b] w fun e w' => e = .returned (.int .i64 (manyOf l r ps b : Nat)) ∧ Below w.heap.size w w' := by
  induction ps with
  | nil =>
    intro front b w hpage hb hl hr hp
    have hq : front.length = q := by rw [hp.1, hpage, List.append_nil]
    have HM := hid (show manyOf l r [] b = 1 from rfl)
    rw [hq]
    clear hp hl hr hpage hb hq hok
    go_enter Try.func54, Try.ntmps54
    go_wp2_with fail
    go_ret
    exact ⟨ret_int (by rw [HM.out]; rfl), bnew _ _⟩
  | cons p ps ih =>
    intro front b w hpage hb hl hr hp
    have hok2 := pageOk_yes (bothOk_yes hok).2
    have htop := many_top (b := b) hok hpage
    have hlen := hid (pageOk_len (bothOk_yes hok).2 p (by rw [hpage]; simp))
    have hpx := hid (show ∀ x ∈ p, 0 ≤ x ∧ x < (n : Int) from fun x hx => by rw [hl.1]; exact (hok2.2 p (by rw [hpage]; simp)).2 x hx)
    have hq8 : q ≤ 8 := by rw [hp.1]; exact hok2.1
    obtain ⟨t, ht⟩ : ∃ t, front.length = t := ⟨_, rfl⟩
    have htq : t < q := by rw [hp.1, hpage]; simp; omega
    have htqi : (t : Int) < (q : Int) := by omega
    have tneq : ((t : Int) == (q : Int)) = false := by simp; omega
    have hgt : gt page t = p := by rw [hpage, ← ht]; simp [gt]
    have hp3 := hp.2.2
    obtain ⟨bp, op, hC, _, hbp, hcp⟩ := hp3 (by omega)
    subst hC
    obtain ⟨RA, rc, rcell, _, hrow⟩ := hcp.row htq
    rw [hgt] at rcell hrow
    have hp63 := hrow.2.1
    have HROW := hid hrow
    have L := hid hl
    have R := hid hr
    have PG := hid hp
    have HP := hid hpage
    have HT := hid ht
    have HB := hid hb
    have HOK := hid hok
    have IH := hid ih
    have HTOP := hid htop
    rw [ht]
    clear hl hr hp hpage ht hb hok ih hok2 hgt hp3 hcp hrow htop
    have b0 := bnew w (.cells #[.slice A n c, .slice B m e0] 26)
    have c0 := heap_alloc_new w (.cells #[.slice A n c, .slice B m e0] 26)
    have z0 : (w.alloc (.cells #[.slice A n c, .slice B m e0] 26)).heap.size = w.heap.size + 1 := by simp
    go_enter Try.func54, Try.ntmps54
    go_wp2_with fail
    generalize w.alloc (.cells #[.slice A n c, .slice B m e0] 26) = w1 at *
    have B0 := hid b0
    have C0 := hid c0
    have Z0 := hid z0
    clear b0 c0 z0
    go_loopg [9, 10] p.length (fun gk s i wr => ∃ (k z : Nat), k + gk = p.length ∧ i = .int .i64 k ∧ s = .int .i64 z ∧ z = ((p.take k).map (manyStep l r ps b)).sum ∧ Below w1.heap.size w1 wr)
    case atStart => exact ⟨0, 0, Nat.zero_add _, rfl, rfl, rfl, Below.refl _ _⟩
    case round =>
      obtain ⟨k, z, hkg, rfl, rfl, hz, hbr⟩ := hrel
      have HKG := hid hkg
      have HZ := hid hz
      have hzm : z ≤ 1679616 := by have h1 := sum_take_le (f := manyStep l r ps b) p k; have h2 := HTOP.out; rw [many_cons] at h2; omega
      have hk : k ≤ p.length := by omega
      have hbw := btr B0.out hbr
      have HBW := hid hbw
      have cp := bcl hbw rcell
      clear hkg hz hbw
      have hzs := hbr.size
      have hm1 := aft_cell (B := wr.heap.size) (w0 := wr) (by have := Z0.out; omega) (bcl hbr (show w1.cell? ⟨w.heap.size, 0, none⟩ = some (.slice A n c) from (at_get' C0.out).1))
      have hm2 := aft_cell (B := wr.heap.size) (w0 := wr) (by have := Z0.out; omega) (bcl hbr (show w1.cell? ⟨w.heap.size, 1, none⟩ = some (.slice B m e0) from (at_get' C0.out).2.1))
      by_cases hlt : k < p.length
      case neg =>
        obtain rfl : k = p.length := by omega
        have HF := hid (show manyOf l r (p :: ps) b = z by rw [many_cons, HZ.out, List.take_length])
        clear hm1 hm2
        go_wp2_with fail
        go_ret
        exact ⟨ret_int (by rw [HF.out]), B0.out.trans (hbr.mono B0.out.size)⟩
      case pos =>
        have hki : (k : Int) < (p.length : Int) := by omega
        obtain ⟨bx, ox, rfl, _, hbx, hcx⟩ := HROW.out.2.2 (by omega)
        have cx := bcl HBW.out (hcx.int hlt)
        obtain ⟨x, hxe⟩ : ∃ x, gt p k = x := ⟨_, rfl⟩
        rw [hxe] at cx
        obtain ⟨hx0, hxn⟩ := hpx.out x (hxe ▸ gt_mem hlt)
        have HXE := hid hxe
        have HZS := hid (sum_take_succ (f := manyStep l r ps b) hlt)
        obtain ⟨v, hv⟩ : ∃ v, wgt l r b x = v := ⟨_, rfl⟩
        have HV := hid hv
        have hrr := aft_cell (block_lt_of_cell cp) cp
        have hxr := aft_cell (block_lt_of_cell cx) cx
        have CALL := hid fun X : Aft wr.heap.size wr => aft_call ((l5Weight_any A B n c m e0 lo l r b x X.val ((L.out.bl HBW.out).bl X.prop) ((R.out.bl HBW.out).bl X.prop) (bothOk_yes HOK.out).1 HB.out hx0 hxn).mono fun e w' h => (show e = .returned (.int .i64 v) ∧ Below X.val.heap.size X.val w' from ⟨by rw [h.1, HV.out], h.2⟩)) (Nat.le_refl _)
        have HX := hid (And.intro hx0 hxn)
        clear hcx hxe hv hx0 hxn
        go_wp2_with fail
        refine wp_region_aft (Below.refl wr.heap.size wr) (by kernel_rfl) (by kernel_rfl) ?_
        repeat (go_big_quiet_step ((go_at_call 61; exact CALL.out _)))
        refine wpQuiet_nil ?_
        rintro w3 ⟨⟨_, hb3⟩, rfl⟩
        have hbr3 := btr hbr hb3
        have hc3 := bcl hb3 cp
        have hx3 := bcl hb3 cx
        clear hm1 hm2 hrr hxr CALL cp cx hzs
        by_cases hpos : 0 < v
        case neg =>
          have HF := hid (show ((p.take (k + 1)).map (manyStep l r ps b)).sum = z by rw [HZS.out, ← HZ.out, HXE.out, manyStep, HV.out, if_neg hpos, Nat.add_zero])
          go_wp2_with fail
          go_roundg (gk - 1)
          case measure => have := HKG.out; omega
          case rel => exact ⟨k + 1, z, by have := HKG.out; omega, by go_num, rfl, HF.out.symm, hbr3⟩
        case pos =>
          obtain ⟨V, hV⟩ : ∃ V, manyOf l r ps x = V := ⟨_, rfl⟩
          have hVm : V ≤ 1679616 := by rw [← hV]; exact many_top (front := front ++ [p]) HOK.out (by rw [HP.out]; simp) x
          have HF := hid (show ((p.take (k + 1)).map (manyStep l r ps b)).sum = z + V by rw [HZS.out, ← HZ.out, HXE.out, manyStep, HV.out, if_pos hpos, hV])
          have HVV := hid hV
          have hbw3 := hid (btr B0.out hbr3)
          have hz3 := hbr3.size
          have hm1 := aft_cell (B := w3.heap.size) (w0 := w3) (by have := Z0.out; omega) (bcl hbr3 (show w1.cell? ⟨w.heap.size, 0, none⟩ = some (.slice A n c) from (at_get' C0.out).1))
          have hm2 := aft_cell (B := w3.heap.size) (w0 := w3) (by have := Z0.out; omega) (bcl hbr3 (show w1.cell? ⟨w.heap.size, 1, none⟩ = some (.slice B m e0) from (at_get' C0.out).2.1))
          have hrr := aft_cell (block_lt_of_cell hc3) hc3
          have hxr := aft_cell (block_lt_of_cell hx3) hx3
          have CALL := hid fun X : Aft w3.heap.size w3 => aft_call ((IH.out (front ++ [p]) x X.val (by rw [HP.out]; simp) HX.out.2 ((L.out.bl hbw3.out).bl X.prop) ((R.out.bl hbw3.out).bl X.prop) ((PG.out.bl hbw3.out).bl X.prop)).mono fun e w' h => (show e = .returned (.int .i64 (V : Nat)) ∧ Below X.val.heap.size X.val w' from ⟨by rw [h.1, HVV.out], h.2⟩)) (Nat.le_refl _)
          have hfl : (front ++ [p]).length = t + 1 := by rw [List.length_append, HT.out]; rfl
          rw [hfl] at CALL
          have s1 : IntKind.i64.wrap ((t : Int) + 1) = ((t + 1 : Nat) : Int) := IntWalk.i64_in _ (by omega)
          have s2 : IntKind.i64.wrap ((z : Int) + (V : Int)) = ((z + V : Nat) : Int) := by rw [IntWalk.i64_in _ (by omega)]; omega
          clear hV hfl
          go_wp2_with fail
          refine wp_region_aft (Below.refl w3.heap.size w3) (by kernel_rfl) (by kernel_rfl) ?_
          repeat (go_big_quiet_step ((go_at_call 54; exact CALL.out _)))
          refine wpQuiet_nil ?_
          rintro w4 ⟨⟨_, hb4⟩, rfl⟩
          have hbr4 := btr hbr3 hb4
          clear hm1 hm2 hrr hxr CALL hc3 hx3 s1 s2 hz3
          go_wp2_with fail
          go_roundg (gk - 1)
          case measure => have := HKG.out; omega
          case rel => exact ⟨k + 1, z + V, by have := HKG.out; omega, by go_num, rfl, HF.out.symm, hbr4⟩
set_option maxRecDepth 100000 in
set_option maxHeartbeats 1000000 in
theorem specReadingsMany_any (A B C : Option Addr) (n c m e0 q d lo : Nat) (l : List Int) (r page : List (List Int)) (w : World) (hl : Rd intS lo w.heap.size w A n l) (hr : Rd (sliceS intS) lo w.heap.size w B m r) (hp : Rd (sliceS intS) lo w.heap.size w C q page) :
    Calls Try.prog 15 #[.agg #[.slice A n c, .slice B m e0], .slice C q d] w fun e w' => e = .returned (.int .i64 (manyV l r page)) ∧ Below w.heap.size w w' := by
  have L := hid hl
  have R := hid hr
  have PG := hid hp
  clear hl hr hp
  have b0 := bnew w (.cells #[.slice A n c, .slice B m e0] 26)
  have c0 := heap_alloc_new w (.cells #[.slice A n c, .slice B m e0] 26)
  have z0 : (w.alloc (.cells #[.slice A n c, .slice B m e0] 26)).heap.size = w.heap.size + 1 := by simp
  have B0 := hid b0
  have C0 := hid c0
  have Z0 := hid z0
  clear b0 c0 z0
  go_enter Try.func15, Try.ntmps15
  go_wp2_with fail
  refine (l5Both_any A B C n c m e0 q d lo l r page _ (L.out.bl B0.out) (R.out.bl B0.out) (PG.out.bl B0.out)).mono ?_
  rintro e w1 ⟨rfl, hb1⟩
  have B1 := hid (btr B0.out hb1)
  have cc := (hb1.block w.heap.size (by rw [Z0.out]; omega)).trans C0.out
  have hz1 := hb1.size
  rw [Z0.out] at hz1
  have hz2 : w.heap.size < w1.heap.size := by omega
  obtain ⟨k1, k2, _, _⟩ := at_get' cc
  clear hb1 cc
  by_cases hok : bothOk l r page = true
  case neg =>
    have hok' : bothOk l r page = false := by simpa using hok
    have HF := hid (show manyV l r page = -1 by simp [manyV, hok'])
    rw [hok']
    clear hok
    go_wp2_with fail
    go_ret
    exact ⟨ret_int HF.out.symm, B1.out⟩
  case pos =>
    rw [hok]
    have HOK := hid hok
    have HF := hid (show manyV l r page = (manyOf l r page (-1) : Int) by simp [manyV, hok])
    clear hok
    go_wp2_with fail
    refine (l5Many_any A B C n c m e0 q d lo l r page HOK.out page [] (-1) _ rfl (by omega) (L.out.bl B1.out) (R.out.bl B1.out) (PG.out.bl B1.out)).mono ?_
    rintro e w2 ⟨rfl, hb2⟩
    go_wp2_with fail
    go_ret
    exact ⟨ret_int HF.out.symm, btr B1.out hb2⟩
end Go.Proofs.Ytfjoininagdlcaa
