/- Speeches and briefs as they are drawn. -/
import Derived.Test.YthijnojefeeaoaaBAdd
import Derived.Test.YthijnojefeeaoaaReaderM
namespace Go.Proofs.Ythijnojefeeaoaa
open Go.RowKit
attribute [local go_sem] Oper.semAt_some
theorem Rdr.chgR {rb : Nat} {w w' : World} {p : Nat} (h : Rdr rb w p) (hb : Below w.heap.size w w') : Rdr rb w' p := h.keep (hb.mono h.lt)
theorem bel_chg {B : Nat} {w w' : World} (h : Below B w w') : Chg (fun j => B ≤ j) w w' := ⟨h.os, h.tape, h.output, h.size, fun j _ hn => h.block j (by omega)⟩
theorem Rdr.low {rb B : Nat} {w w' : World} {p : Nat} (h : Rdr rb w p) (hb : Below B w w') (hB : rb < B) : Rdr rb w' p := h.keep (hb.mono hB)
/-- A literal row of texts. -/
theorem lit_rd {w : World} {b : Nat} {l : List ByteArray} {cs : Array Value} {e : TypeId} (h : w.heap[b]? = some (.cells cs e (0, 0))) (hc : cs = (l.map Value.string).toArray) (hl : ∀ s ∈ l, s.size ≤ 9223372036854775807) (hn : l.length ≤ 1000) : Rd strS 0 w.heap.size w (some ⟨b, 0, none⟩) l.length l := by
  subst hc
  refine ⟨rfl, by omega, fun _ => ⟨b, 0, rfl, Nat.zero_le _, (Array.getElem?_eq_some_iff.1 h).1, fun k hk => ⟨fun _ => .string (gt l k), fun j hj => ?_, rfl, hl _ (gt_mem hk)⟩⟩⟩
  have hj' : j < 1 := hj
  obtain rfl : j = 0 := by omega
  have hs : 0 + k * strS.sz + 0 = k := by show 0 + k * 1 + 0 = k; omega
  rw [hs, cell_of_row w b _ _ _ (0, 0) h, List.getElem?_toArray, List.getElem?_map, List.getElem?_eq_getElem hk, gt_eq hk]
  rfl
theorem own_pos {α : Type} [Inhabited α] {S : Shape α} {base : Nat} {w : World} {e : TypeId} {A : Option Addr} {n c : Nat} {l : List α} (h : OwnR S base w e (.slice A n c) l) (hp : 0 < l.length) : ∃ g, A = some ⟨g, 0, none⟩ ∧ base ≤ g ∧ g < w.heap.size := by
  obtain ⟨xs, ⟨hl, h2⟩, hx⟩ := h
  rcases h2 with ⟨h3, h0⟩ | ⟨g', cap, cur, h3, hg, hh, hc, hcm, hcs, htake⟩
  · injection h3 with a1 a2 _
    omega
  · injection h3 with a1 _ _
    exact ⟨g', a1, hg, (Array.getElem?_eq_some_iff.1 hh).1⟩
theorem str_at0 {base g n c : Nat} {w : World} {e : TypeId} {l : List ByteArray} (h : OwnR strS base w e (.slice (some ⟨g, 0, none⟩) n c) l) (hn : 0 < n) : w.cell? ⟨g, 0, none⟩ = some (.string (gt l 0)) ∧ w.frozen? ⟨g, 0, none⟩ = false ∧ n = l.length := by
  obtain ⟨ho, hl⟩ := strs_own h
  rcases ho.2 with ⟨h3, h0⟩ | ⟨g', cap, cur, h3, hg, hh, hc, hcm, hcs, htake⟩
  · cases h3
  · injection h3 with a1 a2 a3
    injection a1 with a1
    injection a1 with a1
    subst a1 a2 a3
    refine ⟨?_, frozen_of_row _ _ _ _ _ hh, rfl⟩
    rw [cell_of_row w _ _ cur e (0, 0) hh]
    have h1 : (List.take (l.length * 1) cur.toList)[0]? = (l.map Value.string)[0]? := by rw [htake]
    rw [List.getElem?_take, if_pos (by omega), List.getElem?_map, List.getElem?_eq_getElem hn, Array.getElem?_toList] at h1
    rw [h1, gt_eq hn]
    rfl
theorem str_set0 {base g n c : Nat} {w : World} {e : TypeId} {l : List ByteArray} (h : OwnR strS base w e (.slice (some ⟨g, 0, none⟩) n c) l) (hn : 0 < n) (s : ByteArray) (hs : s.size ≤ 9223372036854775807) : OwnR strS base (w.setCell ⟨g, 0, none⟩ (.string s)) e (.slice (some ⟨g, 0, none⟩) n c) (l.set 0 s) := by
  obtain ⟨ho, hl⟩ := strs_own h
  rcases ho.2 with ⟨h3, h0⟩ | ⟨g', cap, cur, h3, hg, hh, hc, hcm, hcs, htake⟩
  · cases h3
  · injection h3 with a1 a2 a3
    injection a1 with a1
    injection a1 with a1
    subst a1 a2 a3
    refine own_strs (fun t ht => ?_) ⟨by simp, .inr ⟨g, c, cur.setIfInBounds 0 (.string s), by rw [List.length_set], hg, heap_setCell_same w g 0 cur e _ hh, by rw [List.length_set]; exact hc, hcm, by rw [Array.size_setIfInBounds]; exact hcs, ?_⟩⟩
    · rcases List.mem_or_eq_of_mem_set ht with ht | rfl
      · exact hl t ht
      · exact hs
    · rw [List.length_set, Array.toList_setIfInBounds, List.take_set, htake, List.map_set]
set_option maxHeartbeats 1000000 in
theorem of_any (rb b m p : Nat) (l : List ByteArray) (w : World) (h : Rdr rb w p) (hp : p ≤ 900000) (hx : Rd strS 0 w.heap.size w (some ⟨b, 0, none⟩) m l) (hbr : b ≠ rb) (hm1 : 1 ≤ m) (hm : m ≤ 1000) :
    Calls Try.prog 76 #[.pointer (some ⟨rb, 0, none⟩), .slice (some ⟨b, 0, none⟩) m m] w fun e w' => ∃ s, s ∈ l ∧ e = .returned (.string s) ∧ Rdr rb w' (p + 1) ∧ Chg (fun k => k = rb) w w' := by
  have HX := hid hx
  have E1 := hid hx.1
  have HR := hid h
  clear h hx
  go_enter Try.func76, Try.ntmps76
  go_wp2_with fail
  refine (pick_any rb w p m HR.out (by omega) (by omega) (by omega)).mono ?_
  rintro e w1 ⟨v, rfl, hv0, hv1, hr1, hc1⟩
  obtain ⟨z, rfl⟩ := Int.eq_ofNat_of_zero_le hv0
  have hz : z < m := by have := hv1 (by omega); omega
  have hzi : (z : Int) < (m : Int) := by omega
  obtain ⟨b', off, he, _, hbb, hcx⟩ := HX.out.2.2 (by omega)
  injection he with he
  injection he with he1 he2 _
  subst he1 he2
  have q0 := (hcx.str hz).1
  rw [Nat.zero_add] at q0
  have q1 := hc1.cell (by omega) q0
  have HR1 := hid hr1
  have HC1 := hid hc1
  have hmem := gt_mem (l := l) (k := z) (by rw [← E1.out]; exact hz)
  obtain ⟨s, hs⟩ : ∃ s, gt l z = s := ⟨_, rfl⟩
  rw [hs] at q1 hmem
  have HM := hid hmem
  clear hv0 hv1 hr1 hc1 hcx q0 hs hmem
  go_wp2_with fail
  go_ret
  exact ⟨s, HM.out, rfl, HR1.out, HC1.out⟩
set_option maxRecDepth 100000 in
set_option maxHeartbeats 4000000 in
theorem l91Speech_any (rb p most : Nat) (w : World) (h : Rdr rb w p) (hp : p ≤ 500) (hm : most ≤ 8) :
    Calls Try.prog 83 #[.pointer (some ⟨rb, 0, none⟩), .int .i64 most] w fun e w' => ∃ A c l p', e = .returned (.slice A (List.length l) c) ∧ OwnR strS w.heap.size w' 9 (.slice A (List.length l) c) l ∧ (List.length l ≤ most ∧ p' ≤ p + 20 ∧ ∀ s ∈ l, s.size ≤ 10) ∧ Rdr rb w' p' ∧ Chg (fun k => k = rb) w w' := by
  obtain ⟨i0, hi1, hz0, hz1, hz2⟩ := info_parts (show (Try.prog.info? 9).map (fun i => (i.zero, i.size, i.bytes)) = some (some (.string ByteArray.empty), 1, 16) by kernel_rfl)
  have HI := hid (And.intro hi1 (And.intro hz0 (And.intro hz1 hz2)))
  have hrl := h.lt
  have hw1 : IntKind.i64.wrap ((most : Int) + 1) = ((most + 1 : Nat) : Int) := by rw [show (most : Int) + 1 = ((most + 1 : Nat) : Int) by omega]; exact IntWalk.i64_in _ (by omega)
  have HR := hid (h.chgR (bnew w (.cells #[] 9)))
  have hol := OwnR.nil (S := strS) (e := 9) (base := w.heap.size) (w := w) (Nat.le_refl _) #[] rfl
  have HOL := hid hol
  have HC0 := hid (chg_new w (.cells #[] 9) (fun k => k = rb))
  clear h hol hi1 hz0 hz1 hz2
  go_enter Try.func83, Try.ntmps83
  go_wp2_with fail
  refine (pick_any rb _ p ((most + 1 : Nat) : Int) HR.out (by omega) (by omega) (by omega)).mono ?_
  rintro e w1 ⟨v, rfl, hv0, hv1, hr1, hc1⟩
  obtain ⟨N, rfl⟩ := Int.eq_ofNat_of_zero_le hv0
  have hN : N ≤ most := by have := hv1 (by omega); omega
  have HR1 := hid hr1
  have HO1 := hid (HOL.out.chg hc1 (fun k hk => by omega))
  have HC1 := hid (HC0.out.trans hc1)
  have hz1 := hc1.size
  rw [World.size_alloc] at hz1
  clear hv0 hv1 hr1 hc1 hw1
  go_wp2_with fail
  go_loopg [5, 7] N (fun gk l5 i wr => ∃ (k : Nat) (A5 : Option Addr) (c5 : Nat) (l : List ByteArray) (q : Nat), k + gk = N ∧ i = .int .i64 k ∧ l5 = .slice A5 l.length c5 ∧ OwnR strS w.heap.size wr 9 (.slice A5 l.length c5) l ∧ l.length = k ∧ (q ≤ p + 1 + k ∧ ∀ s ∈ l, s.size ≤ 10) ∧ Rdr rb wr q ∧ Chg (fun k => k = rb) w wr)
  case atStart => exact ⟨0, _, _, [], p + 1, Nat.zero_add _, rfl, rfl, HO1.out, rfl, ⟨Nat.le_refl _, fun s hs => by cases hs⟩, HR1.out, HC1.out⟩
  case round =>
    clear HO1 HR1 HC1 HOL HC0 HR
    obtain ⟨k, A5, c5, l, q, hkg, rfl, rfl, hO, hll, hq, hr, hc⟩ := hrel
    have HKG := hid hkg
    have HO := hid hO
    have HLL := hid hll
    have HQ := hid hq
    have HRR := hid hr
    have HC := hid hc
    have hk : k ≤ N := by omega
    have hq1 := hq.1
    have hwz := hc.size
    have hl8 : l.length ≤ 8 := by omega
    clear hkg hO hll hq hr hc
    by_cases hlt : k < N
    · have hki : (k : Int) < (N : Int) := by omega
      have bl := bnew wr (.cells #[.string ⟨#[119, 101]⟩, .string ⟨#[97, 114, 101]⟩, .string ⟨#[110, 111, 116]⟩, .string ⟨#[104, 101, 114, 101]⟩, .string ⟨#[110, 111, 119]⟩] 9)
      have nl := heap_alloc_new wr (.cells #[.string ⟨#[119, 101]⟩, .string ⟨#[97, 114, 101]⟩, .string ⟨#[110, 111, 116]⟩, .string ⟨#[104, 101, 114, 101]⟩, .string ⟨#[110, 111, 119]⟩] 9)
      have hlit := lit_rd (l := [⟨#[119, 101]⟩, ⟨#[97, 114, 101]⟩, ⟨#[110, 111, 116]⟩, ⟨#[104, 101, 114, 101]⟩, ⟨#[110, 111, 119]⟩]) nl rfl (by decide) (by decide)
      have hof := of_any rb wr.heap.size 5 q _ _ (HRR.out.chgR bl) (by omega) hlit (by omega) (by omega) (by omega)
      have HOF := hid hof
      have HBL := hid bl
      clear bl nl hlit hof
      go_wp2_with fail
      refine HOF.out.mono ?_
      rintro e w3 ⟨s, hsm, rfl, hr3, hc3⟩
      have hs10 : s.size ≤ 10 := by
        revert s
        decide
      have HS := hid hsm
      have HR3 := hid hr3
      have HO3 := hid ((HO.out.bl HBL.out).chg hc3 (fun j hj => by omega))
      have HC3 := hid (HC.out.trans ((chgW HBL.out).trans hc3))
      have hz3 := hc3.size
      rw [World.size_alloc] at hz3
      clear hsm hr3 hc3 HOF
      go_wp2_with (at_builtin; refine wpList_append_R rfl (.tmp 18) (.tmp 22) _ rfl strS Try.underlying24 HI.out rfl (by decide) rfl (HO3.out.al _) (y := s) rfl (heap_alloc_new _ _) rfl (by simp [Value.oneCell']) ⟨rfl, by omega⟩ (by omega) (by omega) (by simp; omega) ?_; intro A6 c6 w5 hO5 hb5)
      have hb6 := ((bnew w3 (.cells #[.string s] 9)).mono (B' := w.heap.size) (by omega)).trans hb5
      go_roundg (gk - 1)
      case measure => have := HKG.out; omega
      case rel =>
        refine ⟨k + 1, A6, c6, l ++ [s], q + 1, by have := HKG.out; omega, by go_num, by rw [List.length_append]; rfl, by rw [List.length_append]; exact hO5, by rw [List.length_append, HLL.out]; rfl, ⟨by have := HQ.out.1; omega, fun t ht => ?_⟩, HR3.out.low hb6 hrl, chg_hi HC3.out (bel_chg hb6) (fun j e => e)⟩
        rcases List.mem_append.1 ht with ht | ht
        · exact HQ.out.2 t ht
        · rw [List.mem_singleton] at ht
          rw [ht]
          exact hs10
    · obtain rfl : k = N := by omega
      by_cases hn0 : k = 0
      · obtain ⟨e0⟩ : (k : Int) = 0 ∧ True := ⟨by omega, trivial⟩
        subst hn0
        go_wp2_with fail
        go_ret
        exact ⟨A5, c5, l, q, rfl, HO.out, ⟨by have := HLL.out; omega, by have := HQ.out.1; omega, HQ.out.2⟩, HRR.out, HC.out⟩
      · have hki : (0 : Int) < (k : Int) := by omega
        go_wp2_with fail
        refine (pick_any rb _ q 40 HRR.out (by omega) (by omega) (by omega)).mono ?_
        rintro e w3 ⟨v, rfl, _, _, hr3, hc3⟩
        have HR3 := hid hr3
        have HO3 := hid (HO.out.chg hc3 (fun k hk => by omega))
        have HC3 := hid (HC.out.trans hc3)
        have hz3 := hc3.size
        clear hr3 hc3
        by_cases hv : v = 0
        · subst hv
          have bl := bnew w3 (.cells #[.string ⟨#[]⟩, .string ⟨#[65]⟩, .string ⟨#[97, 49]⟩] 9)
          have nl := heap_alloc_new w3 (.cells #[.string ⟨#[]⟩, .string ⟨#[65]⟩, .string ⟨#[97, 49]⟩] 9)
          have hlit := lit_rd (l := [⟨#[]⟩, ⟨#[65]⟩, ⟨#[97, 49]⟩]) nl rfl (by decide) (by decide)
          have hof := of_any rb w3.heap.size 3 (q + 1) _ _ (HR3.out.chgR bl) (by have := HQ.out.1; omega) hlit (by omega) (by omega) (by omega)
          have HOF := hid hof
          have HBL := hid bl
          have hl0 : (0 : Int) < (l.length : Int) := by have := HLL.out; omega
          clear bl nl hlit hof
          go_wp2_with fail
          refine HOF.out.mono ?_
          rintro e w5 ⟨s, hsm, rfl, hr5, hc5⟩
          have hs10 : s.size ≤ 10 := by
            revert s
            decide
          have HR5 := hid hr5
          have hO5 := (HO3.out.bl HBL.out).chg hc5 (fun j hj => by omega)
          have HC5 := hid (HC3.out.trans ((chgW HBL.out).trans hc5))
          clear hsm hr5 hc5 HOF
          obtain ⟨g, rfl, hgw, hgl⟩ := own_pos hO5 (by have := HLL.out; omega)
          obtain ⟨y1, y2, y3⟩ := str_at0 hO5 (by have := HLL.out; omega)
          have HO5 := hid (str_set0 hO5 (by have := HLL.out; omega) s (by omega))
          clear hO5
          go_wp2_with fail
          go_ret
          have hbs : Below w.heap.size w5 (w5.setCell ⟨g, 0, none⟩ (.string s)) := (Below.refl w.heap.size w5).setCell hgw _
          have hst := HO5.out
          refine ⟨some ⟨g, 0, none⟩, c5, l.set 0 s, q + 2, by rw [List.length_set]; rfl, by rw [List.length_set]; exact hst, ⟨by rw [List.length_set]; have := HLL.out; omega, by have := HQ.out.1; omega, fun t ht => ?_⟩, HR5.out.low hbs hrl, chg_hi HC5.out (bel_chg hbs) (fun j e => e)⟩
          rcases List.mem_or_eq_of_mem_set ht with ht | rfl
          · exact HQ.out.2 t ht
          · exact hs10
        · go_wp2_with fail
          go_ret
          exact ⟨A5, c5, l, q + 1, rfl, HO3.out, ⟨by have := HLL.out; omega, by have := HQ.out.1; omega, HQ.out.2⟩, HR3.out, HC3.out⟩
end Go.Proofs.Ythijnojefeeaoaa
