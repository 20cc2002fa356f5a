/- Dictionaries as they are drawn. -/
import Derived.Test.YtigemahbopligaaDrawW
namespace Go.Proofs.Ytigemahbopligaa
open Go.RowKit
attribute [local go_sem] Oper.semAt_some
theorem own_pos {α : Type} [Inhabited α] {S : Shape α} {base : Nat} {w : World} {e : TypeId} {A : Option Addr} {n c : Nat} {l : List α} (h : OwnR S base w e (.slice A n c) l) (hp : 0 < l.length) : ∃ g, A = some ⟨g, 0, none⟩ ∧ base ≤ g ∧ g < w.heap.size ∧ n = l.length ∧ n ≤ c := by
  obtain ⟨xs, ⟨hl, h2⟩, hx⟩ := h
  rcases h2 with ⟨h3, h0⟩ | ⟨g', cap, cur, h3, hg, hh, hc, hcm, hcs, htake⟩
  · injection h3 with a1 a2 _
    omega
  · injection h3 with a1 a2 a3
    exact ⟨g', a1, hg, (Array.getElem?_eq_some_iff.1 hh).1, a2, by omega⟩
/-- A drawn dictionary. -/
def DrawnD (rb p : Nat) (w : World) (e : Ending) (w' : World) : Prop :=
  ∃ A c l p', e = .returned (.slice A (List.length l) c) ∧ OwnR strS w.heap.size w' 9 (.slice A (List.length l) c) l ∧ List.length l ≤ 9 ∧ p' ≤ p + 200 ∧ Rdr rb w' p' ∧ Chg (fun k => k = rb) w w'
set_option maxRecDepth 100000 in
set_option maxHeartbeats 4000000 in
theorem l91Dictionary_any (rb p : Nat) (w : World) (h : Rdr rb w p) (hp : p ≤ 1000) :
    Calls Try.prog 76 #[.pointer (some ⟨rb, 0, none⟩)] w (DrawnD rb p w) := by
  obtain ⟨i0, hi1, hz0, hz1, hz2⟩ := info_parts (show (Try.prog.info? 9).map (fun i => (i.zero, i.size, i.bytes)) = some (some (.string ByteArray.empty), 1, 16) by kernel_rfl)
  have HI := hid (And.intro hi1 (And.intro hz0 (And.intro hz1 hz2)))
  have hrl := h.lt
  have HR := hid (h.chgR (bnew w (.cells #[] 9)))
  have hol := OwnR.nil (S := strS) (e := 9) (base := w.heap.size) (w := w) (Nat.le_refl _) #[] rfl
  have HOL := hid hol
  have HC0 := hid (chg_new w (.cells #[] 9) (fun k => k = rb))
  clear h hol hi1 hz0 hz1 hz2
  go_enter Try.func76, Try.ntmps76
  go_wp2_with fail
  refine (pick_any rb _ p 9 HR.out (by omega) (by omega) (by omega)).mono ?_
  rintro e w1 ⟨v, rfl, hv0, hv1, hr1, hc1⟩
  obtain ⟨N, rfl⟩ := Int.eq_ofNat_of_zero_le hv0
  have hN : N ≤ 8 := by have := hv1 (by omega); omega
  have HR1 := hid hr1
  have HO1 := hid (HOL.out.chg hc1 (fun k hk => by omega))
  have HC1 := hid (HC0.out.trans hc1)
  clear hv0 hv1 hr1 hc1
  go_wp2_with fail
  go_loopg [3, 5, 6] N (fun gk l3 i _ wr => ∃ (k : Nat) (A5 : Option Addr) (c5 : Nat) (l : List ByteArray) (q : Nat), k + gk = N ∧ i = .int .i64 k ∧ l3 = .slice A5 l.length c5 ∧ OwnR strS w.heap.size wr 9 (.slice A5 l.length c5) l ∧ l.length ≤ k ∧ q ≤ p + 1 + 20 * k ∧ Rdr rb wr q ∧ Chg (fun k => k = rb) w wr)
  case atStart => exact ⟨0, _, _, [], p + 1, Nat.zero_add _, rfl, rfl, HO1.out, Nat.le_refl _, Nat.le_refl _, HR1.out, HC1.out⟩
  case round =>
    clear HO1 HR1 HC1 HOL HC0 HR
    obtain ⟨k, A5, c5, l, q, hkg, rfl, rfl, hO, hll, hq, hr, hc⟩ := hrel
    have HKG := hid hkg
    have HO := hid hO
    have HRR := hid hr
    have HC := hid hc
    have hk : k ≤ N := by omega
    have hl8 : l.length ≤ 8 := by omega
    have hwz := hc.size
    clear hkg hO hr hc
    by_cases hlt : k < N
    case pos =>
      have hki : (k : Int) < (N : Int) := by omega
      go_wp2_with fail
      refine (l91Word_any rb q _ HRR.out (by omega)).mono ?_
      rintro e w3 ⟨s, q2, rfl, hs, hq2, hr3, hc3⟩
      have HR3 := hid hr3
      have hO3 := HO.out.chg hc3 (fun j hj => by omega)
      have HO3 := hid hO3
      have HC3 := hid (HC.out.trans hc3)
      have hRd := hO3.rd (by omega)
      have HRD := hid hRd.2
      have hz3 := HC3.out.size
      clear hr3 hc3 hO3 hRd
      obtain ⟨wo, hwo⟩ : ∃ wo, wordOk s = wo := ⟨_, rfl⟩
      have hWV := fun w1 => specWordValid_any s w1 (by omega)
      rw [hwo] at hWV
      have HWV := hid hWV
      clear hwo hWV
      cases wo with
      | false =>
        go_wp2_with fail
        refine (HWV.out _).mono ?_
        rintro e w4 ⟨rfl, rfl⟩
        go_wp2_with fail
        go_roundg (gk - 1)
        case measure => have := HKG.out; omega
        case rel => exact ⟨k + 1, A5, c5, l, q2, by have := HKG.out; omega, by go_num, rfl, HO3.out, by omega, by omega, HR3.out, HC3.out⟩
      | true =>
        obtain ⟨t, ht⟩ : ∃ t, (l.any fun a => eqD a s) = t := ⟨_, rfl⟩
        have hIS := l3Is_any A5 l.length c5 _ l s w3 HRD.out
        rw [ht] at hIS
        have HIS := hid hIS
        clear ht hIS
        cases t with
        | true =>
          go_wp2_with fail
          refine (HWV.out _).mono ?_
          rintro e w4 ⟨rfl, rfl⟩
          go_wp2_with fail
          refine HIS.out.mono ?_
          rintro e w4 ⟨rfl, rfl⟩
          go_wp2_with fail
          go_roundg (gk - 1)
          case measure => have := HKG.out; omega
          case rel => exact ⟨k + 1, A5, c5, l, q2, by have := HKG.out; omega, by go_num, rfl, HO3.out, by omega, by omega, HR3.out, HC3.out⟩
        | false =>
          go_wp2_with fail
          refine (HWV.out _).mono ?_
          rintro e w4 ⟨rfl, rfl⟩
          go_wp2_with fail
          refine HIS.out.mono ?_
          rintro e w4 ⟨rfl, rfl⟩
          go_wp2_with (at_builtin; go_loud (refine wpList_append_R rfl (.tmp 25) (.tmp 27) _ rfl strS Try.underlying45 HI.out rfl (by decide) (v := .slice A5 l.length c5) rfl (HO3.out.al _) (y := s) (cs := [.string s]) rfl (heap_alloc_new _ _) rfl (by simp [Value.oneCell']) ⟨rfl, by omega⟩ (by omega) (by omega) (by simp; omega) ?_; intro A6 c6 w5 hO5 hb5))
          have hb6 := ((bnew w3 (.cells #[.string s] 9)).mono (B' := w.heap.size) (by omega)).trans hb5
          have HO5 := hid hO5
          have HR5 := hid (HR3.out.low hb6 hrl)
          have HC5 := hid (chg_hi HC3.out (bel_chg hb6) (fun j e => e))
          clear hO5 hb5 hb6
          go_wp2_with fail
          go_roundg (gk - 1)
          case measure => have := HKG.out; omega
          case rel => exact ⟨k + 1, A6, c6, l ++ [s], q2, by have := HKG.out; omega, by go_num, by rw [List.length_append]; rfl, by rw [List.length_append]; exact HO5.out, by rw [List.length_append]; show l.length + 1 ≤ k + 1; omega, by omega, HR5.out, HC5.out⟩
    case neg =>
      obtain rfl : k = N := by omega
      have hni : ¬ (k : Int) < (k : Int) := by omega
      by_cases hn0 : l.length = 0
      · have hln : ¬ (0 : Int) < (l.length : Int) := by omega
        clear hn0
        go_wp2_with fail
        go_ret
        exact ⟨A5, c5, l, q, rfl, HO.out, by omega, by omega, HRR.out, HC.out⟩
      · have hli : (0 : Int) < (l.length : Int) := by omega
        go_wp2_with fail
        refine (pick_any rb _ q 40 HRR.out (by omega) (by omega) (by omega)).mono ?_
        rintro e w3 ⟨v, rfl, _, _, hr3, hc3⟩
        have HR3 := hid hr3
        have hO3 := HO.out.chg hc3 (fun k hk => by omega)
        have HO3 := hid hO3
        have HC3 := hid (HC.out.trans hc3)
        have hz3 := HC3.out.size
        clear hr3 hc3
        by_cases hv : v = 0
        · subst hv
          obtain ⟨g, rfl, hg1, hg2, _, _⟩ := own_pos hO3 (by omega)
          have hRd := (hO3.rd (by omega)).2
          obtain ⟨b', off', hA', _, _, hcx⟩ := hRd.2.2 (by omega)
          injection hA' with hA'
          injection hA' with e1 e2 _
          subst e1 e2
          obtain ⟨y0, y1⟩ := hcx.str (k := 0) (by omega)
          rw [Nat.add_zero] at y0
          obtain ⟨s, hs⟩ : ∃ s, gt l 0 = s := ⟨_, rfl⟩
          rw [hs] at y0 y1
          clear hO3 hRd hcx hs
          go_wp2_with (at_builtin; go_loud (refine wpList_append_R rfl (.tmp 37) (.tmp 41) _ rfl strS Try.underlying45 HI.out rfl (by decide) (v := .slice (some ⟨g, 0, none⟩) l.length c5) rfl (HO3.out.al _) (y := s) (cs := [.string s]) rfl (heap_alloc_new _ _) rfl (by simp [Value.oneCell']) ⟨rfl, by omega⟩ (by omega) (by omega) (by simp; omega) ?_; intro A6 c6 w5 hO5 hb5))
          have hb6 := ((bnew w3 (.cells #[.string s] 9)).mono (B' := w.heap.size) (by omega)).trans hb5
          have HO5 := hid hO5
          have HR5 := hid (HR3.out.low hb6 hrl)
          have HC5 := hid (chg_hi HC3.out (bel_chg hb6) (fun j e => e))
          clear hO5 hb5 hb6 y0
          go_wp2_with fail
          go_ret
          exact ⟨A6, c6, l ++ [s], q + 1, by rw [List.length_append]; rfl, by rw [List.length_append]; exact HO5.out, by rw [List.length_append]; show l.length + 1 ≤ 9; omega, by omega, HR5.out, HC5.out⟩
        · have hv0 : (v == 0) = false := by simpa using hv
          clear hv hO3
          go_wp2_with fail
          go_ret
          exact ⟨A5, c5, l, q + 1, rfl, HO3.out, by omega, by omega, HR3.out, HC3.out⟩
end Go.Proofs.Ytigemahbopligaa
