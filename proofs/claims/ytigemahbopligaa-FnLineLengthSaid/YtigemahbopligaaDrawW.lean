/- Words and dictionaries as they are drawn. -/
import Derived.Test.YtigemahbopligaaReader3
import Derived.Test.YtigemahbopligaaDictS
namespace Go.Proofs.Ytigemahbopligaa
open Go.RowKit
attribute [local go_sem] Oper.semAt_some
theorem Rdr.chgR {rb : Nat} {w w' : World} {p : Nat} (h : Rdr rb w p) (hb : Below w.heap.size w w') : Rdr rb w' p := h.keep (hb.mono h.lt)
theorem chgW {D : Nat → Prop} {w w' : World} (h : Below w.heap.size w w') : Chg D w w' := ⟨h.os, h.tape, h.output, h.size, fun k hk _ => h.block k hk⟩
theorem bel_chg {B : Nat} {w w' : World} (h : Below B w w') : Chg (fun j => B ≤ j) w w' := ⟨h.os, h.tape, h.output, h.size, fun j _ hn => h.block j (by omega)⟩
theorem chg_hi {D D' : Nat → Prop} {a b c : World} (h : Chg D a b) (k : Chg D' b c) (hd : ∀ j, D' j → a.heap.size ≤ j) : Chg D a c :=
  ⟨k.os.trans h.os, k.tape.trans h.tape, k.output.trans h.output, Nat.le_trans h.size k.size, fun j hj hn => (k.block j (Nat.lt_of_lt_of_le hj h.size) (fun e => by have := hd j e; omega)).trans (h.block j hj hn)⟩
theorem Rdr.low {rb B : Nat} {w w' : World} {p : Nat} (h : Rdr rb w p) (hb : Below B w w') (hB : rb < B) : Rdr rb w' p := h.keep (hb.mono hB)
/-- A literal row of texts. -/
theorem lit_rd {w : World} {b : Nat} {l : List ByteArray} {cs : Array Value} {e : TypeId} (h : w.heap[b]? = some (.cells cs e (0, 0))) (hc : cs = (l.map Value.string).toArray) (hl : ∀ s ∈ l, s.size ≤ 9223372036854775807) (hn : l.length ≤ 1000) : Rd strS 0 w.heap.size w (some ⟨b, 0, none⟩) l.length l := by
  subst hc
  refine ⟨rfl, by omega, fun _ => ⟨b, 0, rfl, Nat.zero_le _, (Array.getElem?_eq_some_iff.1 h).1, fun k hk => ⟨fun _ => .string (gt l k), fun j hj => ?_, rfl, hl _ (gt_mem hk)⟩⟩⟩
  have hj' : j < 1 := hj
  obtain rfl : j = 0 := by omega
  have hs : 0 + k * strS.sz + 0 = k := by show 0 + k * 1 + 0 = k; omega
  rw [hs, cell_of_row w b _ _ _ (0, 0) h, List.getElem?_toArray, List.getElem?_map, List.getElem?_eq_getElem hk, gt_eq hk]
  rfl
set_option maxHeartbeats 1000000 in
theorem of_any (rb b m p : Nat) (l : List ByteArray) (w : World) (h : Rdr rb w p) (hp : p ≤ 900000) (hx : Rd strS 0 w.heap.size w (some ⟨b, 0, none⟩) m l) (hbr : b ≠ rb) (hm1 : 1 ≤ m) (hm : m ≤ 1000) :
    Calls Try.prog 89 #[.pointer (some ⟨rb, 0, none⟩), .slice (some ⟨b, 0, none⟩) m m] w fun e w' => ∃ s, s ∈ l ∧ e = .returned (.string s) ∧ Rdr rb w' (p + 1) ∧ Chg (fun k => k = rb) w w' := by
  have HX := hid hx
  have E1 := hid hx.1
  have HR := hid h
  clear h hx
  go_enter Try.func89, Try.ntmps89
  go_wp2_with fail
  refine (pick_any rb w p m HR.out (by omega) (by omega) (by omega)).mono ?_
  rintro e w1 ⟨v, rfl, hv0, hv1, hr1, hc1⟩
  obtain ⟨z, rfl⟩ := Int.eq_ofNat_of_zero_le hv0
  have hz : z < m := by have := hv1 (by omega); omega
  have hzi : (z : Int) < (m : Int) := by omega
  obtain ⟨b', off, he, _, hbb, hcx⟩ := HX.out.2.2 (by omega)
  injection he with he
  injection he with he1 he2 _
  subst he1 he2
  have q0 := (hcx.str hz).1
  rw [Nat.zero_add] at q0
  have q1 := hc1.cell (by omega) q0
  have HR1 := hid hr1
  have HC1 := hid hc1
  have hmem := gt_mem (l := l) (k := z) (by rw [← E1.out]; exact hz)
  obtain ⟨s, hs⟩ : ∃ s, gt l z = s := ⟨_, rfl⟩
  rw [hs] at q1 hmem
  have HM := hid hmem
  clear hv0 hv1 hr1 hc1 hcx q0 hs hmem
  go_wp2_with fail
  go_ret
  exact ⟨s, HM.out, rfl, HR1.out, HC1.out⟩
/-- A text out of a literal row, laid and drawn from. -/
theorem of_lit (rb m p : Nat) (l : List ByteArray) (cs : Array Value) (w : World) (h : Rdr rb w p) (hp : p ≤ 900000) (hc : cs = (l.map Value.string).toArray) (hl : ∀ s ∈ l, s.size ≤ 20) (hm : l.length = m) (hm1 : 1 ≤ m) (hm2 : m ≤ 1000) :
    Calls Try.prog 89 #[.pointer (some ⟨rb, 0, none⟩), .slice (some ⟨w.heap.size, 0, none⟩) m m] (w.alloc (.cells cs 9)) fun e w' => ∃ s, s ∈ l ∧ e = .returned (.string s) ∧ Rdr rb w' (p + 1) ∧ Chg (fun k => k = rb) w w' := by
  have nl := heap_alloc_new w (.cells cs 9)
  have hlit := lit_rd (l := l) nl hc (fun s hs => by have := hl s hs; omega) (by omega)
  have hr := h.lt
  rw [hm] at hlit
  refine (of_any rb w.heap.size m p l _ (h.chgR (bnew w _)) hp hlit (by omega) hm1 hm2).mono ?_
  rintro e w' ⟨s, h1, h2, h3, h4⟩
  exact ⟨s, h1, h2, h3, (chg_new w _ _).trans h4⟩
set_option maxRecDepth 100000 in
set_option maxHeartbeats 4000000 in
theorem l91Word_any (rb p : Nat) (w : World) (h : Rdr rb w p) (hp : p ≤ 2000) :
    Calls Try.prog 90 #[.pointer (some ⟨rb, 0, none⟩)] w fun e w' => ∃ s p', e = .returned (.string s) ∧ s.size ≤ 200 ∧ p' ≤ p + 20 ∧ Rdr rb w' p' ∧ Chg (fun k => k = rb) w w' := by
  have hrl := h.lt
  have HR := hid h
  clear h
  go_enter Try.func90, Try.ntmps90
  go_wp2_with fail
  refine (pick_any rb _ p 40 HR.out (by omega) (by omega) (by omega)).mono ?_
  rintro e w1 ⟨v, rfl, _, _, hr1, hc1⟩
  have HR1 := hid hr1
  have HC1 := hid hc1
  clear hr1 hc1
  by_cases hv : v = 0
  · subst hv
    have HOF := hid (of_lit rb 4 (p + 1) [⟨#[]⟩, ⟨#[65]⟩, ⟨#[97, 49]⟩, ⟨#[97, 98, 99, 100, 101, 102, 103, 104, 105, 106, 107, 108, 109]⟩] #[.string ⟨#[]⟩, .string ⟨#[65]⟩, .string ⟨#[97, 49]⟩, .string ⟨#[97, 98, 99, 100, 101, 102, 103, 104, 105, 106, 107, 108, 109]⟩] w1 HR1.out (by omega) rfl (by decide) rfl (by omega) (by omega))
    go_wp2_with fail
    refine HOF.out.mono ?_
    rintro e w2 ⟨s, hsm, rfl, hr2, hc2⟩
    have hs : s.size ≤ 20 := by
      revert s
      decide
    have HR2 := hid hr2
    have HC2 := hid (HC1.out.trans hc2)
    clear hsm hr2 hc2
    go_wp2_with fail
    go_ret
    exact ⟨s, p + 1 + 1, rfl, by omega, by omega, HR2.out, HC2.out⟩
  have hv0 : (v == 0) = false := by simpa using hv
  clear hv
  go_wp2_with fail
  refine (pick_any rb _ (p + 1) 3 HR1.out (by omega) (by omega) (by omega)).mono ?_
  rintro e w2 ⟨u, rfl, hu0, hu1, hr2, hc2⟩
  obtain ⟨N, rfl⟩ := Int.eq_ofNat_of_zero_le hu0
  have hN : N ≤ 2 := by have := hu1 (by omega); omega
  have HR2 := hid hr2
  have HC2 := hid (HC1.out.trans hc2)
  obtain ⟨M, hM⟩ : ∃ M, N + 1 = M := ⟨_, rfl⟩
  have hw1 : IntKind.i64.wrap (1 + (N : Int)) = (M : Int) := by rw [show 1 + (N : Int) = (M : Int) by omega]; exact IntWalk.i64_in _ (by omega)
  have hM3 : M ≤ 3 := by omega
  clear hu0 hu1 hr2 hc2 hM HR1 HC1 hN
  go_wp2_with fail
  clear hw1
  go_loopg [3, 5] M (fun gk x i wr => ∃ (k : Nat) (s : ByteArray) (q : Nat), k + gk = M ∧ i = .int .i64 k ∧ x = .string s ∧ s.size ≤ 40 * k ∧ q ≤ p + 2 + 2 * k ∧ Rdr rb wr q ∧ Chg (fun j => j = rb) w wr)
  case atStart => exact ⟨0, ⟨#[]⟩, p + 1 + 1, Nat.zero_add _, rfl, rfl, Nat.le_refl _, by omega, HR2.out, HC2.out⟩
  case round =>
    clear HR2 HC2
    obtain ⟨k, s, q, hkg, rfl, rfl, hs, hq, hr, hc⟩ := hrel
    have HKG := hid hkg
    have HRR := hid hr
    have HC := hid hc
    have hk : k ≤ M := by omega
    clear hkg hr hc
    by_cases hlt : k < M
    · have hki : (k : Int) < (M : Int) := by omega
      have HOF := hid (of_lit rb 6 q [⟨#[98]⟩, ⟨#[100]⟩, ⟨#[116]⟩, ⟨#[110]⟩, ⟨#[110, 110]⟩, ⟨#[115]⟩] #[.string ⟨#[98]⟩, .string ⟨#[100]⟩, .string ⟨#[116]⟩, .string ⟨#[110]⟩, .string ⟨#[110, 110]⟩, .string ⟨#[115]⟩] wr HRR.out (by omega) rfl (by decide) rfl (by omega) (by omega))
      go_wp2_with fail
      refine HOF.out.mono ?_
      rintro e w3 ⟨a, ham, rfl, hr3, hc3⟩
      have ha : a.size ≤ 20 := by
        revert a
        decide
      have HR3 := hid hr3
      have HC3 := hid (HC.out.trans hc3)
      have HOG := hid (of_lit rb 5 (q + 1) [⟨#[97]⟩, ⟨#[101]⟩, ⟨#[105]⟩, ⟨#[]⟩, ⟨#[111]⟩] #[.string ⟨#[97]⟩, .string ⟨#[101]⟩, .string ⟨#[105]⟩, .string ⟨#[]⟩, .string ⟨#[111]⟩] w3 hr3 (by omega) rfl (by decide) rfl (by omega) (by omega))
      clear ham hr3 hc3 HOF
      go_wp2_with fail
      refine HOG.out.mono ?_
      rintro e w4 ⟨b, hbm, rfl, hr4, hc4⟩
      have hb : b.size ≤ 20 := by
        revert b
        decide
      have HR4 := hid hr4
      have HC4 := hid (HC3.out.trans hc4)
      clear hbm hr4 hc4 HOG
      go_wp2_with fail
      go_roundg (gk - 1)
      case measure => have := HKG.out; omega
      case rel => exact ⟨k + 1, _, q + 1 + 1, by have := HKG.out; omega, by go_num, rfl, by rw [ByteArray.size_append, ByteArray.size_append]; omega, by omega, HR4.out, HC4.out⟩
    · obtain rfl : k = M := by omega
      have hni : ¬ (k : Int) < (k : Int) := by omega
      have HOF := hid (of_lit rb 4 q [⟨#[]⟩, ⟨#[97]⟩, ⟨#[]⟩, ⟨#[101]⟩] #[.string ⟨#[]⟩, .string ⟨#[97]⟩, .string ⟨#[]⟩, .string ⟨#[101]⟩] wr HRR.out (by omega) rfl (by decide) rfl (by omega) (by omega))
      go_wp2_with fail
      refine HOF.out.mono ?_
      rintro e w3 ⟨a, ham, rfl, hr3, hc3⟩
      have ha : a.size ≤ 20 := by
        revert a
        decide
      have HR3 := hid hr3
      have HC3 := hid (HC.out.trans hc3)
      clear ham hr3 hc3 HOF
      go_wp2_with fail
      go_ret
      exact ⟨_, q + 1, rfl, by rw [ByteArray.size_append]; omega, by omega, HR3.out, HC3.out⟩
set_option maxHeartbeats 1000000 in
theorem l3Is_any (A : Option Addr) (n c lo : Nat) (xs : List ByteArray) (s : ByteArray) (w : World) (hx : Rd strS lo w.heap.size w A n xs) :
    Calls Try.prog 91 #[.slice A n c, .string s] w fun e w' => e = .returned (.bool (xs.any fun a => eqD a s)) ∧ w = w' := by
  obtain ⟨e1, e2, e3⟩ := hx
  have E1 := hid e1; clear e1
  have E3 := hid e3; clear e3
  go_enter Try.func91, Try.ntmps91
  go_wp2_with fail
  go_loop [5] (fun i => ∃ k : Nat, k ≤ n ∧ i = .int .i64 k ∧ (xs.any fun a => eqD a s) = ((xs.drop k).any fun a => eqD a s)) (fun i => n - (intOf i).toNat)
  case atStart => exact ⟨0, Nat.zero_le _, rfl, rfl⟩
  case round =>
    obtain ⟨k, hk, rfl, hr⟩ := hrel
    have HR := hid hr; clear hr
    by_cases hlt : k < n
    · obtain ⟨b, off, rfl, _, hbb, hcx⟩ := E3.out (by omega)
      obtain ⟨cx, _⟩ := hcx.str hlt
      have hd := hid (drop_gt (l := xs) (by rw [← E1.out]; exact hlt))
      clear hcx
      obtain ⟨y, hy⟩ : ∃ y, gt xs k = y := ⟨_, rfl⟩
      rw [hy] at cx hd
      have hki : (k : Int) < (n : Int) := by omega
      clear hy
      obtain ⟨e, he⟩ : ∃ e, eqD y s = e := ⟨_, rfl⟩
      have hcmp : (y.toList == s.toList) = e := by rw [beq_str, he]
      have HE := hid he
      clear he
      cases e with
      | true =>
        go_wp2_with fail
        go_ret
        exact ⟨ret_bool (by rw [HR.out, hd.out, List.any_cons, HE.out]; rfl), rfl⟩
      | false =>
        go_wp2_with fail
        go_round
        case rel => exact ⟨k + 1, by omega, by go_num, by rw [HR.out, hd.out, List.any_cons, HE.out]; rfl⟩
        case measure => simp [intOf]; omega
    · obtain rfl : k = n := by omega
      go_wp2_with fail
      go_ret
      exact ⟨ret_bool (by rw [HR.out, List.drop_eq_nil_of_le (by rw [E1.out]; omega)]; rfl), rfl⟩
end Go.Proofs.Ytigemahbopligaa
