/- Pages that are copied, forced, joined: what the functions return. -/
import Derived.Test.YteccacnojmilcaaNestMark
import Derived.Test.YteccacnojmilcaaPage
import Derived.Test.YteccacnojmilcaaForcePure
namespace Go.Proofs.Yteccacnojmilcaa
open Go.RowKit
/-- The value rows of a nest keep their worlds apart: the slice's own block lies below the heap's end. -/
theorem NestR.fresh {lo hi : Nat} {w : World} {et ei : TypeId} {v : Value} {rs : List RowD} (h : NestR lo hi w et ei v rs) {g : Nat} (hg : w.heap.size ≤ g) : v.ownBlock ≠ some g ∧ ∀ q ∈ rs, q.1 ≠ g :=
  ⟨fun e => by have := (h.own.own_lt e).2; omega, fun q hq => by have := (h.row q hq).2.2.2.lt; omega⟩
theorem NestR.al {lo hi : Nat} {w : World} {et ei : TypeId} {v : Value} {rs : List RowD} (h : NestR lo hi w et ei v rs) (o : Obj) : NestR lo hi (w.alloc o) et ei v rs := h.bl (bnew w o)
theorem RowAt.al {w : World} {e : TypeId} {r : RowD} (h : RowAt w e r) (o : Obj) : RowAt (w.alloc o) e r := h.kept ((bnew w o).block _ h.lt)
/-- One row more, in a block of its own, appended to a row of rows. -/
theorem wpList_append_row {P : Program} {ops : Array Oper} {rest : List Oper} {o : Oper} {a : Act} {w : World} {Q : Exit → Act → World → Prop} (hgd : o.guard = none) (s x : Operand) (t : TypeId)
    (ho : o.op = .call { callee := .builtin .append, args := #[s, x], argTypes := #[t, t] })
    {lo hi : Nat} {et ei : TypeId} {i : TypeInfo} (ht : P.underlying t = some (.slice et)) (hi' : P.info? et = some i ∧ i.zero = some (.slice none 0 0) ∧ i.size = 1 ∧ i.bytes = 24)
    {v : Value} {rs : List RowD} {n : Nat} (hn : rs.length = n) (hs : a.eval s = v) (hN : NestR lo hi w et ei v rs)
    {g c : Nat} {r : RowD} {u : Value} (hu : rowV r = u) (hx : a.eval x = .slice (some ⟨g, 0, none⟩) 1 c) (hg : w.heap[g]? = some (.cells #[u] et (0, 0))) (hr : RowAt w ei r)
    (h1 : lo ≤ r.1) (h3 : v.ownBlock ≠ some r.1) (h4 : ∀ q ∈ rs, q.1 ≠ r.1) (hlen : rs.length ≤ 1048576) (hbase : lo ≤ w.heap.size) (hhi : hi ≤ w.heap.size)
    (h : ∀ A c' w', NestR lo w'.heap.size w' et ei (.slice A (n + 1) c') (rs ++ [r]) → Chg (fun k => v.ownBlock = some k) w w' → (∃ g', A = some ⟨g', 0, none⟩) → wpList P ops Q rest (a.put o.dst (.slice A (n + 1) c')) w') :
    wpList P ops Q (o :: rest) a w := by
  subst hu hn
  have hln : (rs.map rowV).length = rs.length := List.length_map _
  refine wpList_append_R2 hgd s x t ho valS ht hi' rfl (by decide) hs hN.own (y := rowV r) hx hg rfl (fun q hq => by rw [List.mem_singleton] at hq; subst hq; rfl) rfl (by rw [hln]; omega) (by rw [hln]; omega) hbase fun A c' w' hO hc hv => ?_
  rw [hln] at hO hv ⊢
  obtain ⟨g', hg', _⟩ := hO.blk (by omega)
  exact h A c' w' (((hN.wide hhi).snoc hr h1 hr.lt h3 h4 hO hc hv).wide hc.size) hc ⟨g', hg'⟩
set_option maxRecDepth 100000 in
set_option maxHeartbeats 2000000 in
theorem l5Force_any (A : Option Addr) (n c lo : Nat) (page : List (List Int)) (a x : Int) (w : World) (hx : Rd (sliceS intS) lo w.heap.size w A n page) (hn : n ≤ 8) (hp : ∀ p ∈ page, p ≠ [] ∧ p.length ≤ 1048576) :
    Calls Try.prog 34 #[.slice A n c, .int .i64 a, .int .i64 x] w fun e w' => ∃ B d rs, e = .returned (.slice B (List.length rs) d) ∧ NestR w.heap.size w'.heap.size w' 34 3 (.slice B rs.length d) rs ∧ rs.map (·.2.2) = forceL a x 0 page ∧ (∃ g, B = some ⟨g, 0, none⟩) ∧ Below w.heap.size w w' := by
  obtain ⟨i0, hi1, hz0, hz1, hz2⟩ := info_parts (show (Try.prog.info? 3).map (fun i => (i.zero, i.size, i.bytes)) = some (some (.int .i64 0), 1, 8) by kernel_rfl)
  have HI := hid (And.intro hi1 (And.intro hz0 (And.intro hz1 hz2)))
  obtain ⟨j0, hj1, hy0, hy1, hy2⟩ := info_parts (show (Try.prog.info? 34).map (fun i => (i.zero, i.size, i.bytes)) = some (some (.slice none 0 0), 1, 24) by kernel_rfl)
  have HJ := hid (And.intro hj1 (And.intro hy0 (And.intro hy1 hy2)))
  clear hi1 hz0 hz1 hz2 hj1 hy0 hy1 hy2
  have E1 := hid hx.1
  have E3 := hid hx.2.2
  have HP := hid hp
  clear hx hp
  go_enter Try.func34, Try.ntmps34
  go_wp2
  go_loopg [7, 8] n (fun gk out i wr => ∃ (k : Nat) (rs : List RowD) (g d : Nat), k + gk = n ∧ i = .int .i64 k ∧ out = .slice (some ⟨g, 0, none⟩) rs.length d ∧ rs.length = k ∧ NestR w.heap.size wr.heap.size wr 34 3 (.slice (some ⟨g, 0, none⟩) rs.length d) rs ∧ rs.map (·.2.2) = (forceL a x 0 page).take k ∧ Below w.heap.size w wr)
  case atStart => exact ⟨0, [], _, _, Nat.zero_add _, rfl, rfl, rfl, NestR.nil (Nat.le_refl _) _ rfl, rfl, bnew _ _⟩
  case round =>
    obtain ⟨k, rs, g, d, hkg, rfl, rfl, hrl, hN, hls, hb⟩ := hrel
    have HKG := hid hkg
    have HRL := hid hrl
    have HN := hid hN
    have HLS := hid hls
    have hk : k ≤ n := by omega
    have hrl8 : rs.length ≤ 8 := by omega
    clear hkg hrl hN hls
    by_cases hlt : k < n
    case neg =>
      obtain rfl : k = n := by omega
      go_wp2
      go_ret
      exact ⟨_, d, rs, rfl, HN.out, by rw [HLS.out, List.take_of_length_le (by rw [forceL_len, E1.out]; omega)], ⟨g, rfl⟩, hb⟩
    case pos =>
      have hki : (k : Int) < (n : Int) := by omega
      have hkp : k < page.length := by rw [← E1.out]; exact hlt
      have ht := hid (take_gt (l := forceL a x 0 page) (k := k) (by rw [forceL_len]; exact hkp))
      have hg := hid (forceL_gt (a := a) (x := x) (i := 0) hkp)
      by_cases e1 : (k : Int) = a
      case pos =>
        have HGT := hid (show gt (forceL a x 0 page) k = [x] by rw [hg.out, Nat.zero_add, if_pos e1])
        have t1 : ((k : Int) == a) = true := by simpa using e1
        clear e1
        have hfr := fun g' (hg' : wr.heap.size ≤ g') => HN.out.fresh hg'
        have hwz := hb.size
        have HRX : Hid (RowAt ((wr.alloc (.cells #[.int .i64 x] 3)).alloc (.cells #[.slice (some ⟨wr.heap.size, 0, none⟩) 1 1] 34)) 3 (wr.heap.size, 1, [x])) := hid (RowAt.al ⟨_, heap_alloc_new _ _, Nat.le_refl _, Nat.le_refl _, by show 1 ≤ _; omega, fun j hj => by
          have hj' : j < 1 := hj
          obtain rfl : j = 0 := by omega
          rfl⟩ _)
        have HFR := hid hfr
        clear hfr
        go_wp2_with (at_builtin; refine wpList_append_row rfl (.tmp 19) (.tmp 22) _ rfl Try.underlying22 HJ.out rfl rfl ((HN.out.al _).al _) (r := (wr.heap.size, 1, [x])) rfl rfl (by have := heap_alloc_new (wr.alloc (.cells #[.int .i64 x] 3)) (.cells #[.slice (some ⟨wr.heap.size, 0, none⟩) 1 1] 34); rw [World.size_alloc] at this; exact this) HRX.out hwz (HFR.out _ (Nat.le_refl _)).1 (HFR.out _ (Nat.le_refl _)).2 (by omega) (by simp <;> omega) (by simp <;> omega) ?_; intro A2 c2 w2 hN2 hc2 hg2)
        obtain ⟨g', rfl⟩ := hg2
        have HN2 := hid hN2
        have HB2 := hid (((hb.alloc hwz _).alloc (by simp; omega) _).trans (hc2.below (by simp; omega) fun k hk => (HN.out.own.own_lt hk).1))
        clear hN2 hc2
        go_roundg (gk - 1)
        case measure => have := HKG.out; omega
        case rel => exact ⟨k + 1, rs ++ [(wr.heap.size, 1, [x])], g', c2, by have := HKG.out; omega, by go_num, by rw [List.length_append]; rfl, by rw [List.length_append, HRL.out]; rfl, by rw [List.length_append]; exact HN2.out, by rw [List.map_append, HLS.out, ht.out, HGT.out]; rfl, HB2.out⟩
      case neg =>
        have HGT := hid (show gt (forceL a x 0 page) k = gt page k by rw [hg.out, Nat.zero_add, if_neg e1])
        have t1 : ((k : Int) == a) = false := by simpa using e1
        clear e1
        obtain ⟨b, off, rfl, _, hbb, hcx⟩ := E3.out (by omega)
        obtain ⟨Ax, cx', cx0, _, rx⟩ := hcx.row hlt
        have cx := bcl hb cx0
        obtain ⟨hne, hpl⟩ := HP.out _ (gt_mem hkp)
        have hpos : 0 < (gt page k).length := List.length_pos_iff.2 hne
        obtain ⟨pl, hpe⟩ : ∃ p, gt page k = p := ⟨_, rfl⟩
        rw [hpe] at cx rx hpl hpos
        have HPE := hid hpe
        have hr3 := (rx.bl hb).2.2
        obtain ⟨b2, off2, rfl, _, hb2, hcy⟩ := hr3 hpos
        have CY := hid fun j (hj : j < pl.length) => hcy.int hj
        have hwz := hb.size
        have hblt : b < wr.heap.size := by omega
        clear hcx cx0 rx hpe hne hr3 hcy
        go_wp2_with (at_builtin; first
          | (refine wpList_append_ints rfl (.tmp 25) (.tmp 29) _ rfl Try.underlying34 HI.out rfl (v := .slice (some ⟨wr.heap.size, 0, none⟩) 0 0) (l := []) rfl (OwnR.nil (base := wr.heap.size) (Nat.le_refl _) _ rfl) rfl rfl (fun j hj => bcl (bnew _ _) (CY.out j hj)) (by simp; omega) (by simp) ?_; intro A2 c2 w2 hO hc hv; rw [List.nil_append, List.length_nil, Nat.zero_add] at hO; obtain ⟨g2, hg2, hg2w, hg2l, -⟩ := hO.blk hpos; subst hg2; have HO2 := hid hO; have HB2 := hid ((bnew wr (.cells #[] 3)).trans (hc.below (by simp) (fun k hk => by have e : some wr.heap.size = some k := hk; injection e with e; omega))); have hz2 := HB2.out.size; simp only [List.length_nil, Nat.zero_add]; clear hO hc hv)
          | (refine wpList_append_row rfl (.tmp 24) (.tmp 31) _ rfl Try.underlying22 HJ.out (v := .slice (some ⟨g, 0, none⟩) rs.length d) rfl rfl ((HN.out.bl HB2.out).al _) (r := (g2, c2, pl)) rfl rfl (heap_alloc_new _ _) ((HO2.out.rowAt (by omega)).2.1.al _) (by omega) (HN.out.fresh hg2w).1 (HN.out.fresh hg2w).2 (by omega) (by simp; omega) (by simp; omega) ?_; intro A3 c3 w3 hN3 hc3 hg3))
        obtain ⟨g', rfl⟩ := hg3
        have HN3 := hid hN3
        have HB3 := hid (((hb.trans (HB2.out.mono hwz)).alloc (by omega) _).trans (hc3.below (by simp; omega) fun k hk => (HN.out.own.own_lt hk).1))
        clear hN3 hc3
        go_roundg (gk - 1)
        case measure => have := HKG.out; omega
        case rel => exact ⟨k + 1, rs ++ [(g2, c2, pl)], g', c3, by have := HKG.out; omega, by go_num, by rw [List.length_append]; rfl, by rw [List.length_append, HRL.out]; rfl, by rw [List.length_append]; exact HN3.out, by rw [List.map_append, HLS.out, ht.out, HGT.out, HPE.out]; rfl, HB3.out⟩
end Go.Proofs.Yteccacnojmilcaa
