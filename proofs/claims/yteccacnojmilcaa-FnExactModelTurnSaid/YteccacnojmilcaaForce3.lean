/- PageForce and PageJoin: what the program's functions return. -/
import Derived.Test.YteccacnojmilcaaForce2
namespace Go.Proofs.Yteccacnojmilcaa
open Go.RowKit
theorem rowX {w : World} {e : TypeId} (x : Int) : RowAt (w.alloc (.cells #[.int .i64 x] e)) e (w.heap.size, 1, [x]) :=
  ⟨_, heap_alloc_new _ _, Nat.le_refl _, Nat.le_refl _, by show 1 ≤ _; omega, fun j hj => by
    have hj' : j < 1 := hj
    obtain rfl : j = 0 := by omega
    rfl⟩
theorem pairAt {w : World} {o1 : Obj} {u v : Value} {e : TypeId} : ((w.alloc o1).alloc (.cells #[u, v] e)).cell? ⟨w.heap.size + 1, 0, none⟩ = some u ∧ ((w.alloc o1).alloc (.cells #[u, v] e)).cell? ⟨w.heap.size + 1, 1, none⟩ = some v := by
  have h : ((w.alloc o1).alloc (.cells #[u, v] e)).heap[w.heap.size + 1]? = some (.cells #[u, v] e (0, 0)) := by
    have := heap_alloc_new (w.alloc o1) (.cells #[u, v] e)
    rwa [World.size_alloc] at this
  exact ⟨by rw [cell_of_row _ _ _ _ _ _ h]; rfl, by rw [cell_of_row _ _ _ _ _ _ h]; rfl⟩
theorem cellC {D : Nat → Prop} {w w' : World} {k o : Nat} {v : Value} (hc : Chg D w w') (hk : ¬ D k) (h : w.cell? ⟨k, o, none⟩ = some v) : w'.cell? ⟨k, o, none⟩ = some v :=
  (World.cell?_of_block (hc.block k (block_lt_of_cell h) hk)).trans h
theorem wpList_append_rowV {P : Program} {ops : Array Oper} {rest : List Oper} {o : Oper} {a : Act} {w : World} {Q : Exit → Act → World → Prop} (hgd : o.guard = none) (s x : Operand) (t : TypeId)
    (ho : o.op = .call { callee := .builtin .append, args := #[s, x], argTypes := #[t, t] })
    {lo hi : Nat} {et ei : TypeId} {i : TypeInfo} (ht : P.underlying t = some (.slice et)) (hi' : P.info? et = some i ∧ i.zero = some (.slice none 0 0) ∧ i.size = 1 ∧ i.bytes = 24)
    {v : Value} {rs : List RowD} {n : Nat} (hn : rs.length = n) (hs : a.eval s = v) (hN : NestR lo hi w et ei v rs)
    {g c : Nat} {r : RowD} {u : Value} (hu : rowV r = u) (hx : a.eval x = .slice (some ⟨g, 0, none⟩) 1 c) (hg : w.heap[g]? = some (.cells #[u] et (0, 0))) (hr : RowAt w ei r)
    (h1 : lo ≤ r.1) (h3 : v.ownBlock ≠ some r.1) (h4 : ∀ q ∈ rs, q.1 ≠ r.1) (hlen : rs.length ≤ 1048576) (hbase : lo ≤ w.heap.size) (hhi : hi ≤ w.heap.size)
    (h : ∀ A c' w', NestR lo w'.heap.size w' et ei (.slice A (n + 1) c') (rs ++ [r]) → Chg (fun k => v.ownBlock = some k) w w' → (∃ g', A = some ⟨g', 0, none⟩ ∧ (v.ownBlock = some g' ∨ g' = w.heap.size)) → wpList P ops Q rest (a.put o.dst (.slice A (n + 1) c')) w') :
    wpList P ops Q (o :: rest) a w := by
  subst hu hn
  have hln : (rs.map rowV).length = rs.length := List.length_map _
  refine wpList_append_R2 hgd s x t ho valS ht hi' rfl (by decide) hs hN.own (y := rowV r) hx hg rfl (fun q hq => by rw [List.mem_singleton] at hq; subst hq; rfl) rfl (by rw [hln]; omega) (by rw [hln]; omega) hbase fun A c' w' hO hc hv => ?_
  rw [hln] at hO hv ⊢
  obtain ⟨g', hg', _⟩ := hO.blk (by omega)
  subst hg'
  exact h _ c' w' (((hN.wide hhi).snoc hr h1 hr.lt h3 h4 hO hc hv).wide hc.size) hc ⟨g', rfl, by
    rcases hv with e | e
    · exact .inl (by rw [← e]; rfl)
    · exact .inr (by simpa [Value.ownBlock] using e)⟩
set_option maxRecDepth 100000 in
set_option maxHeartbeats 2000000 in
theorem implPageForce_any (A : Option Addr) (n c lo : Nat) (N a x : Int) (page : List (List Int)) (w : World) (hx : Rd (sliceS intS) lo w.heap.size w A n page) :
    Calls Try.prog 16 #[.int .i64 N, .slice A n c, .int .i64 a, .int .i64 x] w (RetRB w (forceV N page a x)) := by
  obtain ⟨j0, hj1, hy0, hy1, hy2⟩ := info_parts (show (Try.prog.info? 34).map (fun i => (i.zero, i.size, i.bytes)) = some (some (.slice none 0 0), 1, 24) by kernel_rfl)
  have HJ := hid (And.intro hj1 (And.intro hy0 (And.intro hy1 hy2)))
  clear hj1 hy0 hy1 hy2
  have hnp := hid hx.1
  have h63 := hx.2.1
  have X := hid hx
  clear hx
  have fin : forceV N page a x = none → ∀ w : World, RetRB w (forceV N page a x) (.returned (.tuple #[.slice none 0 0, .bool false])) w := fun h w => RetRB.of (by rw [h]; rfl) (by rw [h]; rfl) rfl NestR.nil0 rfl (Below.refl _ _)
  have FIN := hid fin
  clear fin
  by_cases hok : pageOk N page = true
  case neg =>
    have hok' : pageOk N page = false := by simpa using hok
    have HF := hid (show forceV N page a x = none by unfold forceV; rw [hok']; rfl)
    clear hok
    go_enter Try.func16, Try.ntmps16
    go_wp2_with fail
    refine (implPageValid_any _ _ _ lo _ page _ X.out).mono ?_
    rintro e w' ⟨rfl, rfl⟩
    rw [hok']
    go_wp2_with fail
    go_ret2
    exact FIN.out HF.out _
  have hpg := pageOk_yes hok
  have hn8 : n ≤ 8 := by rw [hnp.out]; exact hpg.1
  have HPG := hid hpg.2
  have HL6 := hid (pageOk_len hok)
  clear hpg
  by_cases ha0 : 0 ≤ a
  case neg =>
    have HF := hid (show forceV N page a x = none by unfold forceV; rw [inB_no.2 (fun h => ha0 h.1), Bool.false_and, Bool.and_false]; rfl)
    go_enter Try.func16, Try.ntmps16
    go_wp2_with fail
    refine (implPageValid_any _ _ _ lo _ page _ X.out).mono ?_
    rintro e w' ⟨rfl, rfl⟩
    rw [hok]
    go_wp2_with fail
    go_ret2
    exact FIN.out HF.out _
  by_cases ha1 : a < (n : Int)
  case neg =>
    have HF := hid (show forceV N page a x = none by unfold forceV; rw [← hnp.out, inB_no.2 (fun h => ha1 (by have := h.2; omega)), Bool.false_and, Bool.and_false]; rfl)
    go_enter Try.func16, Try.ntmps16
    go_wp2_with fail
    refine (implPageValid_any _ _ _ lo _ page _ X.out).mono ?_
    rintro e w' ⟨rfl, rfl⟩
    rw [hok]
    go_wp2_with fail
    go_ret2
    exact FIN.out HF.out _
  obtain ⟨k0, rfl⟩ := Int.eq_ofNat_of_zero_le ha0
  have hk : k0 < n := by omega
  have hki : (k0 : Int) < (n : Int) := by omega
  have hd0 : decide ((k0 : Int) < 0) = false := by simp
  have hd1 : decide (n ≤ k0) = false := decide_eq_false (by omega)
  have hkp : k0 < page.length := by rw [← hnp.out]; exact hk
  obtain ⟨b, off, hA, _, hbb, hcx⟩ := X.out.2.2 (by omega)
  subst hA
  have HCX := hid hcx
  obtain ⟨RA, rc, rcell, _, hrow⟩ := hcx.row hk
  obtain ⟨p, hpe⟩ : ∃ p, gt page k0 = p := ⟨_, rfl⟩
  rw [hpe] at rcell hrow
  have HROW := hid hrow
  have HPE := hid hpe
  clear hcx hrow hpe ha0 ha1
  by_cases hh : hasI p x = true
  case neg =>
    have hh' : hasI p x = false := by simpa using hh
    have HF := hid (show forceV N page (k0 : Int) x = none by unfold forceV; rw [Int.toNat_natCast, HPE.out, hh', Bool.and_false, Bool.and_false]; rfl)
    clear hh
    go_enter Try.func16, Try.ntmps16
    go_wp2_with fail
    refine (implPageValid_any _ _ _ lo _ page _ X.out).mono ?_
    rintro e w' ⟨rfl, rfl⟩
    rw [hok]
    go_wp2_with fail
    refine (contains_any _ _ _ lo p x _ HROW.out).mono ?_
    rintro e w' ⟨rfl, rfl⟩
    rw [hh']
    go_wp2_with fail
    go_ret2
    exact FIN.out HF.out _
  have HF := hid (show forceV N page (k0 : Int) x = some (forceL k0 x 0 page) by unfold forceV; rw [Int.toNat_natCast, HPE.out, hh, hok, ← hnp.out, inB_yes.2 ⟨by omega, by omega⟩]; rfl)
  go_enter Try.func16, Try.ntmps16
  go_wp2_with fail
  refine (implPageValid_any _ _ _ lo _ page _ X.out).mono ?_
  rintro e w' ⟨rfl, rfl⟩
  rw [hok]
  go_wp2_with fail
  refine (contains_any _ _ _ lo p x _ HROW.out).mono ?_
  rintro e w' ⟨rfl, rfl⟩
  rw [hh]
  clear hok hh rcell
  go_wp2_with fail
  go_loopg [10, 39] n (fun gk out i wr => ∃ (k : Nat) (rs : List RowD) (g d : Nat), k + gk = n ∧ i = .int .i64 k ∧ out = .slice (some ⟨g, 0, none⟩) rs.length d ∧ rs.length = k ∧ NestR w.heap.size wr.heap.size wr 34 3 (.slice (some ⟨g, 0, none⟩) rs.length d) rs ∧ rs.map (·.2.2) = (forceL k0 x 0 page).take k ∧ Below w.heap.size w wr)
  case atStart => exact ⟨0, [], _, _, Nat.zero_add _, rfl, rfl, rfl, NestR.nil (Nat.le_refl _) _ rfl, rfl, bnew _ _⟩
  case round =>
    obtain ⟨k, rs, g, d, hkg, rfl, rfl, hrl, hN, hls, hb⟩ := hrel
    have HKG := hid hkg
    have HRL := hid hrl
    have HN := hid hN
    have HLS := hid hls
    have hkn : k ≤ n := by omega
    have hrl8 : rs.length ≤ 8 := by omega
    have hwz := hb.size
    clear hkg hrl hN hls
    by_cases hlt : k < n
    case neg =>
      obtain rfl : k = n := by omega
      go_wp2_with fail
      go_ret2
      exact RetRB.of (xs := forceL k0 x 0 page) (rs := rs) (by rw [HF.out]; rfl) (by rw [HF.out]; rfl) (by rw [HRL.out, forceL_len]; exact hnp.out) HN.out (by rw [HLS.out, List.take_of_length_le (by rw [forceL_len, hnp.out]; omega)]) hb
    case pos =>
      have hki2 : (k : Int) < (n : Int) := by omega
      have hkp2 : k < page.length := by rw [← hnp.out]; exact hlt
      have ht := hid (take_gt (l := forceL k0 x 0 page) (k := k) (by rw [forceL_len]; exact hkp2))
      have hg := hid (forceL_gt (a := k0) (x := x) (i := 0) hkp2)
      obtain ⟨Ax, cx', cx0, _, rx⟩ := HCX.out.row hlt
      have cx := bcl hb cx0
      by_cases e1 : (k : Int) = (k0 : Int)
      case pos =>
        have HGT := hid (show gt (forceL k0 x 0 page) k = [x] by rw [hg.out, Nat.zero_add, if_pos e1])
        have t1 : ((k : Int) == (k0 : Int)) = true := by simpa using e1
        clear e1 rx
        have HFR := hid fun g' (hg' : wr.heap.size ≤ g') => HN.out.fresh hg'
        have HRX := hid ((rowX (w := wr) (e := 3) x).al (.cells #[.slice (some ⟨wr.heap.size, 0, none⟩) 1 1] 34))
        have hblt : b < wr.heap.size := by omega
        go_wp2_with (at_builtin; refine wpList_append_row rfl (.tmp 47) (.tmp 50) _ rfl Try.underlying22 HJ.out rfl rfl ((HN.out.al _).al _) (r := (wr.heap.size, 1, [x])) rfl rfl (by have := heap_alloc_new (wr.alloc (.cells #[.int .i64 x] 3)) (.cells #[.slice (some ⟨wr.heap.size, 0, none⟩) 1 1] 34); rw [World.size_alloc] at this; exact this) HRX.out hwz (HFR.out _ (Nat.le_refl _)).1 (HFR.out _ (Nat.le_refl _)).2 (by omega) (by simp <;> omega) (by simp <;> omega) ?_; intro A2 c2 w2 hN2 hc2 hg2)
        obtain ⟨g', rfl⟩ := hg2
        have HN2 := hid hN2
        have HB2 := hid (((hb.alloc hwz _).alloc (by simp; omega) _).trans (hc2.below (by simp; omega) fun k hk => (HN.out.own.own_lt hk).1))
        clear hN2 hc2
        go_roundg (gk - 1)
        case measure => have := HKG.out; omega
        case rel => exact ⟨k + 1, rs ++ [(wr.heap.size, 1, [x])], g', c2, by have := HKG.out; omega, by go_num, by rw [List.length_append]; rfl, by rw [List.length_append, HRL.out]; rfl, by rw [List.length_append]; exact HN2.out, by rw [List.map_append, HLS.out, ht.out, HGT.out]; rfl, HB2.out⟩
      case neg =>
        have HGT := hid (show gt (forceL k0 x 0 page) k = gt page k by rw [hg.out, Nat.zero_add, if_neg e1])
        have t1 : ((k : Int) == (k0 : Int)) = false := by simpa using e1
        have hne := (HPG.out _ (gt_mem hkp2)).1
        have hpl : (gt page k).length ≤ 1048576 := by have := HL6.out _ (gt_mem hkp2); omega
        have hpos : 0 < (gt page k).length := List.length_pos_iff.2 hne
        obtain ⟨pl, hpe⟩ : ∃ p, gt page k = p := ⟨_, rfl⟩
        rw [hpe] at cx rx hpl hpos
        have HPE2 := hid hpe
        have hr3 := (rx.bl hb)
        obtain ⟨b2, off2, rfl, _, hb2, hcy⟩ := hr3.2.2 hpos
        have HR3 := hid hr3
        have hblt : b < wr.heap.size := by omega
        clear e1 hne rx hpe hr3 hcy cx0
        go_wp2_with (first
          | (go_at_call 35; refine (clone_any b2 off2 _ _ lo pl _ HR3.out hpos hpl).mono ?_; rintro e w2 ⟨g2, c2, rfl, hra, hg2w, hb2'⟩; have HRA := hid hra; have HB2 := hid hb2'; have hz2 := hb2'.size; clear hra hb2')
          | (at_builtin; refine wpList_append_row rfl (.tmp 52) (.tmp 55) _ rfl Try.underlying22 HJ.out (v := .slice (some ⟨g, 0, none⟩) rs.length d) rfl rfl ((HN.out.bl HB2.out).al _) (r := (g2, c2, pl)) rfl rfl (heap_alloc_new _ _) (HRA.out.al _) (by omega) (HN.out.fresh hg2w).1 (HN.out.fresh hg2w).2 (by omega) (by simp; omega) (by simp; omega) ?_; intro A3 c3 w3 hN3 hc3 hg3))
        obtain ⟨g', rfl⟩ := hg3
        have HN3 := hid hN3
        have HB3 := hid (((hb.trans (HB2.out.mono hwz)).alloc (by omega) _).trans (hc3.below (by simp; omega) fun k hk => (HN.out.own.own_lt hk).1))
        clear hN3 hc3
        go_roundg (gk - 1)
        case measure => have := HKG.out; omega
        case rel => exact ⟨k + 1, rs ++ [(g2, c2, pl)], g', c3, by have := HKG.out; omega, by go_num, by rw [List.length_append]; rfl, by rw [List.length_append, HRL.out]; rfl, by rw [List.length_append]; exact HN3.out, by rw [List.map_append, HLS.out, ht.out, HGT.out, HPE2.out]; rfl, HB3.out⟩
set_option maxRecDepth 100000 in
set_option maxHeartbeats 2000000 in
theorem implPageJoin_any (A B : Option Addr) (n c m d lo : Nat) (N : Int) (pa pb : List (List Int)) (w : World) (hx : Rd (sliceS intS) lo w.heap.size w A n pa) (hy : Rd (sliceS intS) lo w.heap.size w B m pb) :
    Calls Try.prog 11 #[.int .i64 N, .slice A n c, .slice B m d] w (RetRB w (joinV N pa pb)) := by
  obtain ⟨j0, hj1, hy0, hy1, hy2⟩ := info_parts (show (Try.prog.info? 34).map (fun i => (i.zero, i.size, i.bytes)) = some (some (.slice none 0 0), 1, 24) by kernel_rfl)
  have HJ := hid (And.intro hj1 (And.intro hy0 (And.intro hy1 hy2)))
  clear hj1 hy0 hy1 hy2
  have hnp := hid hx.1
  have hmp := hid hy.1
  have h63 := hx.2.1
  have h64 := hy.2.1
  have X := hid hx
  have Y := hid hy
  clear hx hy
  have fin : joinV N pa pb = none → ∀ w : World, RetRB w (joinV N pa pb) (.returned (.tuple #[.slice none 0 0, .bool false])) w := fun h w => RetRB.of (by rw [h]; rfl) (by rw [h]; rfl) rfl NestR.nil0 rfl (Below.refl _ _)
  have FIN := hid fin
  clear fin
  by_cases hok : pageOk N pa = true
  case neg =>
    have hok' : pageOk N pa = false := by simpa using hok
    have HF := hid (show joinV N pa pb = none by unfold joinV; rw [hok']; rfl)
    clear hok
    go_enter Try.func11, Try.ntmps11
    go_wp2_with fail
    refine (implPageValid_any _ _ _ lo _ pa _ X.out).mono ?_
    rintro e w' ⟨rfl, rfl⟩
    rw [hok']
    go_wp2_with fail
    go_ret2
    exact FIN.out HF.out _
  by_cases hok2 : pageOk N pb = true
  case neg =>
    have hok' : pageOk N pb = false := by simpa using hok2
    have HF := hid (show joinV N pa pb = none by unfold joinV; rw [hok', Bool.false_and, Bool.and_false]; rfl)
    clear hok2
    go_enter Try.func11, Try.ntmps11
    go_wp2_with fail
    refine (implPageValid_any _ _ _ lo _ pa _ X.out).mono ?_
    rintro e w' ⟨rfl, rfl⟩
    rw [hok]
    go_wp2_with fail
    refine (implPageValid_any _ _ _ lo _ pb _ Y.out).mono ?_
    rintro e w' ⟨rfl, rfl⟩
    rw [hok']
    go_wp2_with fail
    go_ret2
    exact FIN.out HF.out _
  have hpa := pageOk_yes hok
  have hpb := pageOk_yes hok2
  have hn8 : n ≤ 8 := by rw [hnp.out]; exact hpa.1
  have hm8 : m ≤ 8 := by rw [hmp.out]; exact hpb.1
  have HPA := hid (show ∀ p ∈ pa, p ≠ [] ∧ p.length ≤ 1048576 from fun p hp => ⟨(hpa.2 p hp).1, by have := pageOk_len hok p hp; omega⟩)
  have HPB := hid (show ∀ p ∈ pb, p ≠ [] ∧ p.length ≤ 1048576 from fun p hp => ⟨(hpb.2 p hp).1, by have := pageOk_len hok2 p hp; omega⟩)
  clear hpa hpb
  by_cases hs : n + m ≤ 8
  case neg =>
    have hsi : (8 : Int) < (n : Int) + (m : Int) := by omega
    have HF := hid (show joinV N pa pb = none by unfold joinV; rw [← hnp.out, ← hmp.out, decide_eq_false hs, Bool.and_false, Bool.and_false]; rfl)
    go_enter Try.func11, Try.ntmps11
    go_wp2_with fail
    refine (implPageValid_any _ _ _ lo _ pa _ X.out).mono ?_
    rintro e w' ⟨rfl, rfl⟩
    rw [hok]
    go_wp2_with fail
    refine (implPageValid_any _ _ _ lo _ pb _ Y.out).mono ?_
    rintro e w' ⟨rfl, rfl⟩
    rw [hok2]
    go_wp2_with fail
    go_ret2
    exact FIN.out HF.out _
  have hsi : ¬ (8 : Int) < (n : Int) + (m : Int) := by omega
  have hd8 : decide ((8 : Int) < (n : Int) + (m : Int)) = false := decide_eq_false hsi
  have HF := hid (show joinV N pa pb = some (pa ++ pb) by unfold joinV; rw [← hnp.out, ← hmp.out, decide_eq_true hs, hok, hok2]; rfl)
  go_enter Try.func11, Try.ntmps11
  go_wp2_with fail
  refine (implPageValid_any _ _ _ lo _ pa _ X.out).mono ?_
  rintro e w' ⟨rfl, rfl⟩
  rw [hok]
  go_wp2_with fail
  refine (implPageValid_any _ _ _ lo _ pb _ Y.out).mono ?_
  rintro e w' ⟨rfl, rfl⟩
  rw [hok2]
  clear hok hok2
  go_wp2_with fail
  go_loopg [8, 36] 2 (fun gk out i wr => ∃ (k : Nat) (rs : List RowD) (g d0 : Nat), k + gk = 2 ∧ i = .int .i64 k ∧ out = .slice (some ⟨g, 0, none⟩) rs.length d0 ∧ NestR w.heap.size wr.heap.size wr 34 3 (.slice (some ⟨g, 0, none⟩) rs.length d0) rs ∧ rs.map (·.2.2) = ([pa, pb].take k).flatten ∧ rs.length ≤ 8 * k ∧ g ≠ w.heap.size + 1 ∧ wr.cell? ⟨w.heap.size + 1, 0, none⟩ = some (.slice A n c) ∧ wr.cell? ⟨w.heap.size + 1, 1, none⟩ = some (.slice B m d) ∧ Below w.heap.size w wr)
  case atStart => exact ⟨0, [], _, _, Nat.zero_add _, rfl, rfl, (NestR.nil (Nat.le_refl _) _ rfl).al _, rfl, Nat.zero_le _, by omega, pairAt.1, pairAt.2, bal (bnew _ _) _⟩
  case round =>
    obtain ⟨k, rs, g, d0, hkg, rfl, rfl, hN, hls, hrl, hgz, q1, q2, hb⟩ := hrel
    have HKG := hid hkg
    have HN := hid hN
    have HLS := hid hls
    have hk2 : k ≤ 2 := by omega
    clear hkg hN hls
    by_cases hlt : k < 2
    case neg =>
      obtain rfl : k = 2 := by omega
      have hls2 : rs.map (·.2.2) = pa ++ pb := by rw [HLS.out]; simp
      have hl2 : rs.length = (pa ++ pb).length := by rw [← hls2, List.length_map]
      go_wp2_with fail
      go_ret2
      exact RetRB.of (xs := pa ++ pb) (rs := rs) (by rw [HF.out]; rfl) (by rw [HF.out]; rfl) hl2 HN.out hls2 hb
    case pos =>
      have hki2 : (k : Int) < 2 := by omega
      obtain ⟨A', n', c', pg, hq, hr, hn', hp', hfl⟩ : ∃ A' n' c' pg, wr.cell? ⟨w.heap.size + 1, k, none⟩ = some (.slice A' n' c') ∧ Rd (sliceS intS) lo w.heap.size w A' n' pg ∧ n' ≤ 8 ∧ (∀ p ∈ pg, p ≠ [] ∧ p.length ≤ 1048576) ∧ ([pa, pb].take (k + 1)).flatten = ([pa, pb].take k).flatten ++ pg := by
        rcases (by omega : k = 0 ∨ k = 1) with rfl | rfl
        · exact ⟨A, n, c, pa, q1, X.out, hn8, HPA.out, by simp⟩
        · exact ⟨B, m, d, pb, q2, Y.out, hm8, HPB.out, by simp⟩
      have hn63 := hr.2.1
      have hnl := hid hr.1
      have HR := hid hr.2.2
      have HP := hid hp'
      have HFL := hid hfl
      have Q1 := hid q1
      have Q2 := hid q2
      have hwz := hb.size
      have HB := hid hb
      clear hr hp' hfl q1 q2
      obtain ⟨wo, hwo⟩ : ∃ x : World, x = wr := ⟨_, rfl⟩
      subst hwo
      obtain ⟨go_, hgo⟩ : ∃ x : Nat, x = gk := ⟨_, rfl⟩
      subst hgo
      go_wp2_with fail
      go_loopg [8, 42] n' (fun gk out i wr => ∃ (j : Nat) (rs : List RowD) (g d0 : Nat), j + gk = n' ∧ i = .int .i64 j ∧ out = .slice (some ⟨g, 0, none⟩) rs.length d0 ∧ NestR w.heap.size wr.heap.size wr 34 3 (.slice (some ⟨g, 0, none⟩) rs.length d0) rs ∧ rs.map (·.2.2) = ([pa, pb].take k).flatten ++ pg.take j ∧ rs.length ≤ 8 * k + j ∧ g ≠ w.heap.size + 1 ∧ wr.cell? ⟨w.heap.size + 1, 0, none⟩ = some (.slice A n c) ∧ wr.cell? ⟨w.heap.size + 1, 1, none⟩ = some (.slice B m d) ∧ Below w.heap.size w wr)
      case atStart => exact ⟨0, rs, g, d0, Nat.zero_add _, rfl, rfl, HN.out, by rw [HLS.out]; simp, by omega, hgz, Q1.out, Q2.out, HB.out⟩
      case round =>
        clear HN HLS hgz hrl HB Q1 Q2 hq hb
        obtain ⟨j, rs, g, d0, hjg, rfl, rfl, hN, hls, hrl, hgz, q1, q2, hb⟩ := hrel
        have HJG := hid hjg
        have HN := hid hN
        have HLS := hid hls
        have Q1 := hid q1
        have Q2 := hid q2
        have hj : j ≤ n' := by omega
        have hrl8 : rs.length ≤ 24 := by omega
        have hwz := hb.size
        clear hjg hN hls q1 q2
        by_cases hjn : j < n'
        case neg =>
          obtain rfl : j = n' := by omega
          go_wp2_with fail
          go_roundg (go_ - 1)
          case measure => have := HKG.out; omega
          case rel => exact ⟨k + 1, rs, g, d0, by have := HKG.out; omega, by go_num, rfl, HN.out, by rw [HLS.out, HFL.out, List.take_of_length_le (l := pg) (by rw [hnl.out]; omega)], by omega, hgz, Q1.out, Q2.out, hb⟩
        case pos =>
          have hji : (j : Int) < (n' : Int) := by omega
          have hjp : j < pg.length := by rw [← hnl.out]; exact hjn
          have ht := hid (take_gt (l := pg) (k := j) hjp)
          obtain ⟨b, off, rfl, _, hbb, hcx⟩ := HR.out (by omega)
          obtain ⟨Ax, cx', cx0, _, rx⟩ := hcx.row hjn
          have cx := bcl hb cx0
          have hne := (HP.out _ (gt_mem hjp)).1
          have hpl : (gt pg j).length ≤ 1048576 := (HP.out _ (gt_mem hjp)).2
          have hpos : 0 < (gt pg j).length := List.length_pos_iff.2 hne
          obtain ⟨pl, hpe⟩ : ∃ p, gt pg j = p := ⟨_, rfl⟩
          rw [hpe] at cx rx hpl hpos
          have HPE2 := hid hpe
          have hr3 := (rx.bl hb)
          obtain ⟨b2, off2, rfl, _, hb2, hcy⟩ := hr3.2.2 hpos
          have HR3 := hid hr3
          have hblt : b < wr.heap.size := by omega
          clear hne rx hpe hr3 hcy cx0 hcx
          go_wp2_with (first
            | (go_at_call 35; refine (clone_any b2 off2 _ _ lo pl _ HR3.out hpos hpl).mono ?_; rintro e w2 ⟨g2, c2, rfl, hra, hg2w, hb2'⟩; have HRA := hid hra; have HB2 := hid hb2'; have hz2 := hb2'.size; clear hra hb2')
            | (at_builtin; refine wpList_append_rowV rfl (.tmp 46) (.tmp 49) _ rfl Try.underlying22 HJ.out (v := .slice (some ⟨g, 0, none⟩) rs.length d0) rfl rfl ((HN.out.bl HB2.out).al _) (r := (g2, c2, pl)) rfl rfl (heap_alloc_new _ _) (HRA.out.al _) (by omega) (HN.out.fresh hg2w).1 (HN.out.fresh hg2w).2 (by omega) (by simp; omega) (by simp; omega) ?_; intro A3 c3 w3 hN3 hc3 hg3))
          obtain ⟨g', rfl, hg'⟩ := hg3
          have HN3 := hid hN3
          have HB3 := hid (((hb.trans (HB2.out.mono hwz)).alloc (by omega) _).trans (hc3.below (by simp; omega) fun k hk => (HN.out.own.own_lt hk).1))
          have HC3 := hid hc3
          clear hN3 hc3
          have hgz' : g' ≠ w.heap.size + 1 := by
            rcases hg' with e | e
            · simp [Value.ownBlock] at e; omega
            · rw [World.size_alloc] at e; have : w.heap.size + 1 < wr.heap.size := block_lt_of_cell Q1.out; have := HB2.out.size; omega
          have hnd : ¬ (Value.slice (some ⟨g, 0, none⟩) rs.length d0).ownBlock = some (w.heap.size + 1) := by simpa [Value.ownBlock] using hgz
          have HQ1 := hid (cellC HC3.out hnd (bcl (bal HB2.out _) Q1.out))
          have HQ2 := hid (cellC HC3.out hnd (bcl (bal HB2.out _) Q2.out))
          go_roundg (gk - 1)
          case measure => have := HJG.out; omega
          case rel => exact ⟨j + 1, rs ++ [(g2, c2, pl)], g', c3, by have := HJG.out; omega, by go_num, by rw [List.length_append]; rfl, by rw [List.length_append]; exact HN3.out, by rw [List.map_append, HLS.out, ht.out, HPE2.out, List.append_assoc]; rfl, by rw [List.length_append]; show rs.length + 1 ≤ _; omega, hgz', HQ1.out, HQ2.out, HB3.out⟩
end Go.Proofs.Yteccacnojmilcaa
