/- PageForce and PageJoin: what the reference's and the program's functions return. -/
import Derived.Test.YteccacnojmilcaaForce
import Derived.Test.YteccacnojmilcaaWeigh
namespace Go.Proofs.Yteccacnojmilcaa
open Go.RowKit
/-- Rows of the call's own, and whether there are any. -/
def RetR2 (w : World) (xs : List (List Int)) (ok : Bool) (e : Ending) (w' : World) : Prop :=
  ∃ B d rs, e = .returned (.tuple #[.slice B xs.length d, .bool ok]) ∧ NestR w.heap.size w'.heap.size w' 34 3 (.slice B xs.length d) rs ∧ rs.map (·.2.2) = xs ∧ Below w.heap.size w w'
def RetRB (w : World) (V : Option (List (List Int))) : Ending → World → Prop := RetR2 w (V.getD []) V.isSome
theorem RetRB.of {w w' : World} {V : Option (List (List Int))} {xs : List (List Int)} {ok : Bool} {B : Option Addr} {n d : Nat} {rs : List RowD} (h1 : V.getD [] = xs) (h2 : V.isSome = ok) (hn : n = xs.length) (hN : NestR w.heap.size w'.heap.size w' 34 3 (.slice B n d) rs) (hr : rs.map (·.2.2) = xs) (hb : Below w.heap.size w w') : RetRB w V (.returned (.tuple #[.slice B n d, .bool ok])) w' := by
  subst h1 h2 hn
  exact ⟨B, d, rs, rfl, hN, hr, hb⟩
def forceV (n : Int) (page : List (List Int)) (a x : Int) : Option (List (List Int)) := if pageOk n page && (inB a 0 ((page.length : Int) - 1) && hasI (gt page a.toNat) x) then some (forceL a x 0 page) else none
def joinV (n : Int) (a b : List (List Int)) : Option (List (List Int)) := if pageOk n a && (pageOk n b && decide (a.length + b.length ≤ 8)) then some (a ++ b) else none
section
variable {P : Program}
/-- A slice of values, appended to a row of values of the call's own. -/
theorem wpList_append_vals {ops : Array Oper} {rest : List Oper} {o : Oper} {a : Act} {w : World} {Q : Exit → Act → World → Prop} (hgd : o.guard = none) (s x : Operand) (t : TypeId)
    (ho : o.op = .call { callee := .builtin .append, args := #[s, x], argTypes := #[t, t] })
    {base : Nat} {e : TypeId} {i : TypeInfo} {z : Value} {bytes : Nat} (ht : P.underlying t = some (.slice e)) (hi : P.info? e = some i ∧ i.zero = some z ∧ i.size = 1 ∧ i.bytes = bytes) (hzs : z.cells.size = 1)
    {v : Value} {l : List Value} (hs : a.eval s = v) (hown : OwnR valS base w e v l)
    {b off m c : Nat} {ys : List Value} (hx : a.eval x = .slice (some ⟨b, off, none⟩) m c) (hm : ys.length = m) (hy : ∀ k, k < m → w.cell? ⟨b, off + k, none⟩ = some (gt ys k)) (h1 : ∀ u ∈ ys, u.oneCell' = true)
    (h63 : l.length + m ≤ 9223372036854775807) (hbytes : (l.length + m) * bytes ≤ 140737488355328) (hbase : base ≤ w.heap.size)
    (h : ∀ A c' w', OwnR valS base w' e (.slice A (l.length + m) c') (l ++ ys) → Chg (fun k => v.ownBlock = some k) w w' → ((Value.slice A (l.length + m) c').ownBlock = v.ownBlock ∨ (Value.slice A (l.length + m) c').ownBlock = some w.heap.size) → wpList P ops Q rest (a.put o.dst (.slice A (l.length + m) c')) w') :
    wpList P ops Q (o :: rest) a w := by
  refine wpList_plain hgd fun K hK => ?_
  obtain ⟨xs, ho', hxs⟩ := hown
  obtain ⟨hi, hz, hsize, hby⟩ := hi
  have hnews : ∀ j u, ys[j]? = some u → w.cell? ((⟨b, off, none⟩ : Addr).add j) = some u := fun j u hj => by
    have hadd : (⟨b, off, none⟩ : Addr).add j = ⟨b, off + j, none⟩ := by unfold Addr.add; split <;> simp_all
    have hjl := (List.getElem?_eq_some_iff.1 hj).1
    rw [hadd, hy j (by omega)]
    simp [gt, hj]
  obtain ⟨v', w', hrun, ho2, hgr, _, hv'⟩ := run_append_own_at (P := P) w base t o.type e i z 1 bytes ht hi hz hsize hby hzs (by decide) v l.length xs ho' ⟨b, off, none⟩ m c ys (by rw [hm]; omega) hnews h1 (by simp only [maxLen]; omega) hbytes hbase
  have hlen : (l ++ ys).length = l.length + m := by rw [List.length_append, hm]
  have hO : OwnR valS base w' e v' (l ++ ys) := by
    refine ⟨xs ++ ys, by rw [hlen]; exact ho2, fun k hk => ?_⟩
    have hxl : xs.length = l.length * 1 := ho'.1
    by_cases hkl : k < l.length
    · obtain ⟨f, hf, he⟩ := hxs k hkl
      refine ⟨f, fun j hj => ?_, ?_⟩
      · have hj' : j < 1 := hj
        rw [List.getElem?_append_left (by show k * 1 + j < _; omega)]
        exact hf j hj
      · rw [gt_append hkl]; exact he
    · refine ⟨fun _ => gt (l ++ ys) k, fun j hj => ?_, rfl⟩
      have hj' : j < 1 := hj
      obtain rfl : j = 0 := by omega
      have s0 : k * valS.sz + 0 = k := by show k * 1 + 0 = k; omega
      have hk' : k < (l ++ ys).length := hk
      rw [hlen] at hk'
      rw [s0, List.getElem?_append_right (by omega), hxl, Nat.mul_one, List.getElem?_eq_getElem (by omega)]
      have : gt (l ++ ys) k = ys[k - l.length]'(by omega) := by
        unfold gt
        rw [List.getD_eq_getElem?_getD, List.getElem?_append_right (by omega), List.getElem?_eq_getElem (by omega)]
        rfl
      rw [this]
  obtain ⟨A, c', rfl, _⟩ := hO.form
  rw [hlen] at hO hrun hv'
  unfold Oper.wp execOp
  simp only [ho, resolve, invoke, builtin, Sem.run_bind, Sem.run_pure, Result.andThen_ok, List.map_toArray, List.map_cons, List.map_nil, hs, hx, hrun]
  exact hK _ _ (h A c' w' hO ⟨hgr.os, hgr.tape, hgr.output, hgr.size, fun k hk hd => hgr.block k hk (fun e => hd e.symm)⟩ hv')
end
/-- Rows behind rows. -/
theorem NestR.append {lo hi hi2 : Nat} {w w' : World} {et ei : TypeId} {v v' : Value} {rs ss : List RowD} (h : NestR lo hi w et ei v rs) (hs : ∀ r ∈ ss, hi ≤ r.1 ∧ r.1 < hi2 ∧ RowAt w ei r) (h1 : (ss.map (·.1)).Nodup) (hv0 : ∀ r ∈ ss, v.ownBlock ≠ some r.1) (hlo : lo ≤ hi) (hh : hi ≤ hi2)
    (ho : OwnR valS lo w' et v' (rs.map rowV ++ ss.map rowV)) (hc : Chg (fun k => v.ownBlock = some k) w w') (hv : v'.ownBlock = v.ownBlock ∨ v'.ownBlock = some w.heap.size) : NestR lo hi2 w' et ei v' (rs ++ ss) := by
  refine ⟨by rw [List.map_append]; exact ho, fun q hq => ?_, ?_⟩
  · have hq' : lo ≤ q.1 ∧ q.1 < hi2 ∧ v.ownBlock ≠ some q.1 ∧ RowAt w ei q := by
      rcases List.mem_append.1 hq with hq | hq
      · obtain ⟨a1, a2, a3, a4⟩ := h.row q hq
        exact ⟨a1, by omega, a3, a4⟩
      · obtain ⟨a1, a2, a3⟩ := hs q hq
        exact ⟨by omega, a2, hv0 q hq, a3⟩
    obtain ⟨a1, a2, a3, a4⟩ := hq'
    refine ⟨a1, a2, ?_, a4.kept (hc.block _ a4.lt a3)⟩
    rcases hv with hv | hv
    · rw [hv]; exact a3
    · rw [hv]
      intro e
      injection e with e
      have := a4.lt
      omega
  · rw [List.map_append]
    refine List.nodup_append.2 ⟨h.one, h1, fun a ha b hb => ?_⟩
    obtain ⟨q, hq, rfl⟩ := List.mem_map.1 ha
    obtain ⟨r, hr, rfl⟩ := List.mem_map.1 hb
    have := (h.row q hq).2.1
    have := (hs r hr).1
    omega
set_option maxRecDepth 100000 in
set_option maxHeartbeats 1000000 in
theorem specPageForce_any (A : Option Addr) (n c lo : Nat) (N a x : Int) (page : List (List Int)) (w : World) (hx : Rd (sliceS intS) lo w.heap.size w A n page) :
    Calls Try.prog 17 #[.int .i64 N, .slice A n c, .int .i64 a, .int .i64 x] w (RetRB w (forceV N page a x)) := by
  have hnp := hid hx.1
  have h63 := hx.2.1
  have X := hid hx
  clear hx
  by_cases hok : pageOk N page = true
  case neg =>
    have hok' : pageOk N page = false := by simpa using hok
    have HF := hid (show forceV N page a x = none by unfold forceV; rw [hok']; rfl)
    clear hok
    go_enter Try.func17, Try.ntmps17
    go_wp2_with (go_at_call 33; refine (specPageValid_any _ _ _ lo _ page _ X.out).mono ?_; rintro e w' ⟨rfl, rfl⟩)
    go_ret2
    exact RetRB.of (by rw [HF.out]; rfl) (by rw [HF.out]; rfl) rfl (NestR.nil (Nat.le_refl _) _ rfl) rfl (bnew _ _)
  have hpg := pageOk_yes hok
  have hn8 : n ≤ 8 := by rw [hnp.out]; exact hpg.1
  have HPG := hid hpg.2
  have HL6 := hid (pageOk_len hok)
  by_cases ha : inB a 0 ((n : Int) - 1) = true
  case neg =>
    have ha' : inB a 0 ((n : Int) - 1) = false := by simpa using ha
    have HF := hid (show forceV N page a x = none by unfold forceV; rw [← hnp.out, ha', Bool.false_and, Bool.and_false]; rfl)
    clear ha hpg
    go_enter Try.func17, Try.ntmps17
    go_wp2_with (first | (go_at_call 33; refine (specPageValid_any _ _ _ lo _ page _ X.out).mono ?_; rintro e w' ⟨rfl, rfl⟩) | (go_at_call 43; refine (l6In_any _ _ _ _).mono ?_; rintro e w' ⟨rfl, rfl⟩))
    go_ret2
    exact RetRB.of (by rw [HF.out]; rfl) (by rw [HF.out]; rfl) rfl (NestR.nil (Nat.le_refl _) _ rfl) rfl (bnew _ _)
  obtain ⟨a0, a1⟩ := inB_yes.1 ha
  obtain ⟨k, rfl⟩ := Int.eq_ofNat_of_zero_le a0
  have hk : k < n := by omega
  have hki : (k : Int) < (n : Int) := by omega
  have hkp : k < page.length := by rw [← hnp.out]; exact hk
  obtain ⟨b, off, hA, _, hbb, hcx⟩ := X.out.2.2 (by omega)
  subst hA
  obtain ⟨RA, rc, rcell, _, hrow⟩ := hcx.row hk
  obtain ⟨p, hpe⟩ : ∃ p, gt page k = p := ⟨_, rfl⟩
  rw [hpe] at rcell hrow
  have HROW := hid hrow
  have HPE := hid hpe
  clear hcx hrow hpe hpg
  by_cases hh : hasI p x = true
  case neg =>
    have hh' : hasI p x = false := by simpa using hh
    have HF := hid (show forceV N page (k : Int) x = none by unfold forceV; rw [Int.toNat_natCast, HPE.out, hh', Bool.and_false, Bool.and_false]; rfl)
    clear hh
    go_enter Try.func17, Try.ntmps17
    go_wp2_with (first | (go_at_call 33; refine (specPageValid_any _ _ _ lo _ page _ X.out).mono ?_; rintro e w' ⟨rfl, rfl⟩) | (go_at_call 43; refine (l6In_any _ _ _ _).mono ?_; rintro e w' ⟨rfl, rfl⟩) | (go_at_call 44; refine (l5Has_any _ _ _ lo p x _ HROW.out).mono ?_; rintro e w' ⟨rfl, rfl⟩))
    go_ret2
    exact RetRB.of (by rw [HF.out]; rfl) (by rw [HF.out]; rfl) rfl (NestR.nil (Nat.le_refl _) _ rfl) rfl (bnew _ _)
  have HF := hid (show forceV N page (k : Int) x = some (forceL k x 0 page) by unfold forceV; rw [Int.toNat_natCast, HPE.out, hh, hok, ← hnp.out, ha]; rfl)
  go_enter Try.func17, Try.ntmps17
  go_wp2_with (first | (go_at_call 33; refine (specPageValid_any _ _ _ lo _ page _ X.out).mono ?_; rintro e w' ⟨rfl, rfl⟩) | (go_at_call 43; refine (l6In_any _ _ _ _).mono ?_; rintro e w' ⟨rfl, rfl⟩) | (go_at_call 44; refine (l5Has_any _ _ _ lo p x _ HROW.out).mono ?_; rintro e w' ⟨rfl, rfl⟩) | (go_at_call 34; refine (l5Force_any _ n _ lo page (k : Int) x _ X.out hn8 (fun p hp => ⟨(HPG.out p hp).1, by have := HL6.out p hp; omega⟩)).mono ?_; rintro e w2 ⟨B, d, rs, rfl, hN, hls, hg, hb⟩))
  go_ret2
  exact RetRB.of (by rw [HF.out]; rfl) (by rw [HF.out]; rfl) (by rw [← hls, List.length_map]) hN hls hb
set_option maxRecDepth 100000 in
set_option maxHeartbeats 1000000 in
theorem specPageJoin_any (A B : Option Addr) (n c m d lo : Nat) (N : Int) (pa pb : List (List Int)) (w : World) (hx : Rd (sliceS intS) lo w.heap.size w A n pa) (hy : Rd (sliceS intS) lo w.heap.size w B m pb) :
    Calls Try.prog 9 #[.int .i64 N, .slice A n c, .slice B m d] w (RetRB w (joinV N pa pb)) := by
  obtain ⟨j0, hj1, hy0, hy1, hy2⟩ := info_parts (show (Try.prog.info? 34).map (fun i => (i.zero, i.size, i.bytes)) = some (some (.slice none 0 0), 1, 24) by kernel_rfl)
  have HJ := hid (And.intro hj1 (And.intro hy0 (And.intro hy1 hy2)))
  clear hj1 hy0 hy1 hy2
  have hnp := hid hx.1
  have hmp := hid hy.1
  have h63 := hx.2.1
  have h64 := hy.2.1
  have X := hid hx
  have Y := hid hy
  clear hx hy
  have fin : ∀ w : World, joinV N pa pb = none → RetRB w (joinV N pa pb) (.returned (.tuple #[.slice (some ⟨w.heap.size, 0, none⟩) 0 0, .bool false])) (w.alloc (.cells #[] 34)) := fun w h => RetRB.of (by rw [h]; rfl) (by rw [h]; rfl) rfl (NestR.nil (Nat.le_refl _) _ rfl) rfl (bnew _ _)
  have FIN := hid fin
  clear fin
  by_cases hok : pageOk N pa = true
  case neg =>
    have hok' : pageOk N pa = false := by simpa using hok
    have HF := hid (show joinV N pa pb = none by unfold joinV; rw [hok']; rfl)
    clear hok
    go_enter Try.func9, Try.ntmps9
    go_wp2_with fail
    refine (specPageValid_any _ _ _ lo _ pa _ X.out).mono ?_
    rintro e w' ⟨rfl, rfl⟩
    rw [hok']
    go_wp2_with fail
    go_ret2
    exact FIN.out _ HF.out
  by_cases hok2 : pageOk N pb = true
  case neg =>
    have hok' : pageOk N pb = false := by simpa using hok2
    have HF := hid (show joinV N pa pb = none by unfold joinV; rw [hok', Bool.false_and, Bool.and_false]; rfl)
    clear hok2
    go_enter Try.func9, Try.ntmps9
    go_wp2_with fail
    refine (specPageValid_any _ _ _ lo _ pa _ X.out).mono ?_
    rintro e w' ⟨rfl, rfl⟩
    rw [hok]
    go_wp2_with fail
    refine (specPageValid_any _ _ _ lo _ pb _ Y.out).mono ?_
    rintro e w' ⟨rfl, rfl⟩
    rw [hok']
    go_wp2_with fail
    go_ret2
    exact FIN.out _ HF.out
  have hpa := pageOk_yes hok
  have hpb := pageOk_yes hok2
  have hn8 : n ≤ 8 := by rw [hnp.out]; exact hpa.1
  have hm8 : m ≤ 8 := by rw [hmp.out]; exact hpb.1
  have HPA := hid (show ∀ p ∈ pa, p ≠ [] ∧ p.length ≤ 1048576 from fun p hp => ⟨(hpa.2 p hp).1, by have := pageOk_len hok p hp; omega⟩)
  have HPB := hid (show ∀ p ∈ pb, p ≠ [] ∧ p.length ≤ 1048576 from fun p hp => ⟨(hpb.2 p hp).1, by have := pageOk_len hok2 p hp; omega⟩)
  clear hpa hpb
  by_cases hs : n + m ≤ 8
  case neg =>
    have hsi : (8 : Int) < (n : Int) + (m : Int) := by omega
    have HF := hid (show joinV N pa pb = none by unfold joinV; rw [← hnp.out, ← hmp.out, decide_eq_false hs, Bool.and_false, Bool.and_false]; rfl)
    go_enter Try.func9, Try.ntmps9
    go_wp2_with fail
    refine (specPageValid_any _ _ _ lo _ pa _ X.out).mono ?_
    rintro e w' ⟨rfl, rfl⟩
    rw [hok]
    go_wp2_with fail
    refine (specPageValid_any _ _ _ lo _ pb _ Y.out).mono ?_
    rintro e w' ⟨rfl, rfl⟩
    rw [hok2]
    go_wp2_with fail
    go_ret2
    exact FIN.out _ HF.out
  have hsi : ¬ (8 : Int) < (n : Int) + (m : Int) := by omega
  have HF := hid (show joinV N pa pb = some (pa ++ pb) by unfold joinV; rw [← hnp.out, ← hmp.out, decide_eq_true hs, hok, hok2]; rfl)
  go_enter Try.func9, Try.ntmps9
  go_wp2_with fail
  refine (specPageValid_any _ _ _ lo _ pa _ X.out).mono ?_
  rintro e w' ⟨rfl, rfl⟩
  rw [hok]
  go_wp2_with fail
  refine (specPageValid_any _ _ _ lo _ pb _ Y.out).mono ?_
  rintro e w' ⟨rfl, rfl⟩
  rw [hok2]
  go_wp2_with fail
  refine (l5Force_any _ n _ lo pa (-1) 0 _ X.out hn8 HPA.out).mono ?_
  rintro e w1 ⟨B1, d1, rs1, rfl, hN1, hl1, ⟨g1, rfl⟩, hb1⟩
  rw [forceL_no] at hl1
  have HN1 := hid hN1
  have HL1 := hid hl1
  have HB1 := hid hb1
  clear hN1 hl1 hb1
  go_wp2_with fail
  refine (l5Force_any _ m _ lo pb (-1) 0 _ (Y.out.bl HB1.out) hm8 HPB.out).mono ?_
  rintro e w2 ⟨B2, d2, rs2, rfl, hN2, hl2, ⟨g2, rfl⟩, hb2⟩
  rw [forceL_no] at hl2
  have HN2 := hid hN2
  have HL2 := hid hl2
  have HB2 := hid hb2
  have hz1 := HB1.out.size
  have hz2 := hb2.size
  have hr1 : rs1.length ≤ 8 := by have := congrArg List.length HL1.out; rw [List.length_map] at this; have := hnp.out; omega
  have hr2 : rs2.length ≤ 8 := by have := congrArg List.length HL2.out; rw [List.length_map] at this; have := hmp.out; omega
  have HN1' := hid (HN1.out.bl hb2)
  have HCELL := hid (show ∀ k, k < rs2.length → w2.cell? ⟨g2, 0 + k, none⟩ = some (gt (rs2.map rowV) k) from fun k hk => by
    obtain ⟨b', off', he, _, _, hat⟩ := (HN2.out.own.rd (by rw [List.length_map]; omega)).2.2.2 (by omega)
    injection he with he
    injection he with he1 he2 _
    subst he1 he2
    obtain ⟨f, hf, he⟩ := hat k hk
    have := hf 0 (by show 0 < 1; omega)
    have he' : f 0 = gt (rs2.map rowV) k := he
    rw [he', show 0 + k * valS.sz + 0 = 0 + k by show 0 + k * 1 + 0 = 0 + k; omega] at this
    exact this)
  clear hN2 hl2 hb2
  have hlm1 : (rs1.map rowV).length = rs1.length := List.length_map _
  go_wp2_with (at_builtin; refine wpList_append_vals rfl (.tmp 28) (.tmp 30) _ rfl Try.underlying22 HJ.out rfl rfl HN1'.out.own (ys := rs2.map rowV) rfl (List.length_map _) HCELL.out (fun u hu => by obtain ⟨q, _, rfl⟩ := List.mem_map.1 hu; rfl) (by rw [List.length_map]; omega) (by rw [List.length_map]; omega) (by omega) ?_; rw [List.length_map]; intro A3 c3 w3 hO3 hc3 hv3)
  go_ret2
  refine RetRB.of (xs := pa ++ pb) (rs := rs1 ++ rs2) (by rw [HF.out]; rfl) (by rw [HF.out]; rfl) (by rw [List.length_append, ← HL1.out, ← HL2.out, List.length_map, List.length_map]) ((HN1'.out.append (hi2 := w2.heap.size) (fun r hr => ?_) HN2.out.one (fun r hr h => ?_) hz1 hz2 hO3 hc3 hv3).wide hc3.size) (by rw [List.map_append, HL1.out, HL2.out]) ((HB1.out.trans (HB2.out.mono hz1)).trans (hc3.below (by omega) fun k hk => (HN1'.out.own.own_lt hk).1))
  · obtain ⟨q1, q2, _, q4⟩ := HN2.out.row r hr
    exact ⟨q1, q2, q4⟩
  · have h1 := (HN1.out.own.own_lt h).2
    have h2 := (HN2.out.row r hr).1
    omega
end Go.Proofs.Yteccacnojmilcaa
