/- What the reference's SystemAdd returns. -/
import Derived.Test.YtigemahbopligaaAppW
import Derived.Test.YtigemahbopligaaSysS
namespace Go.Proofs.Ytigemahbopligaa
open Go.RowKit
attribute [local go_sem] Oper.semAt_some
/-- Signs of the call's own and whether they are a system: no more than m of them. -/
def RetSA (m : Nat) (w : World) (e : Ending) (w' : World) : Prop :=
  ∃ (A : Option Addr) (n c : Nat) (o : List SignT) (b : Bool), e = .returned (.tuple #[.slice A n c, .bool b]) ∧ OwnR signS w.heap.size w' 100 (.slice A n c) o ∧ n = o.length ∧ o.length ≤ m ∧ Below w.heap.size w w' ∧ A.isSome = true
set_option maxRecDepth 100000 in
set_option maxHeartbeats 4000000 in
theorem specSystemAdd_any (gA oA n c lo : Nat) (l : List SignT) (s : ByteArray) (d z : Int) (w : World) (hx : Rd signS lo w.heap.size w (some ⟨gA, oA, none⟩) n l) (hs : s.size ≤ 9223372036854775807) (hn : n ≤ 1000) :
    Calls Try.prog 88 #[.slice (some ⟨gA, oA, none⟩) n c, .agg #[.string s, .int .i64 d, .int .i64 z]] w (RetSA (n + 1) w) := by
  obtain ⟨i0, hi1, hz0, hz1, hz2⟩ := info_parts (show (Try.prog.info? 100).map (fun i => (i.zero, i.size, i.bytes)) = some (some (.agg #[.string ⟨#[]⟩, .int .i64 0, .int .i64 0]), 3, 32) by kernel_rfl)
  have HI := hid (And.intro hi1 (And.intro hz0 (And.intro hz1 hz2)))
  clear hi1 hz0 hz1 hz2
  have b1 := bnew w (.cells #[.string s, .int .i64 d, .int .i64 z] 100)
  have n1 := heap_alloc_new w (.cells #[.string s, .int .i64 d, .int .i64 z] 100)
  have z1 := World.size_alloc w (.cells #[.string s, .int .i64 d, .int .i64 z] 100)
  obtain ⟨w1, hw1⟩ : ∃ w1, w.alloc (.cells #[.string s, .int .i64 d, .int .i64 z] 100) = w1 := ⟨_, rfl⟩
  rw [hw1] at b1 n1 z1
  have HW1 := hid hw1
  have HN1 := hid n1
  have HB1 := hid b1
  have hzl : w.heap.size < w1.heap.size := by omega
  have HX := hid (hx.bl b1)
  have E1 := hid hx.1
  clear hx b1 n1 z1 hw1
  go_enter Try.func88, Try.ntmps88
  go_wp2_with fail
  rw [HW1.out]
  refine wp_region_invH (by kernel_rfl) (by kernel_rfl) (fun L act X => ∃ v6 v7 v8 v9 v10 v11 v12 : Value, act = { tmps := #[.slice (some ⟨gA, oA, none⟩) n c, .agg #[.string s, .int .i64 d, .int .i64 z], undef, .pointer (some ⟨w.heap.size, 0, none⟩), .slice none 0 0, .bool false, v6, v7, v8, v9, v10, v11, v12, undef, undef, undef, undef, undef], defers := [] } ∧
    (Below w1.heap.size w1 X) ∧ (L 0 = false → L 2 = false) ∧ (L 2 = false → L 5 = false) ∧ (L 4 = false → L 5 = false) ∧ (L 5 = false → L 6 = false) ∧ (L 0 = true → L 2 = false → ∃ g : Nat, v7 = .slice (some ⟨g, 0, none⟩) 0 0 ∧ OwnR signS w1.heap.size X 100 (.slice (some ⟨g, 0, none⟩) 0 0) []) ∧ (L 1 = true → v8 = .slice (some ⟨gA, oA, none⟩) n c) ∧ (L 2 = true → L 5 = false → ∃ (A' : Option Addr) (c' : Nat), v9 = .slice A' n c' ∧ OwnR signS w1.heap.size X 100 (.slice A' n c') l) ∧ (L 3 = true → v10 = .agg #[.string s, .int .i64 d, .int .i64 z]) ∧ (L 4 = true → L 5 = false → ∃ g2 : Nat, v11 = .slice (some ⟨g2, 0, none⟩) 1 1 ∧ X.heap[g2]? = some (.cells #[.string s, .int .i64 d, .int .i64 z] 100 (0, 0)) ∧ w1.heap.size ≤ g2 ∧ (∀ (A' : Option Addr) (c' : Nat), L 2 = true → v9 = .slice A' n c' → (Value.slice A' n c').ownBlock ≠ some g2)) ∧ (L 5 = true → ∃ (A' : Option Addr) (c' : Nat), v12 = .slice A' (n + 1) c' ∧ OwnR signS w1.heap.size X 100 (.slice A' (n + 1) c') (l ++ [(s, d, z)])) ∧ (L 6 = true → v6 = v12)) ?_ ⟨?_, ?_, ?_, ?_, ?_, ?_, ?_, trivial⟩ ?_
  · exact ⟨_, _, _, _, _, _, _, rfl, (Below.refl _ _).drew, fun _ => rfl, fun _ => rfl, fun _ => rfl, fun _ => rfl, fun h => (by cases h), fun h => (by cases h), fun h => (by cases h), fun h => (by cases h), fun h => (by cases h), fun h => (by cases h), fun h => (by cases h)⟩
  · rintro L act X K0 ⟨v6, v7, v8, v9, v10, v11, v12, rfl, hB, o0, o2, o4, o5, f0, f1, f2, f3, f4, f5, f6⟩ hL hd hK
    have hc := bnew X (.cells #[] 100)
    clear hd
    refine ⟨rfl, ?_⟩
    go_simp
    exact hK _ _ ⟨_, _, _, _, _, _, _, rfl, btr hB hc, fun h => (by cases h), o2, o4, o5, fun _ _ => ⟨_, rfl, OwnR.nil hB.size #[] rfl⟩, f1, fun h h9 => (by obtain ⟨A', c', e, r⟩ := f2 h h9; exact ⟨A', c', e, r.bl hc⟩), f3, fun h h9 => (by obtain ⟨g2, e, hh, hg, hn⟩ := f4 h h9; exact ⟨g2, e, (hc.block g2 (Array.getElem?_eq_some_iff.1 hh).1).trans hh, hg, hn⟩), fun h => (by obtain ⟨A', c', e, r⟩ := f5 h; exact ⟨A', c', e, r.bl hc⟩), f6⟩
  · rintro L act X K0 ⟨v6, v7, v8, v9, v10, v11, v12, rfl, hB, o0, o2, o4, o5, f0, f1, f2, f3, f4, f5, f6⟩ hL hd hK
    clear hd
    refine ⟨rfl, ?_⟩
    go_simp
    exact hK _ _ ⟨_, _, _, _, _, _, _, rfl, hB, o0, o2, o4, o5, f0, fun _ => rfl, f2, f3, f4, f5, f6⟩
  · rintro L act X K0 ⟨v6, v7, v8, v9, v10, v11, v12, rfl, hB, o0, o2, o4, o5, f0, f1, f2, f3, f4, f5, f6⟩ hL hd hK
    have d0 := hd ⟨0, .data⟩ (by simp) rfl
    have d1 := hd ⟨1, .data⟩ (by simp) rfl
    obtain rfl := f1 d1
    obtain ⟨g, rfl, lE⟩ := f0 d0 hL
    have hXs := hB.size
    have hgw := lE.own_lt (k := g) rfl
    obtain ⟨cu, hcu, hcz⟩ := own_empty lE
    have hrd := HX.out.bl hB
    clear hd
    refine ⟨rfl, ?_⟩
    refine wp_append_signs (.tmp 7) (.tmp 8) _ rfl Try.underlying44 HI.out rfl (v := .slice (some ⟨g, 0, none⟩) 0 0) rfl lE rfl hrd (by simp; omega) (by simp; omega) (by omega) ?_
    intro A' c' X2 hO2 hc0 hv
    rw [List.nil_append, List.length_nil, Nat.zero_add] at hO2
    rw [List.length_nil, Nat.zero_add] at hv
    rw [List.length_nil, Nat.zero_add]
    have hcg : ∀ j, j < X.heap.size → j ≠ g → X2.heap[j]? = X.heap[j]? := fun j hj hn => hc0.block j hj (fun e => by have h' : some g = some j := e; injection h' with h'; exact hn h'.symm)
    have hbB : Below w1.heap.size w1 X2 := hB.trans (hc0.below (by omega) (fun j e => by have h' : some g = some j := e; injection h' with h'; omega))
    exact hK _ _ ⟨_, _, _, _, _, _, _, rfl, hbB, fun h => absurd ((d0).symm.trans h) (by decide), fun h => (by cases h), o4, o5, fun _ h => (by cases h), f1, fun _ _ => ⟨A', c', rfl, hO2⟩, f3, fun h h9 => (by obtain ⟨g2, e, hh, hg, hn⟩ := f4 h h9; have hne : g2 ≠ g := (fun e2 => by subst e2; rw [hcu] at hh; injection hh with hh; injection hh with hh; rw [hh] at hcz; simp at hcz); have hlt := (Array.getElem?_eq_some_iff.1 hh).1; exact ⟨g2, e, (hcg g2 hlt hne).trans hh, hg, fun B' d' _ e9 => by injection e9 with a1 _ a3; rw [← a1, ← a3]; intro e8; exact hv.elim (fun hv => by rw [hv] at e8; have h' : some g = some g2 := e8; injection h' with h'; exact hne h'.symm) (fun hv => by rw [hv] at e8; injection e8 with e8; omega)⟩), fun h => absurd ((o2 hL).symm.trans h) (by decide), fun h => absurd ((o5 (o2 hL)).symm.trans h) (by decide)⟩
  · rintro L act X K0 ⟨v6, v7, v8, v9, v10, v11, v12, rfl, hB, o0, o2, o4, o5, f0, f1, f2, f3, f4, f5, f6⟩ hL hd hK
    have q0 := (at_get3 ((hB.block _ (by omega)).trans HN1.out)).1
    have q1 := (at_get3 ((hB.block _ (by omega)).trans HN1.out)).2.1
    have q2 := (at_get3 ((hB.block _ (by omega)).trans HN1.out)).2.2.1
    clear hd
    refine ⟨rfl, ?_⟩
    go_simp
    exact hK _ _ ⟨_, _, _, _, _, _, _, rfl, hB, o0, o2, o4, o5, f0, f1, f2, fun _ => rfl, f4, f5, f6⟩
  · rintro L act X K0 ⟨v6, v7, v8, v9, v10, v11, v12, rfl, hB, o0, o2, o4, o5, f0, f1, f2, f3, f4, f5, f6⟩ hL hd hK
    have d3 := hd ⟨3, .data⟩ (by simp) rfl
    obtain rfl := f3 d3
    have hc := bnew X (.cells #[.string s, .int .i64 d, .int .i64 z] 100)
    have hXs := hB.size
    clear hd
    refine ⟨rfl, ?_⟩
    go_simp
    exact hK _ _ ⟨_, _, _, _, _, _, _, rfl, btr hB hc, o0, o2, fun h => (by cases h), o5, fun h h9 => (by obtain ⟨g, e, r⟩ := f0 h h9; exact ⟨g, e, r.bl hc⟩), f1, fun h h9 => (by obtain ⟨A', c', e, r⟩ := f2 h h9; exact ⟨A', c', e, r.bl hc⟩), f3, fun _ _ => ⟨_, rfl, heap_alloc_new _ _, hXs, fun A' c' h2 e => by obtain ⟨B', d', e3, r3⟩ := f2 h2 (o4 hL); rw [e3] at e; injection e with a1 _ a3; rw [← a1, ← a3]; intro e8; have := (r3.own_lt e8).2; omega⟩, fun h => (by obtain ⟨A', c', e, r⟩ := f5 h; exact ⟨A', c', e, r.bl hc⟩), f6⟩
  · rintro L act X K0 ⟨v6, v7, v8, v9, v10, v11, v12, rfl, hB, o0, o2, o4, o5, f0, f1, f2, f3, f4, f5, f6⟩ hL hd hK
    have d2 := hd ⟨2, .data⟩ (by simp) rfl
    have d4 := hd ⟨4, .data⟩ (by simp) rfl
    obtain ⟨A2, c2, rfl, r2⟩ := f2 d2 hL
    obtain ⟨g2, rfl, hh, hg2, hn2⟩ := f4 d4 hL
    have hXs := hB.size
    have hll := E1.out
    clear hd
    refine ⟨rfl, ?_⟩
    refine wp_append_R2 (.tmp 9) (.tmp 11) _ rfl signS Try.underlying44 HI.out rfl (by decide) (v := .slice A2 n c2) rfl r2 (y := (s, d, z)) (cs := [.string s, .int .i64 d, .int .i64 z]) rfl hh rfl (by simp [Value.oneCell']) ⟨⟨rfl, hs⟩, rfl, rfl⟩ (by omega) (by omega) (by omega) ?_
    intro A' c' X2 hO2 hc0 hv
    rw [← hll] at hO2 hv ⊢
    have hbB : Below w1.heap.size w1 X2 := hB.trans (hc0.below (by omega) (fun j e => (r2.own_lt e).1))
    exact hK _ _ ⟨_, _, _, _, _, _, _, rfl, hbB, o0, fun h => absurd ((d2).symm.trans h) (by decide), fun h => absurd ((d4).symm.trans h) (by decide), fun h => (by cases h), fun _ h => absurd (d2.symm.trans h) (by decide), f1, fun _ h => (by cases h), f3, fun _ h => (by cases h), fun _ => ⟨A', c', rfl, hO2⟩, fun h => absurd ((o5 hL).symm.trans h) (by decide)⟩
  · rintro L act X K0 ⟨v6, v7, v8, v9, v10, v11, v12, rfl, hB, o0, o2, o4, o5, f0, f1, f2, f3, f4, f5, f6⟩ hL hd hK
    have d5 := hd ⟨5, .data⟩ (by simp) rfl
    clear hd
    refine ⟨rfl, ?_⟩
    go_simp
    exact hK _ _ ⟨_, _, _, _, _, _, _, rfl, hB, o0, o2, o4, fun h => absurd ((d5).symm.trans h) (by decide), f0, f1, f2, f3, f4, f5, fun _ => rfl⟩
  · rintro L act X hLL ⟨v6, v7, v8, v9, v10, v11, v12, rfl, hB, o0, o2, o4, o5, f0, f1, f2, f3, f4, f5, f6⟩
    obtain ⟨A6, c6, e6, r6⟩ := f5 (hLL 5 (by simp))
    subst e6
    obtain rfl := f6 (hLL 6 (by simp))
    have HR6 := hid r6
    have HB6 := hid hB
    clear f0 f1 f2 f3 f4 f5 f6 o0 o2 o4 o5 hLL r6 hB
    have hrd := (HR6.out.rd (by rw [List.length_append]; show l.length + 1 ≤ _; have := E1.out; omega)).2
    have HSV := hid (specSystemValid_any A6 (n + 1) c6 _ _ X hrd)
    have HBX := hid (HB1.out.trans (HB6.out.mono HB1.out.size))
    have hbz := HBX.out.size
    clear hrd
    go_wp2_with fail
    refine HSV.out.mono ?_
    rintro e w5 ⟨rfl, hb5⟩
    obtain ⟨ok, hok⟩ : ∃ ok, sysOk (l ++ [(s, d, z)]) = ok := ⟨_, rfl⟩
    rw [hok]
    have HR7 := hid (HR6.out.bl hb5)
    have HB7 := hid (HBX.out.trans (hb5.mono hbz))
    clear hok hb5
    cases ok with
    | false =>
      go_wp2_with fail
      go_ret2
      exact ⟨_, 0, 0, [], false, rfl, OwnR.nil HB7.out.size #[] rfl, rfl, Nat.zero_le _, HB7.out.trans ((bnew w5 _).mono HB7.out.size), rfl⟩
    | true =>
      go_wp2_with fail
      go_ret2
      obtain ⟨g, rfl, _⟩ := HR7.out.blk (by omega)
      exact ⟨_, n + 1, c6, l ++ [(s, d, z)], true, rfl, HR7.out.low HB1.out.size, by rw [List.length_append, ← E1.out]; rfl, by rw [List.length_append, ← E1.out]; exact Nat.le_refl _, HB7.out, rfl⟩
end Go.Proofs.Ytigemahbopligaa
