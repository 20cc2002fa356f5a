/- The iterator over all readings of a page, whole: its makers, and its promise to whoever ranges over it. -/
import Derived.Test.YtfjoininagdlcaaIter
import Derived.Laws.EntriesVeiled
namespace Go.Proofs.Ytfjoininagdlcaa
open Go.RowKit Go.Shelf
theorem cell_one' {w : World} {b e : Nat} {x : Value} (h : w.heap[b]? = some (.cells #[x] e (0, 0))) : w.cell? ⟨b, 0, none⟩ = some x ∧ w.frozen? ⟨b, 0, none⟩ = false :=
  ⟨by rw [cell_of_row w _ _ _ _ (0, 0) h]; rfl, frozen_of_row w b 0 _ e h⟩
theorem set_one {w : World} {b e : Nat} {x v : Value} (h : w.heap[b]? = some (.cells #[x] e (0, 0))) : (w.setCell ⟨b, 0, none⟩ v).heap[b]? = some (.cells #[v] e (0, 0)) := by
  rw [heap_setCell_same w b 0 _ e v h]; rfl
theorem set_other {w : World} {b k o : Nat} {v : Value} (hk : k ≠ b) : (w.setCell ⟨b, o, none⟩ v).heap[k]? = w.heap[k]? := Below.heap_setCell w ⟨b, o, none⟩ v k hk
theorem make_rule0 {P : Program} {t e bytes : Nat} {z : Value} {i : TypeInfo} (ht : P.underlying t = some (.slice e)) (hi : P.info? e = some i) (hz : i.zero = some z) (hs : i.size = 1) (hb : i.bytes = bytes)
    {n : Nat} (hbytes : bytes * n ≤ 281474976710656) (h63 : n ≤ 9223372036854775807) (w : World) :
    (Instr.makeSlice t (.int .i64 0) (.int .i64 (n : Int))).run P w = .ok (.slice (some ⟨w.heap.size, 0, none⟩) 0 n) (w.alloc (.cells (madeCells z.cells n) e)) := by
  have h : ((bytes * n : Nat) : Int) ≤ 281474976710656 := by omega
  rw [Int.natCast_mul] at h
  have := run_make (P := P) w t e i z ht hi hz .i64 .i64 0 n (by omega) (by omega) (by rw [hb]; exact h) (by omega)
  rw [hs] at this
  simpa using this
section
variable (n0 n1 mb pb yb wb b ly : Nat) (A : Option Addr) (n c : Nat) (B : Option Addr) (m e0 : Nat) (C : Option Addr) (q d : Nat) (l : List Int) (r page xs : List (List Int)) (J Jx : Nat → List (List Int) → World → Prop)
theorem walk_all (hY : ∀ pre x X, J b pre X → PreAt X b q x ∧ x.length = q → (pre ++ [x]) <+: xs → YA Try.prog ly #[.slice (some ⟨b, 0, none⟩) q q] X fun e X' =>
      (e = .returned (.bool true) ∧ J b (pre ++ [x]) X' ∧ Chg (rng n0 n1) X X') ∨ (e = .returned (.bool false) ∧ Jx b (pre ++ [x]) X'))
    (hJs : ∀ s X X', J b s X → Chg (fun k => k = b) X X' → J b s X') (ps : List (List Int)) :
    ∀ (front : List (List Int)) (pre : List Int) (before : List (List Int)) (W : World), page = front ++ ps → pre.length = front.length → (∀ y ∈ pre, 0 ≤ y ∧ y < (n : Int)) →
      ItW n0 n1 mb pb yb wb b ly A n c B m e0 C q d l r page W → PreAt W b q pre → J b before W → (before ++ readsOf l r ps pre) <+: xs →
      Calls Try.prog 78 #[.slice (some ⟨b, 0, none⟩) pre.length q, .pointer (some ⟨pb, 0, none⟩), .pointer (some ⟨yb, 0, none⟩), .pointer (some ⟨mb, 0, none⟩), .pointer (some ⟨wb, 0, none⟩)] W (WalkP n0 n1 b q J Jx pre before (readsOf l r ps pre) W) := by
  induction ps with
  | nil =>
    intro front pre before W hpage hfp hpn h hpre hJ hx
    have hq : pre.length = q := by rw [h.hp.1, hpage, List.append_nil]; exact hfp
    rw [hq]
    exact walk_leaf n0 n1 mb pb yb wb b ly A n c B m e0 C q d l r page xs J Jx hY pre before W h hpre hq hJ hx
  | cons p ps ih =>
    intro front pre before W hpage hfp hpn h hpre hJ hx
    refine walk_inner n0 n1 mb pb yb wb b ly A n c B m e0 C q d l r page xs J Jx hJs front p ps hpage pre hfp hpn (fun x before' X hxp hX hpX hJX hxX => ?_) before W h hpre hJ hx
    have hok := pageOk_yes (bothOk_yes h.ok).2
    have := ih (front ++ [p]) (pre ++ [x]) before' X (by rw [hpage]; simp) (by simp [hfp]) (fun y hy => by
      rcases List.mem_append.1 hy with hy | hy
      · exact hpn y hy
      · rw [List.mem_singleton] at hy
        subst hy
        rw [h.hl.1]
        exact (hok.2 p (by rw [hpage]; simp)).2 y hxp) hX hpX hJX hxX
    rw [List.length_append] at this
    exact this
end
set_option maxRecDepth 100000 in
set_option maxHeartbeats 2000000 in
theorem readings_seq (n0 n1 mb pb : Nat) (A : Option Addr) (n c : Nat) (B : Option Addr) (m e0 : Nat) (C : Option Addr) (q d : Nat) (l : List Int) (r page : List (List Int)) (w : World)
    (hl : Rd intS 0 n0 w A n l) (hr : Rd (sliceS intS) 0 n0 w B m r) (hp : Rd (sliceS intS) 0 n0 w C q page)
    (cm : w.heap[mb]? = some (.cells #[.slice A n c, .slice B m e0] 26 (0, 0))) (cp : w.heap[pb]? = some (.cells #[.slice C q d] 24 (0, 0))) (hok : bothOk l r page = true) (h01 : n0 ≤ n1) (h1 : n1 ≤ mb) (h2 : n1 ≤ pb) :
    SeqChg Try.prog 77 #[.pointer (some ⟨pb, 0, none⟩), .pointer (some ⟨mb, 0, none⟩)] (fun b => .slice (some ⟨b, 0, none⟩) q q) (fun b x X => PreAt X b q x ∧ x.length = q) (readsOf l r page []) n0 n1 w := by
  intro ly J Jx W hW hJs hJxs hY h0
  have hmlt := (Array.getElem?_eq_some_iff.1 cm).1
  have hplt := (Array.getElem?_eq_some_iff.1 cp).1
  have hsz := hW.size
  obtain ⟨i0, hi, hz0, hz1, hz2⟩ := info_parts (show (Try.prog.info? 3).map (fun i => (i.zero, i.size, i.bytes)) = some (some (.int .i64 0), 1, 8) by kernel_rfl)
  have hok2 := pageOk_yes (bothOk_yes hok).2
  have hq8 : q ≤ 8 := by rw [hp.1]; exact hok2.1
  have hmk := fun w => make_rule0 (P := Try.prog) Try.underlying23 hi hz0 hz1 hz2 (n := q) (by omega) (by omega) w
  have HALL := hid fun yb wb b => walk_all n0 n1 mb pb yb wb b ly A n c B m e0 C q d l r page (readsOf l r page []) J Jx
  have CM := hid ((hW.block mb hmlt).trans cm)
  have CP := hid ((hW.block pb hplt).trans cp)
  have HRD := hid (And.intro (hl.below hW (by omega)) (And.intro (hr.below hW (by omega)) (hp.below hW (by omega))))
  have HJS := hid hJs
  have HJXS := hid hJxs
  have HY := hid hY
  have H0 := hid h0
  have HOK := hid hok
  have c1 : W.cell? ⟨pb, 0, none⟩ = some (.slice C q d) := by rw [cell_of_row W _ _ _ _ (0, 0) CP.out]; rfl
  clear hi hz0 hz1 hz2 hok2 cm cp hl hr hp hJs hJxs hY h0 hok hW
  go_enter Try.func77, Try.ntmps77
  go_wp2_with fail
  have hx0 := heap_alloc_new (W.alloc (.cells #[.func (.yield ly) #[] #[]] 87)) (.cells #[.func (.func 78) #[] #[.pointer (some ⟨pb, 0, none⟩), .pointer (some ⟨W.heap.size, 0, none⟩), .pointer (some ⟨mb, 0, none⟩), .pointer (some ⟨W.heap.size + 1, 0, none⟩)]] 87)
  have hx1 := (bnew (W.alloc (.cells #[.func (.yield ly) #[] #[]] 87)) (.cells #[.func (.func 78) #[] #[.pointer (some ⟨pb, 0, none⟩), .pointer (some ⟨W.heap.size, 0, none⟩), .pointer (some ⟨mb, 0, none⟩), .pointer (some ⟨W.heap.size + 1, 0, none⟩)]] 87)).block W.heap.size (by simp)
  rw [heap_alloc_new] at hx1
  have hx2 : Chg (fun _ => False) W ((W.alloc (.cells #[.func (.yield ly) #[] #[]] 87)).alloc (.cells #[.func (.func 78) #[] #[.pointer (some ⟨pb, 0, none⟩), .pointer (some ⟨W.heap.size, 0, none⟩), .pointer (some ⟨mb, 0, none⟩), .pointer (some ⟨W.heap.size + 1, 0, none⟩)]] 87)) := (chg_new _ _ _).trans (chg_new _ _ _)
  rw [World.size_alloc] at hx0
  generalize (W.alloc (.cells #[.func (.yield ly) #[] #[]] 87)).alloc (.cells #[.func (.func 78) #[] #[.pointer (some ⟨pb, 0, none⟩), .pointer (some ⟨W.heap.size, 0, none⟩), .pointer (some ⟨mb, 0, none⟩), .pointer (some ⟨W.heap.size + 1, 0, none⟩)]] 87) = w2 at *
  obtain ⟨yb, hyb⟩ : ∃ yb, W.heap.size = yb := ⟨_, rfl⟩
  obtain ⟨wb, hwb⟩ : ∃ wb, W.heap.size + 1 = wb := ⟨_, rfl⟩
  rw [hwb, hyb] at hx0
  rw [hyb] at hx1
  rw [hwb, hyb]
  have CY := hid hx1
  have CW := hid hx0
  have HC := hid hx2
  have HYB := hid hyb
  have HWB := hid hwb
  have hs2 := hx2.size
  have hwlt := (Array.getElem?_eq_some_iff.1 hx0).1
  clear hx0 hx1 hx2 hyb hwb c1
  refine wp_region_invG (by kernel_rfl) (by kernel_rfl) (fun L a X => ∃ v6 v7 v8 v9 v10 : Value, a = { tmps := #[.func (.yield ly) #[] #[], .pointer (some ⟨pb, 0, none⟩), .pointer (some ⟨mb, 0, none⟩), .pointer (some ⟨yb, 0, none⟩), .pointer (some ⟨wb, 0, none⟩), .func (.func 78) #[] #[.pointer (some ⟨pb, 0, none⟩), .pointer (some ⟨yb, 0, none⟩), .pointer (some ⟨mb, 0, none⟩), .pointer (some ⟨wb, 0, none⟩)], v6, v7, v8, v9, v10], defers := [] } ∧
      (L 0 = true → v6 = .func (.func 78) #[] #[.pointer (some ⟨pb, 0, none⟩), .pointer (some ⟨yb, 0, none⟩), .pointer (some ⟨mb, 0, none⟩), .pointer (some ⟨wb, 0, none⟩)]) ∧ (L 1 = true → v7 = .slice C q d) ∧ (L 2 = true → v8 = .int .i64 q) ∧
      (L 3 = true → L 4 = false → ∃ b, v9 = .slice (some ⟨b, 0, none⟩) 0 q ∧ wb < b ∧ PreAt X b q []) ∧
      (L 4 = true → ∃ b, yb ≤ b ∧ (J b (readsOf l r page []) X ∨ ∃ pre, pre <+: readsOf l r page [] ∧ Jx b pre X)) ∧
      (L 2 = true → L 1 = true) ∧ (L 3 = true → L 1 = true) ∧ (L 4 = true → L 0 = true ∧ L 3 = true) ∧ (L 4 = false → Chg (fun _ => False) w2 X)) ?_ ⟨?_, ?_, ?_, ?_, ?_, trivial⟩ ?_
  · exact ⟨undef, undef, undef, undef, undef, rfl, fun h => (by cases h), fun h => (by cases h), fun h => (by cases h), fun h => (by cases h), fun h => (by cases h), fun h => (by cases h), fun h => (by cases h), fun h => (by cases h), fun _ => (Chg.refl _ _).drew'⟩
  · rintro L a X K0 ⟨v6, v7, v8, v9, v10, rfl, hF⟩ hL hd hK
    have HF := hid hF
    clear hF
    have n4 : L 4 = false := by cases h : L 4 with | false => rfl | true => exact absurd (((HF.out.2.2.2.2.2.2.2.1) h).1) (by rw [hL]; decide)
    have q1 := chg_cell ((HF.out.2.2.2.2.2.2.2.2) n4) (fun h => h) (show w2.cell? ⟨wb, 0, none⟩ = some (.func (.func 78) #[] #[.pointer (some ⟨pb, 0, none⟩), .pointer (some ⟨yb, 0, none⟩), .pointer (some ⟨mb, 0, none⟩), .pointer (some ⟨wb, 0, none⟩)]) by rw [cell_of_row w2 _ _ _ _ (0, 0) CW.out]; rfl)
    clear hd
    refine ⟨rfl, ?_⟩
    go_simp
    exact hK _ _ ⟨_, _, _, _, _, rfl, fun _ => rfl, (HF.out.2.1), (HF.out.2.2.1), (HF.out.2.2.2.1), (HF.out.2.2.2.2.1), (HF.out.2.2.2.2.2.1), (HF.out.2.2.2.2.2.2.1), fun h => ⟨rfl, ((HF.out.2.2.2.2.2.2.2.1) h).2⟩, (HF.out.2.2.2.2.2.2.2.2)⟩
  · rintro L a X K0 ⟨v6, v7, v8, v9, v10, rfl, hF⟩ hL hd hK
    have HF := hid hF
    clear hF
    have n4 : L 4 = false := by cases h : L 4 with | false => rfl | true => exact absurd ((HF.out.2.2.2.2.2.2.1) ((HF.out.2.2.2.2.2.2.2.1) h).2) (by rw [hL]; decide)
    have q1 := chg_cell ((HC.out).trans ((HF.out.2.2.2.2.2.2.2.2) n4)) (fun h => h) (show W.cell? ⟨pb, 0, none⟩ = some (.slice C q d) by rw [cell_of_row W _ _ _ _ (0, 0) CP.out]; rfl)
    clear hd
    refine ⟨rfl, ?_⟩
    go_simp
    exact hK _ _ ⟨_, _, _, _, _, rfl, (HF.out.1), fun _ => rfl, (HF.out.2.2.1), (HF.out.2.2.2.1), (HF.out.2.2.2.2.1), fun _ => rfl, fun h => rfl, (HF.out.2.2.2.2.2.2.2.1), (HF.out.2.2.2.2.2.2.2.2)⟩
  · rintro L a X K0 ⟨v6, v7, v8, v9, v10, rfl, hF⟩ hL hd hK
    have HF := hid hF
    clear hF
    have d1 := hd ⟨1, .data⟩ (by simp) rfl
    obtain rfl := (HF.out.2.1) (hd ⟨1, .data⟩ (by simp) rfl)
    clear hd
    refine ⟨rfl, ?_⟩
    go_simp
    exact hK _ _ ⟨_, _, _, _, _, rfl, (HF.out.1), (HF.out.2.1), fun _ => rfl, (HF.out.2.2.2.1), (HF.out.2.2.2.2.1), fun _ => d1, (HF.out.2.2.2.2.2.2.1), (HF.out.2.2.2.2.2.2.2.1), (HF.out.2.2.2.2.2.2.2.2)⟩
  · rintro L a X K0 ⟨v6, v7, v8, v9, v10, rfl, hF⟩ hL hd hK
    have HF := hid hF
    clear hF
    obtain rfl := (HF.out.2.2.1) (hd ⟨2, .data⟩ (by simp) rfl)
    have d1 : L 1 = true := (HF.out.2.2.2.2.2.1) (hd ⟨2, .data⟩ (by simp) rfl)
    have n4 : L 4 = false := by cases h : L 4 with | false => rfl | true => exact absurd (((HF.out.2.2.2.2.2.2.2.1) h).2) (by rw [hL]; decide)
    have hcx := (HF.out.2.2.2.2.2.2.2.2) n4
    have hsx := hcx.size
    clear hd
    refine ⟨rfl, ?_⟩
    go_simp
    have hcn := chg_new X (.cells (madeCells #[Value.int .i64 0] q) 3) (fun _ => False)
    exact hK _ _ ⟨_, _, _, _, _, rfl, (HF.out.1), (HF.out.2.1), (HF.out.2.2.1), fun _ _ => ⟨_, rfl, by omega, _, heap_alloc_new _ _, by rw [size_madeCells], Nat.zero_le _, fun j hj => absurd hj (Nat.not_lt_zero j)⟩, fun h => absurd h (by rw [show updL L 3 4 = L 4 from rfl, n4]; decide), (HF.out.2.2.2.2.2.1), fun _ => d1, fun h => ⟨((HF.out.2.2.2.2.2.2.2.1) h).1, rfl⟩, fun _ => hcx.trans hcn⟩
  · rintro L a X K0 ⟨v6, v7, v8, v9, v10, rfl, hF⟩ hL hd hK
    have HF := hid hF
    clear hF
    have d0 := hd ⟨0, .data⟩ (by simp) rfl
    have d3 := hd ⟨3, .data⟩ (by simp) rfl
    obtain rfl := (HF.out.1) d0
    obtain ⟨b, rfl, hb1, hpb⟩ := (HF.out.2.2.2.1) d3 hL
    have hcx := (HF.out.2.2.2.2.2.2.2.2) hL
    have hyw : yb + 1 = wb := by rw [← HYB.out]; exact HWB.out
    have hWy := HYB.out
    have IT : ItW n0 n1 mb pb yb wb b ly A n c B m e0 C q d l r page X := ⟨HRD.out.1.chg (HC.out.trans hcx) (by omega) (fun k hk => hk.elim), HRD.out.2.1.chg (HC.out.trans hcx) (by omega) (fun k hk => hk.elim), HRD.out.2.2.chg (HC.out.trans hcx) (by omega) (fun k hk => hk.elim), ((HC.out.trans hcx).block mb (by omega) (fun h => h)).trans CM.out, ((HC.out.trans hcx).block pb (by omega) (fun h => h)).trans CP.out, (hcx.block yb (by omega) (fun h => h)).trans CY.out, (hcx.block wb (by omega) (fun h => h)).trans CW.out, HOK.out, ⟨h01, h1, h2, by omega, by omega, by omega⟩, ⟨by omega, by omega, by omega, by omega⟩⟩
    have hcall := HALL.out yb wb b (fun pre x X' hJ hr hx => HY.out b pre x X' (by omega) hJ hr hx) (fun s X X' hj hc => HJS.out b s X X' (by omega) hj hc) page [] [] [] X rfl rfl (fun y hy => by cases hy) IT hpb (HJS.out b [] W X (by omega) (H0.out b (by omega)) ((HC.out.trans hcx).wide fun k hk => hk.elim)) (by rw [List.nil_append]; exact List.prefix_rfl)
    clear hd IT hpb
    refine ⟨rfl, ?_⟩
    go_simp
    refine hcall.mono ?_
    rintro e w3 (⟨rfl, hJ2, hck2, hpk2⟩ | ⟨rfl, t2, ht2, hJx2⟩)
    · exact hK _ _ ⟨_, _, _, _, _, rfl, (HF.out.1), (HF.out.2.1), (HF.out.2.2.1), fun _ h => (by cases h), fun _ => ⟨b, by omega, .inl (by rw [List.nil_append] at hJ2; exact hJ2)⟩, (HF.out.2.2.2.2.2.1), (HF.out.2.2.2.2.2.2.1), fun _ => ⟨d0, d3⟩, fun h => (by cases h)⟩
    · exact hK _ _ ⟨_, _, _, _, _, rfl, (HF.out.1), (HF.out.2.1), (HF.out.2.2.1), fun _ h => (by cases h), fun _ => ⟨b, by omega, .inr ⟨t2, ht2, by rw [List.nil_append] at hJx2; exact hJx2⟩⟩, (HF.out.2.2.2.2.2.1), (HF.out.2.2.2.2.2.2.1), fun _ => ⟨d0, d3⟩, fun h => (by cases h)⟩
  · rintro L a X hLL ⟨v6, v7, v8, v9, v10, rfl, f0, f1, f2, f3, f4, g2, g3, g4, w4⟩
    obtain ⟨b, hb, hres⟩ := f4 (hLL 4 (by simp))
    have HB := hid (show W.heap.size ≤ b by rw [HYB.out]; exact hb)
    have HR := hid hres
    clear f0 f1 f2 f3 f4 g2 g3 g4 w4 hLL hres hb
    go_wp2_with fail
    go_end0
    exact ⟨⟨_, rfl⟩, b, HB.out, HR.out⟩
theorem readings_any (A : Option Addr) (n c : Nat) (B : Option Addr) (m e0 : Nat) (C : Option Addr) (q d : Nat) (w : World) :
    Calls Try.prog 52 #[.agg #[.slice A n c, .slice B m e0], .slice C q d] w fun e w' => e = .returned (.func (.func 77) #[] #[.pointer (some ⟨w.heap.size + 1, 0, none⟩), .pointer (some ⟨w.heap.size, 0, none⟩)]) ∧
      (w.alloc (.cells #[.slice A n c, .slice B m e0] 26)).alloc (.cells #[.slice C q d] 24) = w' := by
  go_enter Try.func52, Try.ntmps52
  go_wp2_with fail
  go_ret
  exact ⟨rfl, rfl⟩
end Go.Proofs.Ytfjoininagdlcaa
