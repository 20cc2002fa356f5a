/- ReadingBest: what the program's functions return. -/
import Derived.Test.YtfjoininagdlcaaBest
import Derived.Test.YtfjoininagdlcaaRegInvI
namespace Go.Proofs.Ytfjoininagdlcaa
open Go.RowKit Go.Shelf
attribute [local go_sem] Oper.semAt_some
/-- What an offer leaves. -/
def OfferP (gb bb q : Nat) (x : List Int) (wt g : Int) (w w' : World) : Prop :=
  (g < wt ∧ ∃ A d, w'.heap[bb]? = some (.cells #[.slice A q d] 23 (0, 0)) ∧ w'.heap[gb]? = some (.cells #[.int .i64 wt] 3 (0, 0)) ∧ OwnR intS w.heap.size w' 3 (.slice A q d) x ∧ Chg (fun k => k = gb ∨ k = bb) w w') ∨ (¬ g < wt ∧ w = w')
theorem chg_drewN {D : Nat → Prop} (w : World) (n : Nat) : Chg D w (w.drewN n) := ⟨rfl, rfl, rfl, Nat.le_refl _, fun _ _ _ => rfl⟩
theorem al_old {w : World} {k : Nat} {x o : Obj} (h : w.heap[k]? = some x) : (w.alloc o).heap[k]? = some x := ((bnew w o).block k (Array.getElem?_eq_some_iff.1 h).1).trans h
theorem al_new {w : World} {k : Nat} (o : Obj) (h : w.heap.size = k) : (w.alloc o).heap[k]? = some o := by rw [← h]; exact heap_alloc_new w o
theorem five_new (w : World) (o1 o2 o3 o4 o5 : Obj) : (((((w.alloc o1).alloc o2).alloc o3).alloc o4).alloc o5).heap[w.heap.size]? = some o1 ∧ (((((w.alloc o1).alloc o2).alloc o3).alloc o4).alloc o5).heap[w.heap.size + 1]? = some o2 ∧ (((((w.alloc o1).alloc o2).alloc o3).alloc o4).alloc o5).heap[w.heap.size + 2]? = some o3 ∧ (((((w.alloc o1).alloc o2).alloc o3).alloc o4).alloc o5).heap[w.heap.size + 3]? = some o4 ∧ (((((w.alloc o1).alloc o2).alloc o3).alloc o4).alloc o5).heap[w.heap.size + 4]? = some o5 ∧ (((((w.alloc o1).alloc o2).alloc o3).alloc o4).alloc o5).heap.size = w.heap.size + 5 ∧ Below w.heap.size w (((((w.alloc o1).alloc o2).alloc o3).alloc o4).alloc o5) :=
  ⟨al_old (al_old (al_old (al_old (al_new o1 rfl)))), al_old (al_old (al_old (al_new o2 (by simp)))), al_old (al_old (al_new o3 (by simp))), al_old (al_new o4 (by simp)), al_new o5 (by simp), by simp, btr (btr (btr (btr (bnew w o1) (bnew _ o2)) (bnew _ o3)) (bnew _ o4)) (bnew _ o5)⟩
theorem can_bd {l : List Int} {r : List (List Int)} {N : Int} : ∀ {ps : List (List Int)} {b : Int} {xs : List Int}, (∀ p ∈ ps, ∀ y ∈ p, 0 ≤ y ∧ y < N) → canRead l r ps b xs → ∀ y ∈ xs, 0 ≤ y ∧ y < N
  | [], _, [], _, _, y, hy => by cases hy
  | p :: ps, b, x :: xs, hp, h, y, hy => by
    rcases List.mem_cons.1 hy with rfl | hy
    · exact hp p (List.mem_cons_self ..) _ h.1
    · exact can_bd (fun q hq => hp q (List.mem_cons_of_mem _ hq)) h.2.2 y hy
  | [], _, _ :: _, _, h, _, _ => h.elim
  | _ :: _, _, [], _, h, _, _ => h.elim
set_option maxHeartbeats 1000000 in
theorem offer_any (gb bb b q c : Nat) (x : List Int) (wt g : Int) (v0 : Value) (w : World) (hg : w.heap[gb]? = some (.cells #[.int .i64 g] 3 (0, 0))) (hb : w.heap[bb]? = some (.cells #[v0] 23 (0, 0))) (_hv0 : v0.oneCell' = true) (hne : gb ≠ bb) (hx : Rd intS 0 w.heap.size w (some ⟨b, 0, none⟩) q x) (hq : q ≤ 1048576) :
    Calls Try.prog 81 #[.slice (some ⟨b, 0, none⟩) q c, .int .i64 wt, .pointer (some ⟨gb, 0, none⟩), .pointer (some ⟨bb, 0, none⟩)] w fun e w' => (∃ v, e = .returned v) ∧ OfferP gb bb q x wt g w w' := by
  obtain ⟨y1, f1⟩ := cell_one' hg
  obtain ⟨y2, f2⟩ := cell_one' hb
  have HG := hid hg
  have HB := hid hb
  have HX := hid hx
  have hgl := (Array.getElem?_eq_some_iff.1 hg).1
  have hbl := (Array.getElem?_eq_some_iff.1 hb).1
  clear hg hb hx
  by_cases hlt : g < wt
  case neg =>
    have HL := hid hlt
    go_enter Try.func81, Try.ntmps81
    go_wp2_with fail
    go_end0
    exact ⟨⟨_, rfl⟩, .inr ⟨by have := HL.out; omega, rfl⟩⟩
  case pos =>
    have HL := hid hlt
    go_enter Try.func81, Try.ntmps81
    go_wp2_with fail
    refine (clone_own b 0 q c 0 x w HX.out hq).mono ?_
    rintro e w2 ⟨A, d, rfl, hO, -, hb2⟩
    have y3 := bcl hb2 y1
    have y4 := bcl hb2 y2
    have f3 := (hb2.frozen (p := ⟨gb, 0, none⟩) hgl).trans f1
    have f4 := (hb2.frozen (p := ⟨bb, 0, none⟩) hbl).trans f2
    have HO := hid hO
    have HB2 := hid hb2
    clear hO hb2 y1 y2 f1 f2
    go_wp2_with fail
    go_end0
    have hb2 := HB2.out
    have h1 := (hb2.block gb hgl).trans HG.out
    have h2 := (hb2.block bb hbl).trans HB.out
    have hc : Chg (fun k => k = gb ∨ k = bb) w2 ((w2.setCell ⟨bb, 0, none⟩ (.slice A q d)).setCell ⟨gb, 0, none⟩ (.int .i64 wt)) := ((Chg.refl _ _).set (.inr rfl) _).set (.inl rfl) _
    have hc0 : Chg (fun k => k = gb ∨ k = bb) w w2 := ⟨hb2.os, hb2.tape, hb2.output, hb2.size, fun k hk _ => hb2.block k hk⟩
    exact ⟨⟨_, rfl⟩, .inl ⟨HL.out, A, d, (set_other (Ne.symm hne)).trans (set_one h2), set_one ((set_other hne).trans h1), HO.out.flat intS_flat hc fun k hk h => by have := (HO.out.own_lt hk).1; omega, hc0.trans hc⟩⟩
theorem answer_any (gb bb : Nat) (g : Int) (v0 : Value) (w : World) (hg : w.heap[gb]? = some (.cells #[.int .i64 g] 3 (0, 0))) (hb : w.heap[bb]? = some (.cells #[v0] 23 (0, 0))) :
    Calls Try.prog 82 #[.pointer (some ⟨bb, 0, none⟩), .pointer (some ⟨gb, 0, none⟩)] w fun e w' => e = .returned (.tuple #[v0, .bool (decide (0 ≤ g))]) ∧ ∃ n, w' = w.drewN n := by
  obtain ⟨y1, f1⟩ := cell_one' hg
  obtain ⟨y2, f2⟩ := cell_one' hb
  clear hg hb f1 f2
  go_enter Try.func82, Try.ntmps82
  go_wp2_with fail
  go_quiet (fail)
  go_wp2_with fail
  go_ret2
  exact ⟨rfl, _, rfl⟩
theorem keeper_any (w : World) :
    Calls Try.prog 62 #[] w fun e w' => e = .returned (.tuple #[.func (.func 81) #[] #[.pointer (some ⟨w.heap.size + 1, 0, none⟩), .pointer (some ⟨w.heap.size, 0, none⟩)], .func (.func 82) #[] #[.pointer (some ⟨w.heap.size, 0, none⟩), .pointer (some ⟨w.heap.size + 1, 0, none⟩)]]) ∧
      (w.alloc (.cells #[.slice none 0 0] 23)).alloc (.cells #[.int .i64 (-1)] 3) = w' := by
  go_enter Try.func62, Try.ntmps62
  go_wp2_with fail
  go_ret2
  exact ⟨rfl, rfl⟩
/-- What is kept of the readings so far. -/
structure BestI (bb gb ob b N : Nat) (w : World) (mv : Obj) (s : Option (List Int) × Int) (W : World) : Prop where
  row : ∃ A c, W.heap[bb]? = some (.cells #[.slice A (s.1.getD []).length c] 23 (0, 0)) ∧ OwnR intS w.heap.size W 3 (.slice A (s.1.getD []).length c) (s.1.getD []) ∧ ∀ k, (Value.slice A (s.1.getD []).length c).ownBlock = some k → k ≠ b ∧ N + 2 ≤ k
  gr : W.heap[gb]? = some (.cells #[.int .i64 s.2] 3 (0, 0))
  off : W.heap[ob]? = some (.cells #[.func (.func 81) #[] #[.pointer (some ⟨gb, 0, none⟩), .pointer (some ⟨bb, 0, none⟩)]] 68 (0, 0))
  mod : W.heap[w.heap.size]? = some mv
  bl : Below w.heap.size w W
theorem BestI.chg {bb gb ob b N : Nat} {w : World} {mv : Obj} {s : Option (List Int) × Int} {W W' : World} (h : BestI bb gb ob b N w mv s W) (hc : Chg (notMine N b) W W') (h1 : bb < N) (h2 : gb < N) (h3 : ob < N) (hb : N + 2 ≤ b) (hw : w.heap.size < N) : BestI bb gb ob b N w mv s W' := by
  obtain ⟨⟨A, c, r1, r2, r3⟩, gr, off, mod, bl⟩ := h
  have hn : ∀ k, k < N → ¬ notMine N b k := fun k hk h => by rcases h with h | h | h <;> omega
  refine ⟨⟨A, c, (hc.block _ (Array.getElem?_eq_some_iff.1 r1).1 (hn _ h1)).trans r1, r2.flat intS_flat hc (fun k hk h => ?_), r3⟩, (hc.block _ (Array.getElem?_eq_some_iff.1 gr).1 (hn _ h2)).trans gr, (hc.block _ (Array.getElem?_eq_some_iff.1 off).1 (hn _ h3)).trans off, (hc.block _ (Array.getElem?_eq_some_iff.1 mod).1 (hn _ hw)).trans mod, bl.trans (hc.below bl.size fun k hk => ?_)⟩
  · have := r3 k hk
    rcases h with h | h | h <;> omega
  · rcases hk with h | h | h <;> omega
set_option maxRecDepth 100000 in
set_option maxHeartbeats 2000000 in
theorem implReadingBest_any (A B C : Option Addr) (n c m e0 q d : Nat) (l : List Int) (r page : List (List Int)) (w : World) (hl : Rd intS 0 w.heap.size w A n l) (hr : Rd (sliceS intS) 0 w.heap.size w B m r) (hp : Rd (sliceS intS) 0 w.heap.size w C q page) :
    Calls Try.prog 20 #[.agg #[.slice A n c, .slice B m e0], .slice C q d] w (RetIB w (bestV l r page)) := by
  have L := hid hl
  have R := hid hr
  have PG := hid hp
  clear hl hr hp
  have b0 := bnew w (.cells #[.slice A n c, .slice B m e0] 26)
  have c0 := heap_alloc_new w (.cells #[.slice A n c, .slice B m e0] 26)
  have z0 : (w.alloc (.cells #[.slice A n c, .slice B m e0] 26)).heap.size = w.heap.size + 1 := by simp
  have B0 := hid b0
  have C0 := hid c0
  have Z0 := hid z0
  clear b0 c0 z0
  refine (callsIn_wide (n := 9)).1 (callsIn_of_wp_marks Try.func20 rfl trivial (wpIn_wide.2 ?_) rfl)
  simp only [Try.ntmps20, List.size_toArray, List.length_cons, List.length_nil, Nat.reduceAdd, Nat.reduceSub, Array.replicate_succ, Array.replicate_zero, List.push_toArray, List.append_toArray, List.nil_append, List.cons_append]
  go_wp2_with fail
  refine (modelAndPage_any A B C n c m e0 q d 0 l r page _ (L.out.bl B0.out) (R.out.bl B0.out) (PG.out.bl B0.out)).mono ?_
  rintro e w1 ⟨rfl, hb1⟩
  have B1 := hid (btr B0.out hb1)
  have cc := (hb1.block w.heap.size (by rw [Z0.out]; omega)).trans C0.out
  have hz1 := hb1.size
  rw [Z0.out] at hz1
  have hz2 : w.heap.size < w1.heap.size := by omega
  have hz3 : w.heap.size < w1.heap.size + 1 := by omega
  have hz4 : w.heap.size < w1.heap.size + 1 + 1 := by omega
  have CC := hid cc
  obtain ⟨k1, k2, _, _⟩ := at_get' cc
  clear hb1 cc
  by_cases hok : bothOk l r page = true
  case neg =>
    have hok' : bothOk l r page = false := by simpa using hok
    have HF := hid (show bestV l r page = none by simp [bestV, hok'])
    rw [hok']
    clear hok
    go_wp2_with fail
    exact ⟨.tuple #[.slice none 0 0, .bool false], by simp [results, Try.results20, go_sem], RetIB.of (by rw [HF.out]; rfl) (by rw [HF.out]; rfl) rfl OwnR.nil0 B1.out⟩
  case pos =>
  rw [hok]
  have HOK := hid hok
  clear hok
  go_wp2_with fail
  refine (keeper_any w1).mono ?_
  rintro e w3 ⟨rfl, rfl⟩
  go_wp2_with fail
  refine (readings_any _ _ _ _ _ _ _ _ _ _).mono ?_
  rintro e w4 ⟨rfl, rfl⟩
  go_wp2_with fail
  have hfive := five_new w1 (.cells #[.slice none 0 0] 23) (.cells #[.int .i64 (-1)] 3) (.cells #[.func (.func 81) #[] #[.pointer (some ⟨w1.heap.size + 1, 0, none⟩), .pointer (some ⟨w1.heap.size, 0, none⟩)]] 68) (.cells #[.slice A n c, .slice B m e0] 26) (.cells #[.slice C q d] 24)
  obtain ⟨v1, v2, v3, v4, v5, zz, hbb⟩ := hfive
  have u0 := (hbb.block _ hz2).trans CC.out
  have hbw := btr B1.out hbb
  generalize ((((w1.alloc (.cells #[.slice none 0 0] 23)).alloc (.cells #[.int .i64 (-1)] 3)).alloc (.cells #[.func (.func 81) #[] #[.pointer (some ⟨w1.heap.size + 1, 0, none⟩), .pointer (some ⟨w1.heap.size, 0, none⟩)]] 68)).alloc (.cells #[.slice A n c, .slice B m e0] 26)).alloc (.cells #[.slice C q d] 24) = w5 at *
  obtain ⟨bb, ebb⟩ : ∃ x, w1.heap.size = x := ⟨_, rfl⟩
  rw [ebb] at v1 v2 v3 v4 v5 zz hz2 hz3 hz4 hz1 ⊢
  obtain ⟨gb, egb⟩ : ∃ x, bb + 1 = x := ⟨_, rfl⟩
  rw [egb] at v2 v3 hz3 hz4 ⊢
  obtain ⟨ob, eob⟩ : ∃ x, gb + 1 = x := ⟨_, rfl⟩
  have eob2 : bb + 2 = ob := by omega
  rw [eob2] at v3
  rw [eob] at hz4 ⊢
  obtain ⟨mb, emb⟩ : ∃ x, ob + 1 = x := ⟨_, rfl⟩
  have emb2 : bb + 3 = mb := by omega
  rw [emb2] at v4
  rw [emb]
  obtain ⟨pb, epb⟩ : ∃ x, mb + 1 = x := ⟨_, rfl⟩
  have epb2 : bb + 4 = pb := by omega
  rw [epb2] at v5
  rw [epb]
  have hord : w.heap.size < bb ∧ bb < gb ∧ gb < ob ∧ ob < mb ∧ mb < pb ∧ pb < w5.heap.size := by omega
  obtain ⟨o1, o2, o3, o4, o5, o6⟩ := hord
  have HN1 := hid (show bb + 3 = mb from emb2)
  have HBW := hid hbw
  have HBI : Hid (∀ b, w5.heap.size + 2 ≤ b → BestI bb gb ob b w5.heap.size w (.cells #[.slice A n c, .slice B m e0] 26 (0, 0)) (none, -1) w5) := hid fun b hb => ⟨⟨none, 0, v1, OwnR.nil0, fun k hk => by cases hk⟩, v2, v3, u0, hbw⟩
  have HF := hid (bestV_fold HOK.out)
  have L0 := L
  have R0 := R
  have hq8 : q ≤ 8 := by rw [PG.out.1]; exact (pageOk_yes (bothOk_yes HOK.out).2).1
  have hnl := hid L.out.1
  clear ebb egb eob eob2 emb emb2 epb epb2 zz hbb hbw u0 k1 k2 v1 v2 v3
  refine wp_rangeFunc_chg (gf := 77) (lb := #[.pointer (some ⟨pb, 0, none⟩), .pointer (some ⟨mb, 0, none⟩)]) rfl (enters_of Try.func77 (by kernel_rfl) rfl)
    (readings_seq w.heap.size (bb + 3) mb pb A n c B m e0 C q d l r page w5 (L.out.below HBW.out (Nat.le_refl _)) (R.out.below HBW.out (Nat.le_refl _)) (PG.out.below HBW.out (Nat.le_refl _)) v4 v5 HOK.out (by omega) (by have := HN1.out; omega) (by have := HN1.out; omega)) (by have := HN1.out; omega)
    (fun b x X X' hb h hc => ⟨h.1.kept (hc.block b h.1.lt (by omega)), h.2⟩)
    (fun b pre W => BestI bb gb ob b w5.heap.size w (.cells #[.slice A n c, .slice B m e0] 26 (0, 0)) (pre.foldl (bestStep l r) (none, -1)) W) (fun _ _ _ _ => False)
    (fun b s X X' hb h hc => h.chg hc (by omega) (by omega) (by omega) hb (by omega))
    (fun _ _ _ _ _ _ h _ => h) (fun b hb => HBI.out b hb)
    (fun b => { tmps := #[.agg #[.slice A n c, .slice B m e0], .slice C q d, .pointer (some ⟨w.heap.size, 0, none⟩), undef, .slice none 0 0, .bool false, .pointer (some ⟨ob, 0, none⟩), .func (.func 82) #[] #[.pointer (some ⟨bb, 0, none⟩), .pointer (some ⟨gb, 0, none⟩)], .slice (some ⟨b, 0, none⟩) q q, .agg #[.slice A n c, .slice B m e0], .slice C q d, .bool true, .bool false, .tuple #[.func (.func 81) #[] #[.pointer (some ⟨gb, 0, none⟩), .pointer (some ⟨bb, 0, none⟩)], .func (.func 82) #[] #[.pointer (some ⟨bb, 0, none⟩), .pointer (some ⟨gb, 0, none⟩)]], .tuple #[.func (.func 81) #[] #[.pointer (some ⟨gb, 0, none⟩), .pointer (some ⟨bb, 0, none⟩)], .func (.func 82) #[] #[.pointer (some ⟨bb, 0, none⟩), .pointer (some ⟨gb, 0, none⟩)]], .func (.func 81) #[] #[.pointer (some ⟨gb, 0, none⟩), .pointer (some ⟨bb, 0, none⟩)], .func (.func 82) #[] #[.pointer (some ⟨bb, 0, none⟩), .pointer (some ⟨gb, 0, none⟩)], .agg #[.slice A n c, .slice B m e0], .slice C q d, .func (.func 77) #[] #[.pointer (some ⟨pb, 0, none⟩), .pointer (some ⟨mb, 0, none⟩)], .slice (some ⟨b, 0, none⟩) q q, undef, undef, undef, undef, undef, undef, undef, undef, undef, undef], defers := [] }) ?assign ?body ?done ?stop
  case assign =>
    intro l' b W K hK
    gi_wp2_with fail
    exact hK
  case body =>
    rintro l' b pre x W hb - hBI ⟨hr1, hr2⟩ hpre
    obtain ⟨s, hs⟩ : ∃ s, pre.foldl (bestStep l r) (none, -1) = s := ⟨_, rfl⟩
    have hfs : (pre ++ [x]).foldl (bestStep l r) (none, -1) = bestStep l r s x := by rw [List.foldl_append, hs]; rfl
    rw [hs] at hBI
    have HB := hid hBI
    have HFS := hid hfs
    have hrd := hr1.rd PG.out.2.1
    rw [hr2] at hrd
    have HRD := hid hrd
    have HR2 := hid hr2
    have hbl := hr1.lt
    have hzW := hBI.bl.size
    have hxr : x ∈ readsOf l r page [] := by
      obtain ⟨t, ht⟩ := hpre
      rw [← ht]; simp
    have hcan : canRead l r page (-1) x := (reads_mem (pre := []) (xs := x)).1 (by rw [List.nil_append]; exact hxr)
    have HSX := hid (show sumW l r (-1) 0 x = wsum l r (-1) x by rw [sumW_can hcan]; simp)
    have HXN := hid (show ∀ y ∈ x, 0 ≤ y ∧ y < (n : Int) from by
      rw [hnl.out]
      exact can_bd (fun p hp => ((pageOk_yes (bothOk_yes HOK.out).2).2 p hp).2) hcan)
    clear hBI hfs hs hr1 hr2 hpre hrd hxr hcan
    gi_wp2_with fail
    refine wpIn_region_invG (by kernel_rfl) (by kernel_rfl) (fun L a X => ∃ (v21 v22 v23 v24 v25 v26 : Value), a = { tmps := #[.agg #[.slice A n c, .slice B m e0], .slice C q d, .pointer (some ⟨w.heap.size, 0, none⟩), undef, .slice none 0 0, .bool false, .pointer (some ⟨ob, 0, none⟩), .func (.func 82) #[] #[.pointer (some ⟨bb, 0, none⟩), .pointer (some ⟨gb, 0, none⟩)], .slice (some ⟨b, 0, none⟩) q q, .agg #[.slice A n c, .slice B m e0], .slice C q d, .bool true, .bool false, .tuple #[.func (.func 81) #[] #[.pointer (some ⟨gb, 0, none⟩), .pointer (some ⟨bb, 0, none⟩)], .func (.func 82) #[] #[.pointer (some ⟨bb, 0, none⟩), .pointer (some ⟨gb, 0, none⟩)]], .tuple #[.func (.func 81) #[] #[.pointer (some ⟨gb, 0, none⟩), .pointer (some ⟨bb, 0, none⟩)], .func (.func 82) #[] #[.pointer (some ⟨bb, 0, none⟩), .pointer (some ⟨gb, 0, none⟩)]], .func (.func 81) #[] #[.pointer (some ⟨gb, 0, none⟩), .pointer (some ⟨bb, 0, none⟩)], .func (.func 82) #[] #[.pointer (some ⟨bb, 0, none⟩), .pointer (some ⟨gb, 0, none⟩)], .agg #[.slice A n c, .slice B m e0], .slice C q d, .func (.func 77) #[] #[.pointer (some ⟨pb, 0, none⟩), .pointer (some ⟨mb, 0, none⟩)], .slice (some ⟨b, 0, none⟩) q q, v21, v22, v23, v24, v25, v26, undef, undef, undef, undef], defers := [] } ∧
      (L 0 = true → v21 = .func (.func 81) #[] #[.pointer (some ⟨gb, 0, none⟩), .pointer (some ⟨bb, 0, none⟩)]) ∧ (L 1 = true → v22 = .slice (some ⟨b, 0, none⟩) q q) ∧ (L 2 = true → v23 = .agg #[.slice A n c, .slice B m e0]) ∧ (L 3 = true → v24 = .slice (some ⟨b, 0, none⟩) q q) ∧ (L 4 = true → v25 = .int .i64 (wsum l r (-1) x)) ∧
      (L 4 = true → L 2 = true) ∧ (L 5 = true → L 0 = true ∧ L 4 = true) ∧ (L 5 = false → Chg (fun _ => False) W X) ∧ (L 5 = true → ∃ Y, Chg (fun _ => False) W Y ∧ OfferP gb bb q x (wsum l r (-1) x) s.2 Y X)) ?_ ⟨?_, ?_, ?_, ?_, ?_, ?_, trivial⟩ ?_
    · exact ⟨undef, undef, undef, undef, undef, undef, rfl, fun h => (by cases h), fun h => (by cases h), fun h => (by cases h), fun h => (by cases h), fun h => (by cases h), fun h => (by cases h), fun h => (by cases h), fun _ => (Chg.refl _ _).drew', fun h => (by cases h)⟩
    · rintro L a X K0 ⟨v21, v22, v23, v24, v25, v26, rfl, hI⟩ hL hd hK
      have HI := hid hI
      clear hI
      have n5 : L 5 = false := by cases h : L 5 with | false => rfl | true => exact absurd (((HI.out.2.2.2.2.2.2.1) h).1) (by rw [hL]; decide)
      have q1 := (cell_one' ((((HI.out.2.2.2.2.2.2.2.1) n5).block ob (Array.getElem?_eq_some_iff.1 HB.out.off).1 (fun h => h)).trans HB.out.off)).1
      clear hd
      refine ⟨rfl, ?_⟩
      go_simp
      exact hK _ _ ⟨_, _, _, _, _, _, rfl, fun _ => rfl, (HI.out.2.1), (HI.out.2.2.1), (HI.out.2.2.2.1), (HI.out.2.2.2.2.1), (HI.out.2.2.2.2.2.1), fun h => ⟨rfl, ((HI.out.2.2.2.2.2.2.1) h).2⟩, (HI.out.2.2.2.2.2.2.2.1), (HI.out.2.2.2.2.2.2.2.2)⟩
    · rintro L a X K0 ⟨v21, v22, v23, v24, v25, v26, rfl, hI⟩ hL hd hK
      have HI := hid hI
      clear hI
      clear hd
      refine ⟨rfl, ?_⟩
      go_simp
      exact hK _ _ ⟨_, _, _, _, _, _, rfl, (HI.out.1), fun _ => rfl, (HI.out.2.2.1), (HI.out.2.2.2.1), (HI.out.2.2.2.2.1), (HI.out.2.2.2.2.2.1), (HI.out.2.2.2.2.2.2.1), (HI.out.2.2.2.2.2.2.2.1), (HI.out.2.2.2.2.2.2.2.2)⟩
    · rintro L a X K0 ⟨v21, v22, v23, v24, v25, v26, rfl, hI⟩ hL hd hK
      have HI := hid hI
      clear hI
      have n5 : L 5 = false := by cases h : L 5 with | false => rfl | true => exact absurd ((HI.out.2.2.2.2.2.1) ((HI.out.2.2.2.2.2.2.1) h).2) (by rw [hL]; decide)
      obtain ⟨q1, q2, _, _⟩ := at_get' ((((HI.out.2.2.2.2.2.2.2.1) n5).block w.heap.size (Array.getElem?_eq_some_iff.1 HB.out.mod).1 (fun h => h)).trans HB.out.mod)
      clear hd
      refine ⟨rfl, ?_⟩
      go_simp
      exact hK _ _ ⟨_, _, _, _, _, _, rfl, (HI.out.1), (HI.out.2.1), fun _ => rfl, (HI.out.2.2.2.1), (HI.out.2.2.2.2.1), fun h => rfl, (HI.out.2.2.2.2.2.2.1), (HI.out.2.2.2.2.2.2.2.1), (HI.out.2.2.2.2.2.2.2.2)⟩
    · rintro L a X K0 ⟨v21, v22, v23, v24, v25, v26, rfl, hI⟩ hL hd hK
      have HI := hid hI
      clear hI
      clear hd
      refine ⟨rfl, ?_⟩
      go_simp
      exact hK _ _ ⟨_, _, _, _, _, _, rfl, (HI.out.1), (HI.out.2.1), (HI.out.2.2.1), fun _ => rfl, (HI.out.2.2.2.2.1), (HI.out.2.2.2.2.2.1), (HI.out.2.2.2.2.2.2.1), (HI.out.2.2.2.2.2.2.2.1), (HI.out.2.2.2.2.2.2.2.2)⟩
    · rintro L a X K0 ⟨v21, v22, v23, v24, v25, v26, rfl, hI⟩ hL hd hK
      have HI := hid hI
      clear hI
      have d2 := hd ⟨2, .data⟩ (by simp) rfl
      obtain rfl := (HI.out.2.2.1) d2
      obtain rfl := (HI.out.2.2.2.1) (hd ⟨3, .data⟩ (by simp) rfl)
      have n5 : L 5 = false := by cases h : L 5 with | false => rfl | true => exact absurd (((HI.out.2.2.2.2.2.2.1) h).2) (by rw [hL]; decide)
      have hcx := (HI.out.2.2.2.2.2.2.2.1) n5
      have hcs := hcx.size
      have hsum := sum_any A B (some ⟨b, 0, none⟩) n c m e0 q q 0 l r x X (((L0.out.below HB.out.bl (Nat.le_refl _)).chg hcx HB.out.bl.size (fun k hk => hk.elim)).wide (Nat.le_refl _) (by omega)) (((R0.out.below HB.out.bl (Nat.le_refl _)).chg hcx HB.out.bl.size (fun k hk => hk.elim)).wide (Nat.le_refl _) (by omega)) ((HRD.out.chg hcx (Nat.le_refl _) (fun k hk => hk.elim)).wide (Nat.le_refl _) (by omega)) (Nat.le_refl _) (bothOk_yes HOK.out).1 HXN.out hq8
      clear hd
      refine ⟨rfl, ?_⟩
      go_simp
      refine ⟨trivial, ?_⟩
      refine (CallsIn.inRound l' (callsIn_wide.2 hsum)).mono ?_
      rintro e w2 ⟨rfl, hb2⟩
      have hc2 : Chg (fun _ => False) X w2 := ⟨hb2.os, hb2.tape, hb2.output, hb2.size, fun k hk _ => hb2.block k hk⟩
      exact hK _ _ ⟨_, _, _, _, _, _, rfl, (HI.out.1), (HI.out.2.1), (HI.out.2.2.1), (HI.out.2.2.2.1), fun _ => by rw [HSX.out], fun _ => d2, fun h => ⟨((HI.out.2.2.2.2.2.2.1) h).1, rfl⟩, fun _ => hcx.trans hc2, fun h => absurd h (by rw [show updL L 4 5 = L 5 from rfl, n5]; decide)⟩
    · rintro L a X K0 ⟨v21, v22, v23, v24, v25, v26, rfl, hI⟩ hL hd hK
      have HI := hid hI
      clear hI
      have d0 := hd ⟨0, .data⟩ (by simp) rfl
      have d4 := hd ⟨4, .data⟩ (by simp) rfl
      obtain rfl := (HI.out.1) d0
      obtain rfl := (HI.out.2.1) (hd ⟨1, .data⟩ (by simp) rfl)
      obtain rfl := (HI.out.2.2.2.2.1) d4
      have hcx := (HI.out.2.2.2.2.2.2.2.1) hL
      have hcs := hcx.size
      obtain ⟨A', c', r1, r2, r3⟩ := HB.out.row
      have hoff := offer_any gb bb b q q x (wsum l r (-1) x) s.2 _ X ((hcx.block gb (Array.getElem?_eq_some_iff.1 HB.out.gr).1 (fun h => h)).trans HB.out.gr) ((hcx.block bb (Array.getElem?_eq_some_iff.1 r1).1 (fun h => h)).trans r1) rfl (by omega) ((HRD.out.chg hcx (Nat.le_refl _) (fun k hk => hk.elim)).wide (Nat.le_refl _) hcs) (by omega)
      clear hd r1 r2 r3
      refine ⟨rfl, ?_⟩
      go_simp
      refine ⟨trivial, ?_⟩
      refine (CallsIn.inRound l' (callsIn_wide.2 hoff)).mono ?_
      rintro e w2 ⟨⟨u, rfl⟩, ho⟩
      exact hK _ _ ⟨_, _, _, _, _, _, rfl, (HI.out.1), (HI.out.2.1), (HI.out.2.2.1), (HI.out.2.2.2.1), (HI.out.2.2.2.2.1), (HI.out.2.2.2.2.2.1), fun _ => ⟨d0, d4⟩, fun h => (by cases h), fun _ => ⟨X, hcx, ho⟩⟩
    · rintro L a X hLL ⟨v21, v22, v23, v24, v25, v26, rfl, hI⟩
      obtain ⟨Y, hcy, ho⟩ := hI.2.2.2.2.2.2.2.2 (hLL 5 (by simp))
      have HI := hid (And.intro hcy ho)
      clear hI hLL hcy ho
      gi_wp2_with fail
      obtain ⟨hcy, ho⟩ := HI.out
      have hBY : BestI bb gb ob b w5.heap.size w (.cells #[.slice A n c, .slice B m e0] 26 (0, 0)) s Y := HB.out.chg (hcy.wide fun k hk => hk.elim) (by omega) (by omega) (by omega) hb (by omega)
      show Chg (rng w.heap.size (bb + 3)) W X ∧ BestI bb gb ob b w5.heap.size w (.cells #[.slice A n c, .slice B m e0] 26 (0, 0)) ((pre ++ [x]).foldl (bestStep l r) (none, -1)) X
      rw [HFS.out]
      rcases ho with ⟨hlt, A', d', h1, h2, h3, h4⟩ | ⟨hge, rfl⟩
      · have hst : bestStep l r s x = (some x, wsum l r (-1) x) := by unfold bestStep; rw [if_pos hlt]
        rw [hst]
        have hn : ∀ k, k ≠ gb → k ≠ bb → ¬ (k = gb ∨ k = bb) := fun k a1 a2 a3 => by omega
        have hyz := hcy.size
        refine ⟨(hcy.wide fun k hk => hk.elim).trans (h4.wide fun k hk => ?_), ⟨⟨A', d', by show X.heap[bb]? = some (.cells #[.slice A' x.length d'] 23 (0, 0)); rw [HR2.out]; exact h1, ?_, fun k hk => ?_⟩, h2, (h4.block ob (Array.getElem?_eq_some_iff.1 hBY.off).1 (hn _ (by omega) (by omega))).trans hBY.off, (h4.block _ (Array.getElem?_eq_some_iff.1 hBY.mod).1 (hn _ (by omega) (by omega))).trans hBY.mod, hBY.bl.trans (h4.below hBY.bl.size fun k hk => by omega)⟩⟩
        · show w.heap.size ≤ k ∧ k < bb + 3
          have := HN1.out
          omega
        · show OwnR intS w.heap.size X 3 (.slice A' x.length d') x
          rw [HR2.out]
          exact h3.low hBY.bl.size
        · have hk' : (Value.slice A' x.length d').ownBlock = some k := hk
          rw [HR2.out] at hk'
          have := (h3.own_lt hk').1
          omega
      · have hst : bestStep l r s x = s := by unfold bestStep; rw [if_neg hge]
        rw [hst]
        exact ⟨hcy.wide fun k hk => hk.elim, hBY⟩
  case done =>
    rintro b W hb hBI hK
    obtain ⟨st, hst⟩ : ∃ st, (readsOf l r page []).foldl (bestStep l r) (none, -1) = st := ⟨_, rfl⟩
    rw [hst] at hBI
    have hF := HF.out
    rw [hst] at hF
    have HFF := hid hF
    obtain ⟨⟨A', c', r1, r2, r3⟩, gr, off, mod, bl⟩ := hBI
    have HOW := hid (And.intro r2 (And.intro bl hK))
    have HR3 := hid r3
    have HANS := hid fun X (hX : X.heap = W.heap) => answer_any gb bb st.2 (.slice A' (st.1.getD []).length c') X (by rw [hX]; exact gr) (by rw [hX]; exact r1)
    clear r1 r2 r3 gr off mod bl hK hst hF
    go_wp2_with fail
    refine (HANS.out W rfl).mono ?_
    rintro e w6 ⟨rfl, nn, rfl⟩
    go_wp2_with fail
    refine ⟨by simp, .inl ⟨_, _, rfl, run_takeDeferred (show (W.drewN nn).heap[w5.heap.size]? = some (.deferred (some [])) from HOW.out.2.2), ?_⟩⟩
    exact ⟨.tuple #[.slice A' (st.1.getD []).length c', .bool (decide (0 ≤ st.2))], by simp [results, Try.results20, go_sem], RetIB.of (by rw [← HFF.out.1]) HFF.out.2.symm rfl (HOW.out.1.flat intS_flat ((chg_drewN W nn).trans (chg_putObj _ _ _)) fun k hk h => by have := (HR3.out k hk).2; omega) (below_putObj _ (below_drewN HOW.out.2.1 _) (by omega))⟩
  case stop =>
    rintro _ b pre W _ _ h _
    exact h.elim
end Go.Proofs.Ytfjoininagdlcaa
