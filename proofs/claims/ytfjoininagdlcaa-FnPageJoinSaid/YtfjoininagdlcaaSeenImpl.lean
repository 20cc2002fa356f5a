/- PageSeen: what the program's function returns. -/
import Derived.Test.YtfjoininagdlcaaKeeper
import Derived.Test.YtfjoininagdlcaaSeenSpec
import Derived.Test.YtfjoininagdlcaaForce2
import Derived.Sort.LoopGhostIn
namespace Go.Proofs.Ytfjoininagdlcaa
open Go.RowKit Go.Shelf
attribute [local go_sem] Oper.semAt_some
theorem four_new (w : World) (o1 o2 o3 o4 : Obj) : ((((w.alloc o1).alloc o2).alloc o3).alloc o4).heap[w.heap.size]? = some o1 ∧ ((((w.alloc o1).alloc o2).alloc o3).alloc o4).heap[w.heap.size + 1]? = some o2 ∧ ((((w.alloc o1).alloc o2).alloc o3).alloc o4).heap[w.heap.size + 2]? = some o3 ∧ ((((w.alloc o1).alloc o2).alloc o3).alloc o4).heap[w.heap.size + 3]? = some o4 ∧ ((((w.alloc o1).alloc o2).alloc o3).alloc o4).heap.size = w.heap.size + 4 ∧ Below w.heap.size w ((((w.alloc o1).alloc o2).alloc o3).alloc o4) :=
  ⟨al_old (al_old (al_old (al_new o1 rfl))), al_old (al_old (al_new o2 (by simp))), al_old (al_new o3 (by simp)), al_new o4 (by simp), by simp, btr (btr (btr (bnew w o1) (bnew _ o2)) (bnew _ o3)) (bnew _ o4)⟩
/-- Which words stand where in these readings. -/
def seenAt (pre : List (List Int)) (i j : Nat) : Bool := pre.any fun t => eqD (gt t i) (j : Int)
theorem seenAt_snoc (pre : List (List Int)) (x : List Int) (i j : Nat) : seenAt (pre ++ [x]) i j = (seenAt pre i j || eqD (gt x i) (j : Int)) := by simp [seenAt]
/-- The cells of the array, as they stand in a round. -/
def StA (q : Nat) (f : Nat → Nat → Bool) (cur : Array Value) : Prop := cur.size = 48 ∧ ∀ i j, i < q → j < 6 → cur[i * 6 + j]? = some (.bool (f i j))
theorem StA.set {q : Nat} {f f' : Nat → Nat → Bool} {cur : Array Value} (h : StA q f cur) (hq : q ≤ 8) {k y : Nat} (hk : k < q) (hy : y < 6) (hf : ∀ i j, i < q → j < 6 → f' i j = if i = k ∧ j = y then true else f i j) : StA q f' (cur.setIfInBounds (k * 6 + y) (.bool true)) := by
  refine ⟨by simpa using h.1, fun i j hi hj => ?_⟩
  rw [Array.getElem?_setIfInBounds, hf i j hi hj]
  by_cases e : k * 6 + y = i * 6 + j
  · have e1 : i = k := by omega
    have e2 : j = y := by omega
    subst e1 e2
    rw [if_pos rfl, if_pos (by have := h.1; omega), if_pos ⟨rfl, rfl⟩]
  · rw [if_neg e, h.2 i j hi hj, if_neg (fun hh => e (by rw [hh.1, hh.2]))]
theorem StA.congr {q : Nat} {f f' : Nat → Nat → Bool} {cur : Array Value} (h : StA q f cur) (hf : ∀ i j, i < q → j < 6 → f' i j = f i j) : StA q f' cur := ⟨h.1, fun i j hi hj => by rw [hf i j hi hj]; exact h.2 i j hi hj⟩
theorem PreAt.cell {W : World} {b q : Nat} {pre : List Int} (h : PreAt W b q pre) {k : Nat} (hk : k < pre.length) : W.cell? ⟨b, k, none⟩ = some (.int .i64 (gt pre k)) := by
  obtain ⟨cur, h1, h2, h3, h4⟩ := h
  rw [cell_of_row W _ _ cur 3 (0, 0) h1]
  exact h4 k hk
/-- What is known of the array and of the flag. -/
structure SeenI (gs q : Nat) (w : World) (pre : List (List Int)) (W : World) : Prop where
  arr : ∃ cur : Array Value, W.heap[gs]? = some (.cells cur 73 (0, 0)) ∧ StA q (seenAt pre) cur
  flag : ∃ sv : Bool, W.heap[gs + 1]? = some (.cells #[.bool sv] 4 (0, 0)) ∧ (sv = true ↔ pre ≠ [])
  bl : Below w.heap.size w W
theorem SeenI.chg {gs q N b : Nat} {w : World} {pre : List (List Int)} {W W' : World} (h : SeenI gs q w pre W) (hc : Chg (notMine N b) W W') (h1 : gs + 1 < N) (h2 : w.heap.size ≤ N) (hb : N + 2 ≤ b) : SeenI gs q w pre W' := by
  obtain ⟨⟨cur, a1, a2⟩, ⟨sv, s1, s2⟩, bl⟩ := h
  have hn : ∀ k, k < N → ¬ notMine N b k := fun k hk h => by rcases h with h | h | h <;> omega
  exact ⟨⟨cur, (hc.block _ (Array.getElem?_eq_some_iff.1 a1).1 (hn _ (by omega))).trans a1, a2⟩, ⟨sv, (hc.block _ (Array.getElem?_eq_some_iff.1 s1).1 (hn _ h1)).trans s1, s2⟩, bl.trans (hc.below bl.size fun k hk => by rcases hk with h | h | h <;> omega)⟩
set_option maxRecDepth 100000 in
set_option maxHeartbeats 2000000 in
theorem implPageSeen_any (A B C : Option Addr) (n c m e0 q d : Nat) (l : List Int) (r page : List (List Int)) (w : World) (hl : Rd intS 0 w.heap.size w A n l) (hr : Rd (sliceS intS) 0 w.heap.size w B m r) (hp : Rd (sliceS intS) 0 w.heap.size w C q page) :
    Calls Try.prog 29 #[.agg #[.slice A n c, .slice B m e0], .slice C q d] w (RetRB w (seenV l r page)) := by
  have L := hid hl
  have R := hid hr
  have PG := hid hp
  have h63 := hp.2.1
  clear hl hr hp
  have b0 := bnew w (.cells #[.slice A n c, .slice B m e0] 26)
  have c0 := heap_alloc_new w (.cells #[.slice A n c, .slice B m e0] 26)
  have z0 : (w.alloc (.cells #[.slice A n c, .slice B m e0] 26)).heap.size = w.heap.size + 1 := by simp
  have B0 := hid b0
  have C0 := hid c0
  have Z0 := hid z0
  clear b0 c0 z0
  refine (callsIn_wide (n := 9)).1 (callsIn_of_wp_marks Try.func29 rfl trivial (wpIn_wide.2 ?_) rfl)
  simp only [Try.ntmps29, List.size_toArray, List.length_cons, List.length_nil, Nat.reduceAdd, Nat.reduceSub, Array.replicate_succ, Array.replicate_zero, List.push_toArray, List.append_toArray, List.nil_append, List.cons_append]
  go_wp2_with fail
  refine (modelAndPage_any A B C n c m e0 q d 0 l r page _ (L.out.bl B0.out) (R.out.bl B0.out) (PG.out.bl B0.out)).mono ?_
  rintro e w1 ⟨rfl, hb1⟩
  have B1 := hid (btr B0.out hb1)
  have cc := (hb1.block w.heap.size (by rw [Z0.out]; omega)).trans C0.out
  have hz1 := hb1.size
  rw [Z0.out] at hz1
  have hz2 : w.heap.size < w1.heap.size := by omega
  have hz3 : w.heap.size < w1.heap.size + 1 := by omega
  have CC := hid cc
  obtain ⟨k1, k2, _, _⟩ := at_get' cc
  clear hb1 cc
  by_cases hok : bothOk l r page = true
  case neg =>
    have hok' : bothOk l r page = false := by simpa using hok
    have HF := hid (show seenV l r page = none by simp [seenV, hok'])
    rw [hok']
    clear hok
    go_wp2_with fail
    exact ⟨.tuple #[.slice none 0 0, .bool false], by simp [results, Try.results29, go_sem], RetRB.of (xs := []) (rs := []) (by rw [HF.out]; rfl) (by rw [HF.out]; rfl) rfl NestR.nil0 rfl B1.out⟩
  case pos =>
  rw [hok]
  have HOK := hid hok
  clear hok
  go_wp2_with fail
  refine (readings_any _ _ _ _ _ _ _ _ _ _).mono ?_
  rintro e w4 ⟨rfl, rfl⟩
  go_wp2_with fail
  have hfour := four_new w1 (.cells #[.bool false, .bool false, .bool false, .bool false, .bool false, .bool false, .bool false, .bool false, .bool false, .bool false, .bool false, .bool false, .bool false, .bool false, .bool false, .bool false, .bool false, .bool false, .bool false, .bool false, .bool false, .bool false, .bool false, .bool false, .bool false, .bool false, .bool false, .bool false, .bool false, .bool false, .bool false, .bool false, .bool false, .bool false, .bool false, .bool false, .bool false, .bool false, .bool false, .bool false, .bool false, .bool false, .bool false, .bool false, .bool false, .bool false, .bool false, .bool false] 73) (.cells #[.bool false] 4) (.cells #[.slice A n c, .slice B m e0] 26) (.cells #[.slice C q d] 24)
  obtain ⟨v1, v2, v3, v4, zz, hbb⟩ := hfour
  have hbw := btr B1.out hbb
  generalize (((w1.alloc (.cells #[.bool false, .bool false, .bool false, .bool false, .bool false, .bool false, .bool false, .bool false, .bool false, .bool false, .bool false, .bool false, .bool false, .bool false, .bool false, .bool false, .bool false, .bool false, .bool false, .bool false, .bool false, .bool false, .bool false, .bool false, .bool false, .bool false, .bool false, .bool false, .bool false, .bool false, .bool false, .bool false, .bool false, .bool false, .bool false, .bool false, .bool false, .bool false, .bool false, .bool false, .bool false, .bool false, .bool false, .bool false, .bool false, .bool false, .bool false, .bool false] 73)).alloc (.cells #[.bool false] 4)).alloc (.cells #[.slice A n c, .slice B m e0] 26)).alloc (.cells #[.slice C q d] 24) = w5 at *
  obtain ⟨gs, egs⟩ : ∃ x, w1.heap.size = x := ⟨_, rfl⟩
  rw [egs] at v1 v2 v3 v4 zz hz2 hz3 hz1 ⊢
  have hq8 : q ≤ 8 := by rw [PG.out.1]; exact (pageOk_yes (bothOk_yes HOK.out).2).1
  have hst0 : StA q (seenAt []) #[.bool false, .bool false, .bool false, .bool false, .bool false, .bool false, .bool false, .bool false, .bool false, .bool false, .bool false, .bool false, .bool false, .bool false, .bool false, .bool false, .bool false, .bool false, .bool false, .bool false, .bool false, .bool false, .bool false, .bool false, .bool false, .bool false, .bool false, .bool false, .bool false, .bool false, .bool false, .bool false, .bool false, .bool false, .bool false, .bool false, .bool false, .bool false, .bool false, .bool false, .bool false, .bool false, .bool false, .bool false, .bool false, .bool false, .bool false, .bool false] := ⟨rfl, fun i j hi hj => by
    have hlt : i * 6 + j < 48 := by omega
    have : ∀ x : Nat, x < 48 → (#[.bool false, .bool false, .bool false, .bool false, .bool false, .bool false, .bool false, .bool false, .bool false, .bool false, .bool false, .bool false, .bool false, .bool false, .bool false, .bool false, .bool false, .bool false, .bool false, .bool false, .bool false, .bool false, .bool false, .bool false, .bool false, .bool false, .bool false, .bool false, .bool false, .bool false, .bool false, .bool false, .bool false, .bool false, .bool false, .bool false, .bool false, .bool false, .bool false, .bool false, .bool false, .bool false, .bool false, .bool false, .bool false, .bool false, .bool false, .bool false] : Array Value)[x]? = some (.bool false) := by
      intro x hx
      have h2 : (#[.bool false, .bool false, .bool false, .bool false, .bool false, .bool false, .bool false, .bool false, .bool false, .bool false, .bool false, .bool false, .bool false, .bool false, .bool false, .bool false, .bool false, .bool false, .bool false, .bool false, .bool false, .bool false, .bool false, .bool false, .bool false, .bool false, .bool false, .bool false, .bool false, .bool false, .bool false, .bool false, .bool false, .bool false, .bool false, .bool false, .bool false, .bool false, .bool false, .bool false, .bool false, .bool false, .bool false, .bool false, .bool false, .bool false, .bool false, .bool false] : Array Value) = Array.replicate 48 (.bool false) := rfl
      rw [h2, Array.getElem?_replicate, if_pos hx]
    exact this _ hlt⟩
  have HBI : Hid (∀ b, w5.heap.size + 2 ≤ b → SeenI gs q w [] w5) := hid fun b hb => ⟨⟨_, v1, hst0⟩, ⟨false, v2, by simp⟩, hbw⟩
  have HBW := hid hbw
  have HZZ := hid zz
  have hnl := hid L.out.1
  have hn6 : l.length ≤ 6 := (modelOk_yes (bothOk_yes HOK.out).1).2.1
  clear v1 v2 hst0 hbw hbb zz k1 k2 egs
  refine wp_rangeFunc_chg (gf := 77) (lb := #[.pointer (some ⟨gs + 1 + 1 + 1, 0, none⟩), .pointer (some ⟨gs + 1 + 1, 0, none⟩)]) rfl (enters_of Try.func77 (by kernel_rfl) rfl)
    (readings_seq w.heap.size (gs + 2) (gs + 2) (gs + 3) A n c B m e0 C q d l r page w5 (L.out.below HBW.out (Nat.le_refl _)) (R.out.below HBW.out (Nat.le_refl _)) (PG.out.below HBW.out (Nat.le_refl _)) v3 v4 HOK.out (by omega) (by omega) (by omega)) (by rw [HZZ.out]; omega)
    (fun b x X X' hb h hc => ⟨h.1.kept (hc.block b h.1.lt (by omega)), h.2⟩)
    (fun b pre W => SeenI gs q w pre W) (fun _ _ _ _ => False)
    (fun b s X X' hb h hc => h.chg hc (by rw [HZZ.out]; omega) (by rw [HZZ.out]; omega) hb)
    (fun _ _ _ _ _ _ h _ => h) (fun b hb => HBI.out b hb)
    (fun b => { tmps := #[.agg #[.slice A n c, .slice B m e0], .slice C q d, .pointer (some ⟨w.heap.size, 0, none⟩), undef, .slice none 0 0, .bool false, .pointer (some ⟨gs, 0, none⟩), .pointer (some ⟨gs + 1, 0, none⟩), .slice (some ⟨b, 0, none⟩) q q, undef, undef, undef, undef, undef, undef, undef, undef, .agg #[.slice A n c, .slice B m e0], .slice C q d, .bool true, .bool false, .agg #[.slice A n c, .slice B m e0], .slice C q d, .func (.func 77) #[] #[.pointer (some ⟨gs + 1 + 1 + 1, 0, none⟩), .pointer (some ⟨gs + 1 + 1, 0, none⟩)], .slice (some ⟨b, 0, none⟩) q q, undef, undef, undef, undef, undef, undef, undef, undef, undef, undef, undef, undef, undef, undef, undef, undef, undef, undef, undef, undef, undef, undef, undef, undef, undef, undef, undef, undef, undef, undef, undef, undef, undef, undef, undef, undef, undef, undef, undef, undef, undef, undef, undef, undef, undef], defers := [] }) ?assign ?body ?done ?stop
  case assign =>
    intro l' b W K hK
    gi_wp2_with fail
    exact hK
  case body =>
    rintro l' b pre x W hb - hI ⟨hr1, hr2⟩ hpre
    obtain ⟨⟨cur, a1, a2⟩, ⟨sv, s1, s2⟩, bl⟩ := hI
    have hxr : x ∈ readsOf l r page [] := by
      obtain ⟨t, ht⟩ := hpre
      rw [← ht]; simp
    have hcan : canRead l r page (-1) x := (reads_mem (pre := []) (xs := x)).1 (by rw [List.nil_append]; exact hxr)
    have HXN := hid (show ∀ y ∈ x, 0 ≤ y ∧ y < (l.length : Int) from can_bd (fun p hp => ((pageOk_yes (bothOk_yes HOK.out).2).2 p hp).2) hcan)
    obtain ⟨k0, f0⟩ := cell_one' s1
    have hset := heap_setCell_same W (gs + 1) 0 _ 4 (.bool true) s1
    have hoth : (W.setCell ⟨gs + 1, 0, none⟩ (.bool true)).heap[gs]? = W.heap[gs]? := set_other (by omega)
    have HC1 := hid (show Chg (rng w.heap.size (gs + 2)) W (W.setCell ⟨gs + 1, 0, none⟩ (.bool true)) from (Chg.refl _ _).set (p := ⟨gs + 1, 0, none⟩) (show rng w.heap.size (gs + 2) (gs + 1) from ⟨by omega, by omega⟩) _)
    have HS := hid hset
    have HA := hid (And.intro (hoth.trans a1) a2)
    have HR := hid hr1
    have HR2 := hid hr2
    have HBL := hid bl
    clear hset hoth a1 a2 s1 s2 bl hr1 hr2 hpre hxr hcan
    gi_wp2_with fail
    gi_loopg [27] q (fun gk i wr => ∃ (k : Nat) (cur : Array Value), k + gk = q ∧ i = .int .i64 k ∧ wr.heap[gs]? = some (.cells cur 73 (0, 0)) ∧ StA q (fun i j => seenAt pre i j || (decide (i < k) && eqD (gt x i) (j : Int))) cur ∧ wr.heap[gs + 1]? = some (.cells #[.bool true] 4 (0, 0)) ∧ Chg (rng w.heap.size (gs + 2)) W wr)
    case atStart => exact ⟨0, cur, Nat.zero_add _, rfl, HA.out.1, HA.out.2.congr (fun i j _ _ => by simp), HS.out, HC1.out⟩
    case round =>
      obtain ⟨k, cur, hkg, rfl, a1, a2, s1, hc⟩ := hrel
      have HKG := hid hkg
      have HA2 := hid a2
      have HA1 := hid a1
      have HS1 := hid s1
      have HC := hid hc
      have hkq : k ≤ q := by omega
      have hpre := HR.out.kept (hc.block b HR.out.lt (fun h => by have := h.2; have := HZZ.out; omega))
      clear hkg s1 hc
      by_cases hlt : k < q
      case neg =>
        obtain rfl : k = q := by omega
        clear hpre a1 a2
        gi_wp2_with fail
        refine ⟨HC.out, ⟨_, HA1.out, HA2.out.congr fun i j hi hj => ?_⟩, ⟨true, HS1.out, by simp⟩, HBL.out.trans (HC.out.below HBL.out.size fun k hk => hk.1)⟩
        rw [seenAt_snoc, decide_eq_true hi, Bool.true_and]
      case pos =>
        have hki : (k : Int) < (q : Int) := by omega
        have hk8 : (k : Int) < 8 := by omega
        have cx := hpre.cell (k := k) (by rw [HR2.out]; exact hlt)
        obtain ⟨hy0, hy1⟩ := HXN.out (gt x k) (gt_mem (by rw [HR2.out]; exact hlt))
        obtain ⟨y, hy⟩ := Int.eq_ofNat_of_zero_le hy0
        rw [hy] at cx hy1
        have hy6 : (y : Int) < 6 := by omega
        have hy6n : y < 6 := by omega
        have hcc : wr.cell? ⟨gs, k * 6 + y, none⟩ = some (.bool (seenAt pre k y || (decide (k < k) && eqD (gt x k) (y : Int)))) := by
          rw [cell_of_row wr _ _ cur _ (0, 0) a1]
          exact a2.2 k y hlt hy6n
        have hcf := frozen_of_row wr gs (k * 6 + y) _ _ a1
        have HY := hid hy
        have HSET := hid (heap_setCell_same wr gs (k * 6 + y) _ 73 (.bool true) a1)
        clear hpre hy a1 a2 hy0 hy1
        gi_wp2_with fail
        gi_roundg (gk - 1)
        case measure => have := HKG.out; omega
        case rel =>
          refine ⟨k + 1, _, by have := HKG.out; omega, by go_num, HSET.out, HA2.out.set hq8 hlt hy6n (fun i j hi hj => ?_), (set_other (by omega)).trans HS1.out, HC.out.set (p := ⟨gs, k * 6 + y, none⟩) (show rng w.heap.size (gs + 2) gs from ⟨by omega, by omega⟩) _⟩
          by_cases e : i = k
          · subst e
            rw [HY.out, decide_eq_true (by omega : i < i + 1), decide_eq_false (by omega : ¬ i < i), Bool.true_and, Bool.false_and, Bool.or_false]
            by_cases e2 : j = y
            · subst e2
              rw [if_pos ⟨rfl, rfl⟩, eqD_self, Bool.or_true]
            · have : eqD (y : Int) (j : Int) = false := by rw [Bool.eq_false_iff]; intro h; rw [eqD_iff] at h; omega
              rw [if_neg (fun h => e2 h.2), this, Bool.or_false]
          · rw [if_neg (fun h => e h.1)]
            by_cases e3 : i < k
            · rw [decide_eq_true e3, decide_eq_true (by omega : i < k + 1)]
            · rw [decide_eq_false e3, decide_eq_false (by omega : ¬ i < k + 1)]
  case done =>
    rintro b W hb hI hK
    obtain ⟨⟨cur, a1, a2⟩, ⟨sv, s1, s2⟩, bl⟩ := hI
    have HV := hid (seenV_reads HOK.out)
    obtain ⟨k0, f0⟩ := cell_one' s1
    have HK := hid hK
    have HA := hid (And.intro a1 a2)
    have HBL := hid bl
    have HS2 := hid s2
    clear hK s1 a1 a2 bl s2
    have hgW : gs + 1 < W.heap.size := block_lt_of_cell k0
    cases sv with
    | false =>
      have hre : readsOf l r page [] = [] := by
        by_cases h : readsOf l r page [] = []
        · exact h
        · exact absurd (HS2.out.2 h) (by decide)
      have HN := hid (show seenV l r page = none by rw [HV.out, if_pos hre])
      clear hre
      go_wp2_with fail
      refine ⟨by simp, .inl ⟨_, _, rfl, run_takeDeferred HK.out, ?_⟩⟩
      exact ⟨.tuple #[.slice none 0 0, .bool false], by simp [results, Try.results29, go_sem], RetRB.of (xs := []) (rs := []) (by rw [HN.out]; rfl) (by rw [HN.out]; rfl) rfl NestR.nil0 rfl (below_putObj _ HBL.out (by have := HZZ.out; omega))⟩
    | true =>
      have HV2 := hid (show seenV l r page = some (seenL (standsR l r page) 0 page) by rw [HV.out, if_neg (HS2.out.1 rfl)])
      have hpg := (bothOk_yes HOK.out).2
      have HPG := hid (pageOk_yes hpg).2
      have HL6 := hid (pageOk_len hpg)
      have hqp := hid PG.out.1
      obtain ⟨j0, hj1, hy0, hy1, hy2⟩ := info_parts (show (Try.prog.info? 23).map (fun i => (i.zero, i.size, i.bytes)) = some (some (.slice none 0 0), 1, 24) by kernel_rfl)
      have HJ := hid (And.intro hj1 (And.intro hy0 (And.intro hy1 hy2)))
      clear hj1 hy0 hy1 hy2
      obtain ⟨i0, hi1, hz0, hz1', hz2'⟩ := info_parts (show (Try.prog.info? 3).map (fun i => (i.zero, i.size, i.bytes)) = some (some (.int .i64 0), 1, 8) by kernel_rfl)
      have HI0 := hid (And.intro hi1 (And.intro hz0 (And.intro hz1' hz2')))
      clear hi1 hz0 hz1' hz2' hpg
      have n1 : NestR W.heap.size (W.alloc (.cells #[] 23)).heap.size (W.alloc (.cells #[] 23)) 23 3 (.slice (some ⟨W.heap.size, 0, none⟩) 0 0) [] := NestR.nil (Nat.le_refl _) _ rfl
      have N1 := hid n1
      clear n1
      go_wp2_with fail
      go_loopg [11, 42] q (fun gk out i wr => ∃ (k : Nat) (rs : List RowD) (g d0 : Nat), k + gk = q ∧ i = .int .i64 k ∧ out = .slice (some ⟨g, 0, none⟩) rs.length d0 ∧ rs.length = k ∧ NestR W.heap.size wr.heap.size wr 23 3 (.slice (some ⟨g, 0, none⟩) rs.length d0) rs ∧ rs.map (·.2.2) = (seenL (standsR l r page) 0 page).take k ∧ Below W.heap.size W wr)
      case atStart => exact ⟨0, [], _, _, Nat.zero_add _, rfl, rfl, rfl, N1.out, rfl, bnew _ _⟩
      case round =>
        obtain ⟨k, rs, g, d0, hkg, rfl, rfl, hrl, hN, hls, hbr⟩ := hrel
        have HKG := hid hkg
        have HRL := hid hrl
        have HN := hid hN
        have HLS := hid hls
        have HB := hid hbr
        have hkq : k ≤ q := by omega
        have hrl8 : rs.length ≤ 8 := by omega
        have hwz := hbr.size
        clear hkg hrl hN hls hbr
        by_cases hlt : k < q
        case neg =>
          obtain rfl : k = q := by omega
          go_wp2_with fail
          refine ⟨by simp, .inl ⟨_, _, rfl, run_takeDeferred (show wr.heap[w5.heap.size]? = some (.deferred (some [])) from (HB.out.block _ (Array.getElem?_eq_some_iff.1 HK.out).1).trans HK.out), ?_⟩⟩
          have hklt := (Array.getElem?_eq_some_iff.1 HK.out).1
          refine ⟨.tuple #[.slice (some ⟨g, 0, none⟩) rs.length d0, .bool true], by simp [results, Try.results29, go_sem], RetRB.of (xs := seenL (standsR l r page) 0 page) (rs := rs) (by rw [HV2.out]; rfl) (by rw [HV2.out]; rfl) (by rw [HRL.out, seenL_len]; exact hqp.out) ?_ (by rw [HLS.out, List.take_of_length_le (by rw [seenL_len, hqp.out]; omega)]) (below_putObj _ (HBL.out.trans (HB.out.mono HBL.out.size)) (by have := HZZ.out; omega))⟩
          refine (NestR.keep (HN.out.low HBL.out.size) (chg_putObj _ _ _) (fun k hk h => ?_) (fun x hx h => ?_)).wide (by simp)
          · have := (HN.out.own.own_lt hk).1; omega
          · have := (HN.out.row x hx).1; omega
        case pos =>
          have hki : (k : Int) < (q : Int) := by omega
          have hk8 : (k : Int) < 8 := by omega
          have hkp : k < page.length := by rw [← hqp.out]; exact hlt
          obtain ⟨pb, off, rfl, _, hbb, hcx⟩ := PG.out.2.2 (by omega)
          obtain ⟨Ax, cx', cx0, _, rx⟩ := hcx.row hlt
          have cx := bcl HB.out (bcl HBL.out cx0)
          obtain ⟨p, hpe⟩ : ∃ p, gt page k = p := ⟨_, rfl⟩
          have HT := hid (take_gt (l := seenL (standsR l r page) 0 page) (k := k) (by rw [seenL_len]; exact hkp))
          have HGT := hid (show gt (seenL (standsR l r page) 0 page) k = p.filter (standsR l r page k) by rw [seenL_gt hkp, Nat.zero_add, hpe])
          have hp6 := HL6.out _ (gt_mem hkp)
          have hpb := HPG.out _ (gt_mem hkp)
          rw [hpe] at cx rx hp6 hpb
          have HRX := hid rx
          have HPB := hid hpb
          have hbz := HBL.out.size
          have hblt : pb < wr.heap.size := by omega
          clear rx hpb hpe hcx cx0
          have hca : wr.heap[gs]? = some (.cells cur 73 (0, 0)) := (HB.out.block gs (by omega)).trans HA.out.1
          have HCA := hid hca
          clear hca
          obtain ⟨wo, hwo⟩ : ∃ x : World, x = wr := ⟨_, rfl⟩
          subst hwo
          obtain ⟨go_, hgo⟩ : ∃ x : Nat, x = gk := ⟨_, rfl⟩
          subst hgo
          clear N1 k0 f0
          have ON0 := hid (OwnR.nil (S := intS) (base := wo.heap.size) (e := 3) (Nat.le_refl wo.heap.size) #[] rfl)
          go_wp2_with fail
          go_loopg [14, 50] p.length (fun gk words i wr => ∃ (j : Nat) (xs : List Int) (g2 d2 : Nat), j + gk = p.length ∧ i = .int .i64 j ∧ words = .slice (some ⟨g2, 0, none⟩) xs.length d2 ∧ xs = (p.take j).filter (standsR l r page k) ∧ OwnR intS wo.heap.size wr 3 (.slice (some ⟨g2, 0, none⟩) xs.length d2) xs ∧ Below wo.heap.size wo wr)
          case atStart => exact ⟨0, [], _, _, Nat.zero_add _, rfl, rfl, rfl, ON0.out, bnew _ _⟩
          case round =>
            obtain ⟨j, xs, g2, d2, hjg, rfl, rfl, hxs, hO, hb2⟩ := hrel
            have HJG := hid hjg
            have HXS := hid hxs
            have HO := hid hO
            have HB2 := hid hb2
            have hwz2 := hb2.size
            have hj : j ≤ p.length := by omega
            have hxl : xs.length ≤ 6 := by have h1 := List.length_filter_le (standsR l r page k) (p.take j); have h2 := List.length_take_le j p; rw [hxs]; omega
            clear hjg hxs hO
            by_cases hjn : j < p.length
            case neg =>
              obtain rfl : j = p.length := by omega
              have hra := (HO.out.rowAt (by omega)).2
              have HRA := hid hra.1
              have hg2 := hra.2
              have hxf : xs = p.filter (standsR l r page k) := by rw [HXS.out, List.take_length]
              have HXF := hid hxf
              clear hra hxf hb2
              go_wp2_with (at_builtin; refine wpList_append_row rfl (.tmp 64) (.tmp 66) _ rfl Try.underlying24 HJ.out (v := .slice (some ⟨g, 0, none⟩) rs.length d0) rfl rfl ((HN.out.bl HB2.out).al _) (r := (g2, d2, xs)) rfl rfl (heap_alloc_new _ _) (HRA.out.al _) (by omega) (HN.out.fresh hg2).1 (HN.out.fresh hg2).2 (by omega) (by simp; omega) (by simp; omega) ?_; intro A3 c3 w3 hN3 hc3 hg3)
              obtain ⟨g', rfl⟩ := hg3
              have HN3 := hid hN3
              have HB3 := hid (((HB.out.trans (HB2.out.mono hwz)).alloc (by omega) _).trans (hc3.below (by simp; omega) fun k hk => (HN.out.own.own_lt hk).1))
              clear hN3 hc3
              go_roundg (go_ - 1)
              case measure => have := HKG.out; omega
              case rel => exact ⟨k + 1, rs ++ [(g2, d2, xs)], g', c3, by have := HKG.out; omega, by go_num, by rw [List.length_append]; rfl, by rw [List.length_append, HRL.out]; rfl, by rw [List.length_append]; exact HN3.out, by rw [List.map_append, HLS.out, HT.out, HGT.out, ← HXF.out]; rfl, HB3.out⟩
            case pos =>
              have hji : (j : Int) < (p.length : Int) := by omega
              obtain ⟨bx, ox, rfl, _, hbx, hcx⟩ := HRX.out.2.2 (by omega)
              have ci := bcl hb2 (bcl HB.out (bcl HBL.out (hcx.int hjn)))
              obtain ⟨hx0, hxn⟩ := HPB.out.2 _ (gt_mem hjn)
              obtain ⟨y, hy⟩ := Int.eq_ofNat_of_zero_le hx0
              have HTJ := hid (take_gt (l := p) (k := j) hjn)
              rw [hy] at ci hxn
              have hy6 : (y : Int) < 6 := by omega
              have hy6n : y < 6 := by omega
              have hbx2 : bx < wr.heap.size := by omega
              obtain ⟨sb, hsb⟩ : ∃ sb, standsR l r page k (y : Int) = sb := ⟨_, rfl⟩
              have hca : wr.heap[gs]? = some (.cells cur 73 (0, 0)) := (hb2.block gs (by omega)).trans HCA.out
              have hcc : wr.cell? ⟨gs, k * 6 + y, none⟩ = some (.bool sb) := by
                rw [cell_of_row wr _ _ cur _ (0, 0) hca, HA.out.2.2 k y hlt hy6n, ← hsb]; rfl
              have hgl : gs < wr.heap.size := by omega
              have HXE := hid hy
              have HSB := hid hsb
              clear hcx hy hx0 hca hsb hb2
              cases sb with
              | true =>
                go_wp2_with (at_builtin; refine wpList_append_R rfl (.tmp 59) (.tmp 61) _ rfl intS Try.underlying23 HI0.out rfl (by decide) rfl (HO.out.al _) (y := (y : Int)) rfl (heap_alloc_new _ _) rfl (by simp [Value.oneCell']) rfl (by omega) (by omega) (by simp; omega) ?_; intro A2 c2 w6 hO4 hb4)
                obtain ⟨g', rfl, _⟩ := hO4.blk (by omega)
                have HO4 := hid hO4
                have HB5 := hid (Below.trans (bal HB2.out _) (hb4.mono (by simp)))
                clear hO4 hb4
                go_roundg (gk - 1)
                case measure => have := HJG.out; omega
                case rel => exact ⟨j + 1, xs ++ [(y : Int)], g', c2, by have := HJG.out; omega, by go_num, by rw [List.length_append]; rfl, by rw [HTJ.out, List.filter_append, ← HXS.out, HXE.out, List.filter_cons, HSB.out]; rfl, by rw [List.length_append]; exact HO4.out, HB5.out⟩
              | false =>
                go_wp2_with fail
                go_roundg (gk - 1)
                case measure => have := HJG.out; omega
                case rel => exact ⟨j + 1, xs, g2, d2, by have := HJG.out; omega, by go_num, rfl, by rw [HTJ.out, List.filter_append, ← HXS.out, HXE.out, List.filter_cons, HSB.out]; simp, HO.out, HB2.out⟩
  case stop =>
    rintro _ b pre W _ _ h _
    exact h.elim
end Go.Proofs.Ytfjoininagdlcaa
