/- PageSure: what the reference's and the program's functions return. -/
import Derived.Test.YtfjoininagdlcaaSeenImpl
namespace Go.Proofs.Ytfjoininagdlcaa
open Go.RowKit Go.Shelf
attribute [local go_sem] Oper.semAt_some
/-- Integers of the call's own. -/
def RetI (w : World) (xs : List Int) (e : Ending) (w' : World) : Prop :=
  ∃ A c, e = .returned (.slice A xs.length c) ∧ OwnR intS w.heap.size w' 3 (.slice A xs.length c) xs ∧ Below w.heap.size w w'
/-- The first rows of one word alone. -/
def sureR (rows : List (List Int)) (k : Nat) : List Int := ((List.range k).filter fun i => decide ((gt rows i).length = 1)).map fun i : Nat => (i : Int)
theorem sureR_succ (rows : List (List Int)) (k : Nat) : sureR rows (k + 1) = sureR rows k ++ (if (gt rows k).length = 1 then [(k : Int)] else []) := by
  unfold sureR
  rw [List.range_succ, List.filter_append, List.map_append]
  by_cases h : (gt rows k).length = 1
  · rw [if_pos h]; simp [h]
  · rw [if_neg h]; simp [h]
theorem sureR_len (rows : List (List Int)) (k : Nat) : (sureR rows k).length ≤ k := by
  unfold sureR
  rw [List.length_map]
  have := List.length_filter_le (fun i => decide ((gt rows i).length = 1)) (List.range k)
  simpa using this
def sureV (l : List Int) (r page : List (List Int)) : List Int := sureR ((seenV l r page).getD []) ((seenV l r page).getD []).length
theorem sureV_len (l : List Int) (r page : List (List Int)) : (sureV l r page).length ≤ 1048576 := by
  have h1 := sureR_len ((seenV l r page).getD []) ((seenV l r page).getD []).length
  have h2 := (seenV_ok l r page).1
  unfold sureV
  omega
set_option maxRecDepth 100000 in
set_option maxHeartbeats 2000000 in
theorem specPageSure_any (A B C : Option Addr) (n c m e0 q d lo : Nat) (l : List Int) (r page : List (List Int)) (w : World) (hl : Rd intS lo w.heap.size w A n l) (hr : Rd (sliceS intS) lo w.heap.size w B m r) (hp : Rd (sliceS intS) lo w.heap.size w C q page) :
    Calls Try.prog 38 #[.agg #[.slice A n c, .slice B m e0], .slice C q d] w (RetI w (sureV l r page)) := by
  obtain ⟨i0, hi1, hz0, hz1, hz2⟩ := info_parts (show (Try.prog.info? 3).map (fun i => (i.zero, i.size, i.bytes)) = some (some (.int .i64 0), 1, 8) by kernel_rfl)
  have HI0 := hid (And.intro hi1 (And.intro hz0 (And.intro hz1 hz2)))
  clear hi1 hz0 hz1 hz2
  have CALL := hid fun w' (hb : Below w.heap.size w w') => specPageSeen_any A B C n c m e0 q d lo l r page w' (hl.bl hb) (hr.bl hb) (hp.bl hb)
  have hsl := (seenV_ok l r page).1
  have HV := hid (show sureV l r page = sureR ((seenV l r page).getD []) ((seenV l r page).getD []).length from rfl)
  clear hl hr hp
  go_enter Try.func38, Try.ntmps38
  go_wp2_with fail
  refine (CALL.out _ (btr (bnew w _) (bnew _ _))).mono ?_
  rintro e w2 ⟨D, dd, rs, rfl, hN, hm, hb2⟩
  obtain ⟨xs, hxs⟩ : ∃ xs, (seenV l r page).getD [] = xs := ⟨_, rfl⟩
  rw [hxs] at hm hN hsl HV ⊢
  obtain ⟨ok, hok⟩ : ∃ b, (seenV l r page).isSome = b := ⟨_, rfl⟩
  rw [hok]
  have hrl : rs.length = xs.length := by have := congrArg List.length hm; rwa [List.length_map] at this
  have hrd := (hN.rd (by omega)).2
  rw [hm] at hrd
  have hzz : ((w.alloc (.cells #[.slice A n c, .slice B m e0] 26)).alloc (.cells #[] 3)).heap.size = w.heap.size + 2 := by simp
  have ho0 : OwnR intS (w.heap.size + 1) ((w.alloc (.cells #[.slice A n c, .slice B m e0] 26)).alloc (.cells #[] 3)) 3 (.slice (some ⟨w.heap.size + 1, 0, none⟩) 0 0) [] := by
    have := OwnR.nil (S := intS) (base := w.heap.size + 1) (w := w.alloc (.cells #[.slice A n c, .slice B m e0] 26)) (e := 3) (by simp) #[] rfl
    rwa [World.size_alloc] at this
  have HO0 := hid (ho0.bl hb2)
  have HB2 := hid (btr (btr (bnew w _) (bnew _ _)) hb2)
  have hz2 := hb2.size
  rw [hzz] at hrd hz2
  have HRD := hid hrd
  have hrl2 := hid hrl
  clear hN hm hb2 hok hrd hzz ho0 hrl CALL
  go_wp2_with fail
  go_loopg [5, 8] xs.length (fun gk out i wr => ∃ (k : Nat) (ys : List Int) (g d2 : Nat), k + gk = xs.length ∧ i = .int .i64 k ∧ out = .slice (some ⟨g, 0, none⟩) ys.length d2 ∧ ys = sureR xs k ∧ OwnR intS (w.heap.size + 1) wr 3 (.slice (some ⟨g, 0, none⟩) ys.length d2) ys ∧ (g = w.heap.size + 1 ∨ w2.heap.size ≤ g) ∧ Chg (fun k => k = w.heap.size + 1 ∨ w2.heap.size ≤ k) w2 wr)
  case atStart => exact ⟨0, [], _, _, Nat.zero_add _, rfl, rfl, rfl, HO0.out, .inl rfl, Chg.refl _ _⟩
  case round =>
    obtain ⟨k, ys, g, d2, hkg, rfl, rfl, hys, hO, hg, hc⟩ := hrel
    have HKG := hid hkg
    have HYS := hid hys
    have HO := hid hO
    have HC := hid hc
    have HG := hid hg
    have hkn : k ≤ xs.length := by omega
    have hyl : ys.length ≤ 8 := by have := sureR_len xs k; rw [hys]; omega
    have hwz := hc.size
    clear hkg hys hO hc hg
    by_cases hlt : k < xs.length
    case neg =>
      obtain rfl : k = xs.length := by omega
      go_wp2_with fail
      go_ret
      rw [HV.out, ← HYS.out]
      exact ⟨_, d2, rfl, HO.out.low (by omega), HB2.out.trans (HC.out.below HB2.out.size fun k hk => by have := HB2.out.size; omega)⟩
    case pos =>
      have hki : (k : Int) < (xs.length : Int) := by omega
      have hr2 := HRD.out.chg HC.out (Nat.le_refl _) (fun k hk => by omega)
      obtain ⟨b, off, rfl, _, hbb, hcx⟩ := hr2.2.2 (by omega)
      obtain ⟨Ax, cx', cx0, _, _⟩ := hcx.row hlt
      have hbb2 : b < wr.heap.size := by omega
      have HSS := hid (sureR_succ xs k)
      clear hr2 hcx
      by_cases h1 : (gt xs k).length = 1
      case pos =>
        have h1i : (((gt xs k).length : Int) == 1) = true := by rw [h1]; rfl
        rw [h1] at cx0
        go_wp2_with (at_builtin; refine wpList_append_R2 rfl (.tmp 28) (.tmp 30) _ rfl intS Try.underlying23 HI0.out rfl (by decide) (v := .slice (some ⟨g, 0, none⟩) ys.length d2) rfl (HO.out.al _) (y := (k : Int)) rfl (heap_alloc_new _ _) rfl (by simp [Value.oneCell']) rfl (by omega) (by omega) (by simp; omega) ?_; intro A2 c2 w5 hO4 hc4 hv4)
        obtain ⟨g', rfl, _⟩ := hO4.blk (by omega)
        have HO4 := hid hO4
        have hg' : g' = w.heap.size + 1 ∨ w2.heap.size ≤ g' := by
          have hg := HG.out
          rcases hv4 with e | e
          · simp [Value.ownBlock] at e; omega
          · simp [Value.ownBlock] at e; omega
        have HC4 := hid ((HC.out.trans (chg_new _ _ _)).trans (hc4.wide fun k hk => by have hg := HG.out; simp [Value.ownBlock] at hk; omega))
        clear hO4 hc4 hv4
        go_roundg (gk - 1)
        case measure => have := HKG.out; omega
        case rel => exact ⟨k + 1, ys ++ [(k : Int)], g', c2, by have := HKG.out; omega, by go_num, by rw [List.length_append]; rfl, by rw [HSS.out, if_pos h1, HYS.out], by rw [List.length_append]; exact HO4.out, hg', HC4.out⟩
      case neg =>
        have h1i : (((gt xs k).length : Int) == 1) = false := by rw [beq_eq_false_iff_ne]; omega
        go_wp2_with fail
        go_roundg (gk - 1)
        case measure => have := HKG.out; omega
        case rel => exact ⟨k + 1, ys, g, d2, by have := HKG.out; omega, by go_num, rfl, by rw [HSS.out, if_neg h1, List.append_nil, HYS.out], HO.out, HG.out, HC.out⟩
set_option maxRecDepth 100000 in
set_option maxHeartbeats 2000000 in
theorem implPageSure_any (A B C : Option Addr) (n c m e0 q d : Nat) (l : List Int) (r page : List (List Int)) (w : World) (hl : Rd intS 0 w.heap.size w A n l) (hr : Rd (sliceS intS) 0 w.heap.size w B m r) (hp : Rd (sliceS intS) 0 w.heap.size w C q page) :
    Calls Try.prog 37 #[.agg #[.slice A n c, .slice B m e0], .slice C q d] w (RetI w (sureV l r page)) := by
  obtain ⟨i0, hi1, hz0, hz1, hz2⟩ := info_parts (show (Try.prog.info? 3).map (fun i => (i.zero, i.size, i.bytes)) = some (some (.int .i64 0), 1, 8) by kernel_rfl)
  have HI0 := hid (And.intro hi1 (And.intro hz0 (And.intro hz1 hz2)))
  clear hi1 hz0 hz1 hz2
  have CALL := hid fun w' (hb : Below w.heap.size w w') => implPageSeen_any A B C n c m e0 q d l r page w' (hl.bl hb) (hr.bl hb) (hp.bl hb)
  have hsl := (seenV_ok l r page).1
  have HV := hid (show sureV l r page = sureR ((seenV l r page).getD []) ((seenV l r page).getD []).length from rfl)
  clear hl hr hp
  go_enter Try.func37, Try.ntmps37
  go_wp2_with fail
  refine (CALL.out _ (bnew w _)).mono ?_
  rintro e w2 ⟨D, dd, rs, rfl, hN, hm, hb2⟩
  obtain ⟨xs, hxs⟩ : ∃ xs, (seenV l r page).getD [] = xs := ⟨_, rfl⟩
  rw [hxs] at hm hN hsl HV ⊢
  obtain ⟨ok, hok⟩ : ∃ b, (seenV l r page).isSome = b := ⟨_, rfl⟩
  rw [hok]
  have hrl : rs.length = xs.length := by have := congrArg List.length hm; rwa [List.length_map] at this
  have hrd := (hN.rd (by omega)).2
  rw [hm] at hrd
  have HB2 := hid (btr (bnew w _) hb2)
  have hz2 := HB2.out.size
  have HRD := hid hrd
  have hrl2 := hid hrl
  have ho0 := OwnR.nil (S := intS) (base := w2.heap.size) (w := w2) (e := 3) (Nat.le_refl _) #[] rfl
  have HO0 := hid ho0
  clear hN hm hb2 hok hrd ho0 hrl CALL
  go_wp2_with fail
  go_loopg [7, 19] xs.length (fun gk out i wr => ∃ (k : Nat) (ys : List Int) (g d2 : Nat), k + gk = xs.length ∧ i = .int .i64 k ∧ out = .slice (some ⟨g, 0, none⟩) ys.length d2 ∧ ys = sureR xs k ∧ OwnR intS w2.heap.size wr 3 (.slice (some ⟨g, 0, none⟩) ys.length d2) ys ∧ Below w2.heap.size w2 wr)
  case atStart => exact ⟨0, [], _, _, Nat.zero_add _, rfl, rfl, rfl, HO0.out, bnew _ _⟩
  case round =>
    obtain ⟨k, ys, g, d2, hkg, rfl, rfl, hys, hO, hc⟩ := hrel
    have HKG := hid hkg
    have HYS := hid hys
    have HO := hid hO
    have HC := hid hc
    have hkn : k ≤ xs.length := by omega
    have hyl : ys.length ≤ 8 := by have := sureR_len xs k; rw [hys]; omega
    have hwz := hc.size
    clear hkg hys hO hc
    by_cases hlt : k < xs.length
    case neg =>
      obtain rfl : k = xs.length := by omega
      go_wp2_with fail
      go_ret
      rw [HV.out, ← HYS.out]
      exact ⟨_, d2, rfl, HO.out.low (by omega), btr HB2.out HC.out⟩
    case pos =>
      have hki : (k : Int) < (xs.length : Int) := by omega
      have hr2 := HRD.out.bl HC.out
      obtain ⟨b, off, rfl, _, hbb, hcx⟩ := hr2.2.2 (by omega)
      obtain ⟨Ax, cx', cx0, _, _⟩ := hcx.row hlt
      have hbb2 : b < wr.heap.size := by omega
      have HSS := hid (sureR_succ xs k)
      clear hr2 hcx
      by_cases h1 : (gt xs k).length = 1
      case pos =>
        have h1i : (((gt xs k).length : Int) == 1) = true := by rw [h1]; rfl
        rw [h1] at cx0
        go_wp2_with (at_builtin; refine wpList_append_R rfl (.tmp 27) (.tmp 29) _ rfl intS Try.underlying23 HI0.out rfl (by decide) rfl (HO.out.al _) (y := (k : Int)) rfl (heap_alloc_new _ _) rfl (by simp [Value.oneCell']) rfl (by omega) (by omega) (by simp; omega) ?_; intro A2 c2 w5 hO4 hc4)
        obtain ⟨g', rfl, _⟩ := hO4.blk (by omega)
        have HO4 := hid hO4
        have HC4 := hid ((bal HC.out _).trans hc4)
        clear hO4 hc4
        go_roundg (gk - 1)
        case measure => have := HKG.out; omega
        case rel => exact ⟨k + 1, ys ++ [(k : Int)], g', c2, by have := HKG.out; omega, by go_num, by rw [List.length_append]; rfl, by rw [HSS.out, if_pos h1, HYS.out], by rw [List.length_append]; exact HO4.out, HC4.out⟩
      case neg =>
        have h1i : (((gt xs k).length : Int) == 1) = false := by rw [beq_eq_false_iff_ne]; omega
        go_wp2_with fail
        go_roundg (gk - 1)
        case measure => have := HKG.out; omega
        case rel => exact ⟨k + 1, ys, g, d2, by have := HKG.out; omega, by go_num, rfl, by rw [HSS.out, if_neg h1, List.append_nil, HYS.out], HO.out, HC.out⟩
end Go.Proofs.Ytfjoininagdlcaa
