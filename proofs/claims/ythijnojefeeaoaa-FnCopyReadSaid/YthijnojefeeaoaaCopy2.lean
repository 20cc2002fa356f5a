/- Letters; what CopyLeast, CopyShort, CopySaves return. -/
import Derived.Test.YthijnojefeeaoaaCopyRef
import Derived.Test.YthijnojefeeaoaaCopyPure
namespace Go.Proofs.Ythijnojefeeaoaa
open Go.RowKit Go.Shelf
attribute [local go_sem] Oper.semAt_some
theorem letters_ub : ∀ {ws : List ByteArray}, (∀ s ∈ ws, s.size ≤ 12) → letters ws ≤ 12 * ws.length
  | [], _ => Int.le_refl _
  | w :: ws, h => by
    have h1 := letters_ub (ws := ws) fun s hs => h s (List.mem_cons_of_mem _ hs)
    have h2 := h w (by simp)
    rw [letters_cons, List.length_cons]
    omega
theorem letters_drop {ws : List ByteArray} {k : Nat} (h : k < ws.length) : letters (ws.drop k) = (gt ws k).size + letters (ws.drop (k + 1)) := by rw [drop_gt h, letters_cons]
set_option maxHeartbeats 1000000 in
theorem implLettersOf_any (A : Option Addr) (n c lo : Nat) (ws : List ByteArray) (w : World) (hx : Rd strS lo w.heap.size w A n ws) (hn : n ≤ 1048576) (hs : ∀ s ∈ ws, s.size ≤ 12) :
    Calls Try.prog 57 #[.slice A n c] w fun e w' => e = .returned (.int .i64 (letters ws)) ∧ w = w' := by
  have E1 := hid hx.1
  have E3 := hid hx.2.2
  have HS := hid hs
  clear hx hs
  go_enter Try.func57, Try.ntmps57
  go_wp2_with fail
  go_loopg [3, 5, 8] n (fun gk x _ i wr => ∃ (k : Nat) (y : Int), k + gk = n ∧ i = .int .i64 k ∧ x = .int .i64 y ∧ letters ws = y + letters (ws.drop k) ∧ 0 ≤ y ∧ y ≤ 12 * k ∧ w = wr)
  case atStart => exact ⟨0, 0, Nat.zero_add _, rfl, rfl, by rw [List.drop_zero, Int.zero_add], by omega, by omega, rfl⟩
  case round =>
    obtain ⟨k, y, hkg, rfl, rfl, hl, hy0, hy1, rfl⟩ := hrel
    have HKG := hid hkg
    have HL := hid hl
    have hk : k ≤ n := by omega
    clear hkg hl
    by_cases hlt : k < n
    · have hki : (k : Int) < (n : Int) := by omega
      obtain ⟨b', off, rfl, _, hbb, hcx⟩ := E3.out (by omega)
      obtain ⟨cx, cx9⟩ := hcx.str hlt
      have hkw : k < ws.length := by rw [← E1.out]; exact hlt
      have HD := hid (letters_drop hkw)
      have hsz := HS.out _ (gt_mem hkw)
      obtain ⟨q, hq⟩ : ∃ q, (gt ws k).size = q := ⟨_, rfl⟩
      rw [hq] at hsz HD
      have hwr : IntKind.i64.wrap (y + (q : Int)) = y + q := IntWalk.i64_in _ (by omega)
      clear hcx cx9 hkw
      go_wp2_with fail
      go_roundg (gk - 1)
      case measure => have := HKG.out; omega
      case rel => exact ⟨k + 1, y + q, by have := HKG.out; omega, by go_num, rfl, by rw [HL.out, HD.out]; omega, by omega, by omega, rfl⟩
    · obtain rfl : k = n := by omega
      have hfin := HL.out
      rw [show ws.drop k = [] from List.drop_eq_nil_of_le (by rw [← E1.out]; exact Nat.le_refl _)] at hfin
      have HF := hid (show y = letters ws by rw [hfin]; show y = y + 0; omega)
      clear hfin
      go_wp2_with fail
      go_ret
      exact ⟨ret_int HF.out, rfl⟩
set_option maxHeartbeats 1000000 in
theorem specLetters_any (A : Option Addr) (n c lo : Nat) (ws : List ByteArray) (w : World) (hx : Rd strS lo w.heap.size w A n ws) (hn : n ≤ 1048576) (hs : ∀ s ∈ ws, s.size ≤ 12) :
    Calls Try.prog 59 #[.slice A n c] w fun e w' => e = .returned (.int .i64 (letters ws)) ∧ w = w' := by
  have E1 := hid hx.1
  have E3 := hid hx.2.2
  have HS := hid hs
  clear hx hs
  go_enter Try.func59, Try.ntmps59
  go_wp2_with fail
  go_loopg [3, 4] n (fun gk x i wr => ∃ (k : Nat) (y : Int), k + gk = n ∧ i = .int .i64 k ∧ x = .int .i64 y ∧ letters ws = y + letters (ws.drop k) ∧ 0 ≤ y ∧ y ≤ 12 * k ∧ w = wr)
  case atStart => exact ⟨0, 0, Nat.zero_add _, rfl, rfl, by rw [List.drop_zero, Int.zero_add], by omega, by omega, rfl⟩
  case round =>
    obtain ⟨k, y, hkg, rfl, rfl, hl, hy0, hy1, rfl⟩ := hrel
    have HKG := hid hkg
    have HL := hid hl
    have hk : k ≤ n := by omega
    clear hkg hl
    by_cases hlt : k < n
    · have hki : (k : Int) < (n : Int) := by omega
      obtain ⟨b', off, rfl, _, hbb, hcx⟩ := E3.out (by omega)
      obtain ⟨cx, cx9⟩ := hcx.str hlt
      have hkw : k < ws.length := by rw [← E1.out]; exact hlt
      have HD := hid (letters_drop hkw)
      have hsz := HS.out _ (gt_mem hkw)
      obtain ⟨q, hq⟩ : ∃ q, (gt ws k).size = q := ⟨_, rfl⟩
      rw [hq] at hsz HD
      have hwr : IntKind.i64.wrap (y + (q : Int)) = y + q := IntWalk.i64_in _ (by omega)
      clear hcx cx9 hkw
      go_wp2_with fail
      go_roundg (gk - 1)
      case measure => have := HKG.out; omega
      case rel => exact ⟨k + 1, y + q, by have := HKG.out; omega, by go_num, rfl, by rw [HL.out, HD.out]; omega, by omega, by omega, rfl⟩
    · obtain rfl : k = n := by omega
      have hfin := HL.out
      rw [show ws.drop k = [] from List.drop_eq_nil_of_le (by rw [← E1.out]; exact Nat.le_refl _)] at hfin
      have HF := hid (show y = letters ws by rw [hfin]; show y = y + 0; omega)
      clear hfin
      go_wp2_with fail
      go_ret
      exact ⟨ret_int HF.out, rfl⟩
set_option maxHeartbeats 1000000 in
theorem lawsLetters_any (A : Option Addr) (n c lo : Nat) (ws : List ByteArray) (w : World) (hx : Rd strS lo w.heap.size w A n ws) (hn : n ≤ 1048576) (hs : ∀ s ∈ ws, s.size ≤ 12) :
    Calls Try.prog 53 #[.slice A n c] w fun e w' => e = .returned (.int .i64 (letters ws)) ∧ w = w' := by
  have E1 := hid hx.1
  have E3 := hid hx.2.2
  have HS := hid hs
  clear hx hs
  go_enter Try.func53, Try.ntmps53
  go_wp2_with fail
  go_loopg [3, 4] n (fun gk x i wr => ∃ (k : Nat) (y : Int), k + gk = n ∧ i = .int .i64 k ∧ x = .int .i64 y ∧ letters ws = y + letters (ws.drop k) ∧ 0 ≤ y ∧ y ≤ 12 * k ∧ w = wr)
  case atStart => exact ⟨0, 0, Nat.zero_add _, rfl, rfl, by rw [List.drop_zero, Int.zero_add], by omega, by omega, rfl⟩
  case round =>
    obtain ⟨k, y, hkg, rfl, rfl, hl, hy0, hy1, rfl⟩ := hrel
    have HKG := hid hkg
    have HL := hid hl
    have hk : k ≤ n := by omega
    clear hkg hl
    by_cases hlt : k < n
    · have hki : (k : Int) < (n : Int) := by omega
      obtain ⟨b', off, rfl, _, hbb, hcx⟩ := E3.out (by omega)
      obtain ⟨cx, cx9⟩ := hcx.str hlt
      have hkw : k < ws.length := by rw [← E1.out]; exact hlt
      have HD := hid (letters_drop hkw)
      have hsz := HS.out _ (gt_mem hkw)
      obtain ⟨q, hq⟩ : ∃ q, (gt ws k).size = q := ⟨_, rfl⟩
      rw [hq] at hsz HD
      have hwr : IntKind.i64.wrap (y + (q : Int)) = y + q := IntWalk.i64_in _ (by omega)
      clear hcx cx9 hkw
      go_wp2_with fail
      go_roundg (gk - 1)
      case measure => have := HKG.out; omega
      case rel => exact ⟨k + 1, y + q, by have := HKG.out; omega, by go_num, rfl, by rw [HL.out, HD.out]; omega, by omega, by omega, rfl⟩
    · obtain rfl : k = n := by omega
      have hfin := HL.out
      rw [show ws.drop k = [] from List.drop_eq_nil_of_le (by rw [← E1.out]; exact Nat.le_refl _)] at hfin
      have HF := hid (show y = letters ws by rw [hfin]; show y = y + 0; omega)
      clear hfin
      go_wp2_with fail
      go_ret
      exact ⟨ret_int HF.out, rfl⟩
/-- The letters that are saved, or -1. -/
def savesV (bs : List BriefT) (ws : List ByteArray) : Int := match deskOk bs ws with
  | true => letters ws - gt (costs 1 0 bs ws) 0
  | false => -1
set_option maxRecDepth 100000 in
set_option maxHeartbeats 1000000 in
theorem specCopyLeast_any (A B : Option Addr) (n c m d : Nat) (bs : List BriefT) (ws : List ByteArray) (w : World) (hmd : m ≤ d) (hd63 : d ≤ 9223372036854775807) (hx : Rd briefS 0 w.heap.size w A n bs) (hy : Rd strS 0 w.heap.size w B m ws) :
    Calls Try.prog 58 #[.slice A n c, .slice B m d] w fun e w' => e = .returned (.int .i64 (leastV 1 0 bs ws)) ∧ Below w.heap.size w w' := by
  have HX := hid hx
  have HY := hid hy
  have hbo := l4Both_any A B n c m d 0 bs ws w hx hy
  clear hx hy
  obtain ⟨x, hx1⟩ : ∃ x, deskOk bs ws = x := ⟨_, rfl⟩
  rw [hx1] at hbo
  have HX1 := hid hx1
  have HBO := hid hbo
  clear hx1 hbo
  cases x with
  | false =>
    have HV := hid (show leastV 1 0 bs ws = -1 by unfold leastV; rw [HX1.out])
    go_enter Try.func58, Try.ntmps58
    go_wp2_with fail
    refine HBO.out.mono ?_
    rintro e w1 ⟨rfl, hb1⟩
    have HB1 := hid hb1
    clear hb1
    go_wp2_with fail
    go_ret
    exact ⟨ret_int HV.out.symm, HB1.out⟩
  | true =>
    have HV := hid (show leastV 1 0 bs ws = gt (costs 1 0 bs ws) 0 by unfold leastV; rw [HX1.out])
    go_enter Try.func58, Try.ntmps58
    go_wp2_with fail
    refine HBO.out.mono ?_
    rintro e w1 ⟨rfl, hb1⟩
    have HB1 := hid hb1
    clear hb1
    go_wp2_with fail
    refine (l4Costs_any A B n c m d 1 0 bs ws _ hmd hd63 (HX.out.bl HB1.out) (HY.out.bl HB1.out) (by omega) (by omega) HX1.out).mono ?_
    rintro r w2 ⟨G, rfl, hG, hb2⟩
    obtain ⟨b, off, he, _, hgl, hcg⟩ := hG.2.2 (by omega)
    injection he with he
    injection he with he1 he2 _
    subst he1 he2
    have c0 := hcg.int (k := 0) (by omega)
    rw [Nat.add_zero] at c0
    have HB2 := hid (btr HB1.out hb2)
    clear hG hcg hb2
    go_wp2_with fail
    go_ret
    exact ⟨ret_int HV.out.symm, HB2.out⟩
set_option maxRecDepth 100000 in
set_option maxHeartbeats 1000000 in
theorem specCopyShort_any (A B : Option Addr) (n c m d : Nat) (bs : List BriefT) (ws : List ByteArray) (w : World) (hmd : m ≤ d) (hd63 : d ≤ 9223372036854775807) (hx : Rd briefS 0 w.heap.size w A n bs) (hy : Rd strS 0 w.heap.size w B m ws) :
    Calls Try.prog 43 #[.slice A n c, .slice B m d] w fun e w' => e = .returned (.int .i64 (leastV 0 1 bs ws)) ∧ Below w.heap.size w w' := by
  have HX := hid hx
  have HY := hid hy
  have hbo := l4Both_any A B n c m d 0 bs ws w hx hy
  clear hx hy
  obtain ⟨x, hx1⟩ : ∃ x, deskOk bs ws = x := ⟨_, rfl⟩
  rw [hx1] at hbo
  have HX1 := hid hx1
  have HBO := hid hbo
  clear hx1 hbo
  cases x with
  | false =>
    have HV := hid (show leastV 0 1 bs ws = -1 by unfold leastV; rw [HX1.out])
    go_enter Try.func43, Try.ntmps43
    go_wp2_with fail
    refine HBO.out.mono ?_
    rintro e w1 ⟨rfl, hb1⟩
    have HB1 := hid hb1
    clear hb1
    go_wp2_with fail
    go_ret
    exact ⟨ret_int HV.out.symm, HB1.out⟩
  | true =>
    have HV := hid (show leastV 0 1 bs ws = gt (costs 0 1 bs ws) 0 by unfold leastV; rw [HX1.out])
    go_enter Try.func43, Try.ntmps43
    go_wp2_with fail
    refine HBO.out.mono ?_
    rintro e w1 ⟨rfl, hb1⟩
    have HB1 := hid hb1
    clear hb1
    go_wp2_with fail
    refine (l4Costs_any A B n c m d 0 1 bs ws _ hmd hd63 (HX.out.bl HB1.out) (HY.out.bl HB1.out) (by omega) (by omega) HX1.out).mono ?_
    rintro r w2 ⟨G, rfl, hG, hb2⟩
    obtain ⟨b, off, he, _, hgl, hcg⟩ := hG.2.2 (by omega)
    injection he with he
    injection he with he1 he2 _
    subst he1 he2
    have c0 := hcg.int (k := 0) (by omega)
    rw [Nat.add_zero] at c0
    have HB2 := hid (btr HB1.out hb2)
    clear hG hcg hb2
    go_wp2_with fail
    go_ret
    exact ⟨ret_int HV.out.symm, HB2.out⟩
set_option maxRecDepth 100000 in
set_option maxHeartbeats 1000000 in
theorem implCopySaves_any (A B : Option Addr) (n c m d : Nat) (bs : List BriefT) (ws : List ByteArray) (w : World) (hnc : n ≤ c) (hmd : m ≤ d) (hd63 : d ≤ 9223372036854775807) (hx : Rd briefS 0 w.heap.size w A n bs) (hy : Rd strS 0 w.heap.size w B m ws) :
    Calls Try.prog 14 #[.slice A n c, .slice B m d] w fun e w' => e = .returned (.int .i64 (savesV bs ws)) ∧ Below w.heap.size w w' := by
  have F1 := hid hy.1
  have HY := hid hy
  have hle := implCopyLeast_any A B n c m d bs ws w hnc hmd hd63 hx hy
  clear hx hy
  obtain ⟨x, hx1⟩ : ∃ x, deskOk bs ws = x := ⟨_, rfl⟩
  have HX1 := hid hx1
  clear hx1
  cases x with
  | false =>
    have HV := hid (show savesV bs ws = -1 by unfold savesV; rw [HX1.out])
    rw [show leastV 1 0 bs ws = -1 by unfold leastV; rw [HX1.out]] at hle
    go_enter Try.func14, Try.ntmps14
    go_wp2_with fail
    refine hle.mono ?_
    rintro e w1 ⟨rfl, hb1⟩
    have HB1 := hid hb1
    clear hb1 hle
    go_wp2_with fail
    go_ret
    exact ⟨ret_int HV.out.symm, HB1.out⟩
  | true =>
    obtain ⟨_, hm20, hwd, _, hws⟩ := desk_len HX1.out
    have hb : ∀ b ∈ bs, 1 ≤ b.2.length := fun b hb => (hwd b hb).1
    rw [show leastV 1 0 bs ws = gt (costs 1 0 bs ws) 0 by unfold leastV; rw [HX1.out]] at hle
    have HV := hid (show savesV bs ws = letters ws - gt (costs 1 0 bs ws) 0 by unfold savesV; rw [HX1.out])
    have h1 := costs_nn 1 0 (by omega) (by omega) hb ws
    have h2 := words_le bs ws hb
    have h3 := letters_ub hws
    obtain ⟨x, hx1⟩ : ∃ x, gt (costs 1 0 bs ws) 0 = x := ⟨_, rfl⟩
    obtain ⟨y, hy1⟩ : ∃ y, letters ws = y := ⟨_, rfl⟩
    rw [hx1, hy1] at HV
    rw [hx1] at hle h1 h2
    rw [hy1] at h2 h3
    have HY1 := hid hy1
    have HWS := hid hws
    have hm20' : m ≤ 20 := by rw [F1.out]; exact hm20
    have hxn : ¬ x < 0 := by omega
    have hwr : IntKind.i64.wrap (y - x) = y - x := IntWalk.i64_in _ (by omega)
    clear hx1 hy1 hwd hws hb h3 hm20
    go_enter Try.func14, Try.ntmps14
    go_wp2_with fail
    refine hle.mono ?_
    rintro e w1 ⟨rfl, hb1⟩
    have HB1 := hid hb1
    clear hb1 hle
    go_wp2_with (go_at_call 57; refine (implLettersOf_any _ _ _ _ _ _ (HY.out.bl HB1.out) (by omega) HWS.out).mono ?_; rintro e w' ⟨rfl, rfl⟩; rw [HY1.out])
    go_ret
    exact ⟨ret_int HV.out.symm, HB1.out⟩
set_option maxRecDepth 100000 in
set_option maxHeartbeats 1000000 in
theorem specCopySaves_any (A B : Option Addr) (n c m d : Nat) (bs : List BriefT) (ws : List ByteArray) (w : World)  (hmd : m ≤ d) (hd63 : d ≤ 9223372036854775807) (hx : Rd briefS 0 w.heap.size w A n bs) (hy : Rd strS 0 w.heap.size w B m ws) :
    Calls Try.prog 15 #[.slice A n c, .slice B m d] w fun e w' => e = .returned (.int .i64 (savesV bs ws)) ∧ Below w.heap.size w w' := by
  have F1 := hid hy.1
  have HY := hid hy
  have hle := specCopyLeast_any A B n c m d bs ws w  hmd hd63 hx hy
  clear hx hy
  obtain ⟨x, hx1⟩ : ∃ x, deskOk bs ws = x := ⟨_, rfl⟩
  have HX1 := hid hx1
  clear hx1
  cases x with
  | false =>
    have HV := hid (show savesV bs ws = -1 by unfold savesV; rw [HX1.out])
    rw [show leastV 1 0 bs ws = -1 by unfold leastV; rw [HX1.out]] at hle
    go_enter Try.func15, Try.ntmps15
    go_wp2_with fail
    refine hle.mono ?_
    rintro e w1 ⟨rfl, hb1⟩
    have HB1 := hid hb1
    clear hb1 hle
    go_wp2_with fail
    go_ret
    exact ⟨ret_int HV.out.symm, HB1.out⟩
  | true =>
    obtain ⟨_, hm20, hwd, _, hws⟩ := desk_len HX1.out
    have hb : ∀ b ∈ bs, 1 ≤ b.2.length := fun b hb => (hwd b hb).1
    rw [show leastV 1 0 bs ws = gt (costs 1 0 bs ws) 0 by unfold leastV; rw [HX1.out]] at hle
    have HV := hid (show savesV bs ws = letters ws - gt (costs 1 0 bs ws) 0 by unfold savesV; rw [HX1.out])
    have h1 := costs_nn 1 0 (by omega) (by omega) hb ws
    have h2 := words_le bs ws hb
    have h3 := letters_ub hws
    obtain ⟨x, hx1⟩ : ∃ x, gt (costs 1 0 bs ws) 0 = x := ⟨_, rfl⟩
    obtain ⟨y, hy1⟩ : ∃ y, letters ws = y := ⟨_, rfl⟩
    rw [hx1, hy1] at HV
    rw [hx1] at hle h1 h2
    rw [hy1] at h2 h3
    have HY1 := hid hy1
    have HWS := hid hws
    have hm20' : m ≤ 20 := by rw [F1.out]; exact hm20
    have hxn : ¬ x < 0 := by omega
    have hwr : IntKind.i64.wrap (y - x) = y - x := IntWalk.i64_in _ (by omega)
    clear hx1 hy1 hwd hws hb h3 hm20
    go_enter Try.func15, Try.ntmps15
    go_wp2_with fail
    refine hle.mono ?_
    rintro e w1 ⟨rfl, hb1⟩
    have HB1 := hid hb1
    clear hb1 hle
    go_wp2_with (go_at_call 59; refine (specLetters_any _ _ _ _ _ _ (HY.out.bl HB1.out) (by omega) HWS.out).mono ?_; rintro e w' ⟨rfl, rfl⟩; rw [HY1.out])
    go_ret
    exact ⟨ret_int HV.out.symm, HB1.out⟩
end Go.Proofs.Ythijnojefeeaoaa
