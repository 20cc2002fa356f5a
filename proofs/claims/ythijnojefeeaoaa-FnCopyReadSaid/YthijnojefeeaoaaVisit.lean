/- Visits of all tokens of all places: what visit does. -/
import Derived.Test.YthijnojefeeaoaaTokens
namespace Go.Proofs.Ythijnojefeeaoaa
open Go.RowKit Go.Shelf
attribute [local go_sem] Oper.semAt_some
/-- The tokens, from the last place to this one. -/
def evs (bs : List BriefT) : Nat → List ByteArray → List (Nat × Tok)
  | _, [] => []
  | p, w :: ws => evs bs (p + 1) ws ++ (toks 0 bs (w :: ws)).map fun t => (p, t)
theorem evs_drop {bs : List BriefT} {ws : List ByteArray} {p : Nat} (h : p < ws.length) : evs bs p (ws.drop p) = evs bs (p + 1) (ws.drop (p + 1)) ++ (toks 0 bs (ws.drop p)).map fun t => (p, t) := by
  rw [drop_gt h, evs]
theorem toks_len : ∀ (i : Nat) (bs : List BriefT) (ws : List ByteArray), (toks i bs ws).length ≤ bs.length + 1
  | _, [], _ => Nat.le_refl _
  | i, b :: r, ws => by
    have := toks_len (i + 1) r ws
    rw [toks]
    split
    · rw [List.length_cons, List.length_cons]; omega
    · rw [List.length_cons]; omega
theorem chgB {D : Nat → Prop} {w w' : World} (h : Below w.heap.size w w') : Chg D w w' := ⟨h.os, h.tape, h.output, h.size, fun k hk _ => h.block k hk⟩
def tokV (t : Tok) : Value := .agg #[.int .i64 t.k, .int .i64 t.wd, .int .i64 t.co]
set_option maxRecDepth 100000 in
set_option maxHeartbeats 2000000 in
theorem visit_any (cb : Nat) (caps : Array Value) (eg : ∀ args w, (callFunc cb args).run Try.prog w = .ok (.enter cb args) w) (A B : Option Addr) (n c m d : Nat) (bs : List BriefT) (ws : List ByteArray) (B0 : Nat) (D : Nat → Prop) (J : List (Nat × Tok) → World → Prop)
    (hm : m = ws.length) (hmd : m ≤ d) (hd63 : d ≤ 9223372036854775807) (hn8 : n ≤ 8) (hD : ∀ k, D k → k < B0)
    (hJ0 : ∀ pre W, J pre W → B0 ≤ W.heap.size ∧ Rd briefS 0 W.heap.size W A n bs ∧ Rd strS 0 W.heap.size W B m ws)
    (hJB : ∀ pre W W', J pre W → Below W.heap.size W W' → J pre W')
    (hY : ∀ pre p t W, J pre W → p < ws.length → t ∈ toks 0 bs (ws.drop p) → Calls Try.prog cb (#[.int .i64 (p : Nat), tokV t] ++ caps) W fun e W' => e = .returned (.tuple #[]) ∧ J (pre ++ [(p, t)]) W' ∧ Chg D W W') :
    ∀ (q : Nat) (p : Nat), p + q = m → ∀ pre W, J pre W → Calls Try.prog 81 #[.agg #[.slice A n c, .slice B m d], .int .i64 p, .func (.func cb) #[] caps] W fun e W' => e = .returned (.tuple #[]) ∧ J (pre ++ evs bs p (ws.drop p)) W' ∧ Chg D W W' := by
  intro q
  induction q with
  | zero =>
    intro p hpq pre W hJ
    obtain rfl : p = m := by omega
    have HJ := hid (hJB _ _ _ hJ (bnew W (.cells #[.slice A n c, .slice B p d] 62)))
    have HM := hid hm
    clear hm hY hJB hJ0 eg hJ
    go_enter Try.func81, Try.ntmps81
    go_wp2_with fail
    refine bodyPost_ret (results_none rfl _ _ _) rfl ?_
    refine ⟨rfl, ?_, chgB (bnew _ _)⟩
    rw [List.drop_eq_nil_of_le (by rw [HM.out]; exact Nat.le_refl _), evs, List.append_nil]
    exact HJ.out
  | succ q ihq =>
    intro p hpq pre W hJ
    have ih0 := fun W' hj => ihq (p + 1) (by omega) pre W' hj
    clear ihq
    have hpm : p < m := by omega
    have hpw : p < ws.length := by omega
    obtain ⟨h1, h2, h3⟩ := hJ0 _ _ hJ
    obtain ⟨b0, off0, hB, _⟩ := h3.2.2 (by omega)
    subst hB
    have hb0 := bnew W (.cells #[.slice A n c, .slice (some ⟨b0, off0, none⟩) m d] 62)
    have hc0 := heap_alloc_new W (.cells #[.slice A n c, .slice (some ⟨b0, off0, none⟩) m d] 62)
    have ih := ih0 _ (hJB _ _ _ hJ hb0)
    clear ih0
    have IH := hid ih
    have HB0 := hid hb0
    have HC0 := hid hc0
    have HJ0 := hid hJ0
    have HJB := hid hJB
    have HY := hid hY
    have HM := hid hm
    have HE := hid (evs_drop (bs := bs) hpw)
    clear ih hb0 hc0 h2 h3 hJ0 hJB hY hm
    have hpm2 : (p : Int) < (m : Int) := by omega
    have HPW := hid hpw
    have HPM := hid hpm
    have HHD := hid hD
    clear hpq hpw hpm hD
    go_enter Try.func81, Try.ntmps81
    go_wp2_with fail
    refine IH.out.mono ?_
    rintro e w2 ⟨rfl, hj2, hc2⟩
    have hbox := (hc2.block W.heap.size (by rw [World.size_alloc]; omega) (fun hd => by have := HHD.out _ hd; omega)).trans HC0.out
    obtain ⟨x0, x1, _, _⟩ := at_get hbox
    have hz2 := hc2.size
    rw [World.size_alloc] at hz2
    obtain ⟨h4, h5, h6⟩ := HJ0.out _ _ hj2
    have HJ2 := hid hj2
    have HC2 := hid hc2
    have H5 := hid h5
    have H6 := hid h6
    clear hj2 hc2 hbox h5 h6 IH HC0
    go_wp2_with fail
    refine (tokensAt_any _ _ _ _ _ _ _ _ _ _ _ _ H5.out H6.out HPM.out hmd hd63 hn8).mono ?_
    rintro e w3 ⟨A3, c3, rfl, hO, hb3⟩
    obtain ⟨l, hl⟩ : ∃ l, toks 0 bs (ws.drop p) = l := ⟨_, rfl⟩
    rw [hl] at hO ⊢
    have hll : l.length ≤ 9 := by
      have := toks_len 0 bs (ws.drop p)
      rw [hl] at this
      have := H5.out.1
      omega
    have HL := hid hl
    have HO := hid hO
    have HB3 := hid hb3
    have HJ3 := hid (HJB.out _ _ _ HJ2.out hb3)
    have hz3 := hb3.size
    clear hl hO hb3 HJ2 x0 x1
    go_wp2_with fail
    go_loopg [7, 22] l.length (fun gk _ i wr => ∃ k : Nat, k + gk = l.length ∧ i = .int .i64 k ∧ J ((pre ++ evs bs (p + 1) (ws.drop (p + 1))) ++ (l.take k).map fun t => (p, t)) wr ∧ Chg D w3 wr)
    case atStart => exact ⟨0, Nat.zero_add _, rfl, by rw [List.take_zero, List.map_nil, List.append_nil]; exact HJ3.out, Chg.refl _ _⟩
    case round =>
      clear HJ3
      obtain ⟨k, hkg, rfl, hj, hc⟩ := hrel
      have HKG := hid hkg
      have HJK := hid hj
      have HCK := hid hc
      have hk : k ≤ l.length := by omega
      have hzr := hc.size
      have ho := HO.out.chg hc (fun q hq => by have := HHD.out q hq; omega)
      have hrd := (ho.rd (by omega)).2
      clear hkg hj hc ho
      by_cases hlt : k < l.length
      · have hki : (k : Int) < (l.length : Int) := by omega
        obtain ⟨bt, ot, rfl, _, hbt, hct⟩ := hrd.2.2 (by omega)
        obtain ⟨t0, t1, t2⟩ := hct.tok hlt
        have HT := hid (gt_mem hlt)
        have HTK := hid (take_gt hlt)
        clear hct hrd
        obtain ⟨t, ht⟩ : ∃ t, gt l k = t := ⟨_, rfl⟩
        rw [ht] at t0 t1 t2 HT HTK
        have hba := bnew wr (.cells #[.int .i64 t.k, .int .i64 t.wd, .int .i64 t.co] 68)
        have hcall := HY.out _ p t _ (HJB.out _ _ _ HJK.out hba) HPW.out (by rw [HL.out]; exact HT.out)
        unfold tokV at hcall
        have HBA := hid hba
        clear hba ht
        go_wp2_with (go_at_fn cb; refine hcall.mono ?_; rintro e w4 ⟨rfl, hj4, hc4⟩)
        go_roundg (gk - 1)
        case measure => have := HKG.out; omega
        case rel =>
          refine ⟨k + 1, by have := HKG.out; omega, by go_num, ?_, HCK.out.trans ((chgB HBA.out).trans hc4)⟩
          rw [HTK.out, List.map_append, ← List.append_assoc]
          exact hj4
      · obtain rfl : k = l.length := by omega
        clear hrd
        go_wp2_with fail
        go_end0
        refine ⟨rfl, ?_, (chgB HB0.out).trans (HC2.out.trans ((chgB HB3.out).trans HCK.out))⟩
        have := HJK.out
        rw [List.take_length, List.append_assoc, ← HL.out, ← HE.out] at this
        exact this
end Go.Proofs.Ythijnojefeeaoaa
