/- Rows of texts: marks of a returned row; what heldStringS returns. -/
import Derived.Test.YthijnojefeeaoaaMarkS
namespace Go.Proofs.Ythijnojefeeaoaa
open Go.RowKit
attribute [local go_sem] Oper.semAt_some
set_option maxHeartbeats 1000000 in
theorem markStringS_res (A : Option Addr) (n c base : Nat) (l : List ByteArray) (k0 : Int) (w : World) (h : OwnR strS base w 9 (.slice A n c) l) (hnl : n = l.length) (hn : n ≤ 1048576) (h0 : 0 ≤ k0) (h1 : k0 ≤ 16777216) :
    Calls Try.prog 31 #[.slice A n c, .int .i64 k0] w fun r w' => r = .returned (.int .i64 (k0 + n)) ∧ Rd strS base w'.heap.size w' A n (marksT k0 n) ∧ Chg (fun k => (Value.slice A n c).ownBlock = some k) w w' := by
  by_cases hz : n = 0
  case pos =>
    clear h hnl
    subst hz
    go_enter Try.func31, Try.ntmps31
    go_wp2_with fail
    go_loopg [1, 5] 0 (fun gk k i wr => i = .int .i64 0 ∧ k = .int .i64 k0 ∧ w = wr)
    case atStart => exact ⟨rfl, rfl, rfl⟩
    case round =>
      obtain ⟨rfl, rfl, rfl⟩ := hrel
      go_wp2_with fail
      go_ret
      exact ⟨ret_int (by simp), Rd.nil _ _ _ _ _, Chg.refl _ _⟩
  case neg =>
    obtain ⟨g, rfl, hg, hlt, _⟩ := h.blk (by omega)
    obtain ⟨_, hra, _⟩ := h.rowS (by omega)
    refine (markStringS_row g n c l k0 w hra hnl hn h0 h1).mono fun r w' ⟨q1, q2, q3⟩ => ⟨q1, ?_, q3.wide fun k hk => by rw [hk]; rfl⟩
    have := Rd_iff.2 (q2.rd (D := rng base w'.heap.size) ⟨hg, q2.lt⟩)
    rw [marksT_len] at this
    exact this
set_option maxRecDepth 100000 in
set_option maxHeartbeats 1000000 in
theorem heldStringS_any (A : Option Addr) (n c lo : Nat) (k0 : Int) (w : World) (hx : Rd strS lo w.heap.size w A n (marksT k0 n)) (hn : n ≤ 1048576) (h0 : 0 ≤ k0) (h1 : k0 ≤ 16777216) :
    Calls Try.prog 54 #[.slice A n c, .int .i64 k0] w fun r w' => r = .returned (.int .i64 (k0 + n)) ∧ Below w.heap.size w w' := by
  have E3 := hid hx.2.2
  clear hx
  go_enter Try.func54, Try.ntmps54
  go_wp2_with fail
  go_loopg [1, 5] n (fun gk k i wr => ∃ (j : Nat) (m : Int), j + gk = n ∧ i = .int .i64 j ∧ k = .int .i64 m ∧ m = k0 + j ∧ Below w.heap.size w wr)
  case atStart => exact ⟨0, k0, Nat.zero_add _, rfl, rfl, by simp, Below.refl _ _⟩
  case round =>
    obtain ⟨j, m, hjg, rfl, rfl, hm, hb⟩ := hrel
    have HJG := hid hjg
    have HM := hid hm
    have HB := hid hb
    have hm1 : m ≤ 1099511627776 := by omega
    have hm0 : 0 ≤ m := by omega
    have hj : j ≤ n := by omega
    clear hjg hm hb
    by_cases hlt : j < n
    case pos =>
      have hji : (j : Int) < (n : Int) := by omega
      obtain ⟨b, off, rfl, _, hbb, hcx⟩ := E3.out (by omega)
      obtain ⟨q0, _⟩ := hcx.str hlt
      rw [marksT_gt hlt, ← HM.out] at q0
      have c0 := bcl HB.out q0
      obtain ⟨s, hs⟩ : ∃ s, mtV m = s := ⟨_, rfl⟩
      rw [hs] at c0
      have ac0 := aft_cell (B := wr.heap.size) (w0 := wr) (block_lt_of_cell c0) c0
      have hse := str_eq s
      have call : ∀ pp : Aft wr.heap.size wr, Calls Try.prog 66 #[.int .i64 m] pp.val fun e w'' => e = .returned (.string s) ∧ ∃ r : Aft wr.heap.size wr, w'' = r.val := fun pp => by
        have := markText_any m pp.val hm1
        rw [hs] at this
        exact aft_call this (Nat.le_refl _)
      have Hcall := hid call
      clear hcx q0 hs call
      go_wp2_with fail
      refine wp_region_aft (B := wr.heap.size) (w0 := wr) (Below.refl _ _) (by kernel_rfl) (by kernel_rfl) ?_
      repeat (go_big_quiet_step ((go_at_call 66; exact Hcall.out _)))
      refine wpQuiet_nil ?_
      rintro w3 ⟨⟨w4, hb4⟩, hw4⟩
      have hw5 : w3 = w4 := hw4
      clear hw4
      subst hw5
      have HB4 := hid hb4
      clear hb4 ac0 c0
      go_wp2_with fail
      go_roundg (gk - 1)
      case measure => have := HJG.out; omega
      case rel => exact ⟨j + 1, m + 1, by have := HJG.out; omega, by go_num, rfl, by rw [HM.out]; omega, btr HB.out HB4.out⟩
    case neg =>
      obtain rfl : j = n := by omega
      go_wp2_with fail
      go_ret
      exact ⟨ret_int HM.out, HB.out⟩
/-! Briefs of the call's own. -/
def brvS : Shape (ByteArray × Value) where
  sz := 2
  E := fun _ _ x f => f 0 = .string x.1 ∧ x.1.size ≤ 9223372036854775807 ∧ f 1 = x.2
  keep := fun _ _ _ _ _ _ h => h
  wide := fun _ _ _ _ _ _ h => h
  same := fun _ _ _ _ _ h e => ⟨by rw [← h 0 (by omega)]; exact e.1, e.2.1, by rw [← h 1 (by omega)]; exact e.2.2⟩
theorem brvS_flat : Shape.flat brvS := fun _ _ _ _ _ _ h => h
/-- A brief: its mark, its row of words. -/
abbrev BrD : Type := ByteArray × RowT
def brV (d : BrD) : ByteArray × Value := (d.1, rowTV d.2)
def brT (d : BrD) : BriefT := (d.1, d.2.2.2)
/-- The row of briefs v, its words in blocks from lo on and below hi, no two in one. -/
structure NestB (lo hi : Nat) (w : World) (v : Value) (ds : List BrD) : Prop where
  own : OwnR brvS lo w 31 v (ds.map brV)
  row : ∀ d ∈ ds, lo ≤ d.2.1 ∧ d.2.1 < hi ∧ v.ownBlock ≠ some d.2.1 ∧ RowS w d.2
  one : (ds.map (·.2.1)).Nodup
section
variable {lo hi : Nat} {w w' : World} {v : Value} {ds : List BrD}
theorem NestB.keep (h : NestB lo hi w v ds) {D : Nat → Prop} (hc : Chg D w w') (hv : ∀ k, v.ownBlock = some k → ¬ D k) (hr : ∀ d ∈ ds, ¬ D d.2.1) : NestB lo hi w' v ds :=
  ⟨h.own.flat brvS_flat hc hv, fun d hm => by
    obtain ⟨h1, h2, h3, h4⟩ := h.row d hm
    exact ⟨h1, h2, h3, h4.kept (hc.block _ h4.lt (hr d hm))⟩, h.one⟩
theorem NestB.bl (h : NestB lo hi w v ds) (hb : Below w.heap.size w w') : NestB lo hi w' v ds :=
  h.keep (chg_below hb) (fun k hk => by have := (h.own.own_lt hk).2; omega) (fun d hr => by have := (h.row d hr).2.2.2.lt; omega)
theorem NestB.wide (h : NestB lo hi w v ds) {hi' : Nat} (hh : hi ≤ hi') : NestB lo hi' w v ds :=
  ⟨h.own, fun d hm => by obtain ⟨h1, h2, h3⟩ := h.row d hm; exact ⟨h1, by omega, h3⟩, h.one⟩
theorem NestB.chg {D : Nat → Prop} (h : NestB lo hi w v ds) (hc : Chg D w w') (hd : ∀ k, D k → k < lo) : NestB lo hi w' v ds :=
  h.keep hc (fun k hk hD => by have := (h.own.own_lt hk).1; have := hd k hD; omega) (fun d hr hD => by have := (h.row d hr).1; have := hd _ hD; omega)
theorem NestB.rd {A : Option Addr} {n c : Nat} (h : NestB lo hi w (.slice A n c) ds) (hm : ds.length ≤ 9223372036854775807) : n = ds.length ∧ Rd briefS lo w.heap.size w A n (ds.map brT) := by
  obtain ⟨hn, hrd⟩ := h.own.rd (by rw [List.length_map]; exact hm)
  rw [List.length_map] at hn
  refine ⟨hn, Rd_iff.2 ⟨by rw [List.length_map]; exact hn, hrd.2.1, fun h0 => ?_⟩⟩
  obtain ⟨b, off, hA, h1, h2, ha⟩ := hrd.2.2 h0
  refine ⟨b, off, hA, ⟨h1, h2⟩, fun k hk => ?_⟩
  obtain ⟨f, hf, he⟩ := ha k hk
  have hkl : k < ds.length := by omega
  have hmem := gt_mem hkl
  obtain ⟨r1, r2, r3, r4⟩ := h.row _ hmem
  have he' : f 0 = .string (gt ds k).1 ∧ (gt ds k).1.size ≤ 9223372036854775807 ∧ f 1 = rowTV (gt ds k).2 := by
    have he2 : brvS.E (rng lo w.heap.size) w (gt (ds.map brV) k) f := he
    rw [gt_map hkl] at he2
    exact he2
  refine ⟨f, hf, ?_⟩
  rw [gt_map hkl]
  exact ⟨⟨he'.1, he'.2.1⟩, _, _, he'.2.2, r4.cap, r4.rd ⟨r1, r4.lt⟩⟩
theorem NestB.rd0 {A : Option Addr} {n c : Nat} {l : List BriefT} (h : NestB lo hi w (.slice A n c) ds) (hl : ds.map brT = l) (hm : l.length ≤ 9223372036854775807) : Rd briefS 0 w.heap.size w A n l := by
  subst hl
  exact (h.rd (by simpa using hm)).2.wide (Nat.zero_le _) (Nat.le_refl _)
end
end Go.Proofs.Ythijnojefeeaoaa
