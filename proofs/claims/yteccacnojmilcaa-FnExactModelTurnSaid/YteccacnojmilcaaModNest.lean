/- Models of the call's own, each row in a block of its own; their marks. -/
import Derived.Test.YteccacnojmilcaaNestMark
import Derived.Test.YteccacnojmilcaaWeigh
namespace Go.Proofs.Yteccacnojmilcaa
open Go.RowKit
theorem RowAt.chg {D : Nat → Prop} {w w' : World} {e : TypeId} {r : RowD} (h : RowAt w e r) (hc : Chg D w w') (hd : ¬ D r.1) : RowAt w' e r := h.kept (hc.block _ h.lt hd)
theorem NestR.chg {D : Nat → Prop} {lo hi : Nat} {w w' : World} {et ei : TypeId} {v : Value} {rs : List RowD} (h : NestR lo hi w et ei v rs) (hc : Chg D w w') (hd : ∀ k, D k → k < lo) : NestR lo hi w' et ei v rs :=
  h.keep hc (fun k hk hD => by have := (h.own.own_lt hk).1; have := hd k hD; omega) (fun r hr hD => by have := (h.row r hr).1; have := hd _ hD; omega)
set_option maxHeartbeats 1000000 in
theorem toModel_nest (A B : Option Addr) (n c m e lo : Nat) (l : List Int) (r : List (List Int)) (w : World) (hl : Rd intS lo w.heap.size w A n l) (hr : Rd (sliceS intS) lo w.heap.size w B m r) (hn : n ≤ 1048576) (hm : m ≤ 1048576) (hs : ∀ x ∈ r, x.length ≤ 1048576) :
    Calls Try.prog 23 #[.agg #[.slice A n c, .slice B m e]] w fun e w' => ∃ g h k rs, e = .returned (.agg #[.slice (some ⟨g, 0, none⟩) n n, .slice (some ⟨h, 0, none⟩) m m]) ∧ RowAt w' 3 (g, n, l) ∧ w.heap.size ≤ g ∧ g < k ∧ NestR k w'.heap.size w' 34 3 (.slice (some ⟨h, 0, none⟩) m m) rs ∧ rs.map (·.2.2) = r ∧ Below w.heap.size w w' := by
  have hba : ∀ (o o' o2 : Obj) (w1 : World), Below (((w.alloc o).alloc o').alloc o2).heap.size (((w.alloc o).alloc o').alloc o2) w1 → Below w.heap.size w w1 := fun o o' o2 w1 h => ((((Below.refl _ _).alloc (Nat.le_refl _) _).alloc (by simp) _).alloc (by simp <;> omega) _).trans (h.mono (by simp <;> omega))
  have HBA := hid hba; clear hba
  have HL := hid (fun w1 (h : Below w.heap.size w w1) => (hl.below h (Nat.le_refl _)).wide (Nat.le_refl _) h.size)
  have HR := hid (fun w1 (h : Below w.heap.size w w1) => (hr.below h (Nat.le_refl _)).wide (Nat.le_refl _) h.size)
  have HS := hid hs; clear hs
  clear hl hr
  go_enter Try.func23, Try.ntmps23
  go_wp2_with fail
  refine (toIntS_row _ _ _ _ _ _ (HL.out _ (HBA.out _ _ _ _ (Below.refl _ _))) hn).mono ?_
  rintro e w1 ⟨g, rfl, r1, hg1, hb1⟩
  have HB1 := hid (HBA.out _ _ _ _ hb1)
  obtain ⟨hc, hf⟩ := bcell hb1
  have hz1 : w.heap.size + 1 + 1 + 1 ≤ w1.heap.size := by have := hb1.size; simpa using this
  have hz2 : w.heap.size < w1.heap.size := by omega
  have hz3 : w.heap.size + 1 < w1.heap.size := by omega
  have hz4 : w.heap.size + 1 + 1 < w1.heap.size := by omega
  simp only [World.size_alloc] at hg1
  have R1 := hid r1; clear r1
  go_wp2_with fail
  refine (toIntSS_nest _ _ _ _ _ _ (HR.out _ (HB1.out.setCell (by simp <;> omega) _)) hm HS.out).mono ?_
  rintro e w2 ⟨h, rs, rfl, r2, hrs, hb2⟩
  have HB2 := hid hb2
  have R2 := hid r2; clear r2
  have HRS := hid hrs; clear hrs
  obtain ⟨hc2, hf2⟩ := bcell hb2
  clear hb1 hb2
  have hz5 : w1.heap.size ≤ w2.heap.size := by have := HB2.out.size; simpa using this
  go_wp2_with fail
  refine bodyPost_ret (v := .agg #[.slice (some ⟨g, 0, none⟩) n n, .slice (some ⟨h, 0, none⟩) m m]) (by simp [results, Try.results23, go_sem, hc2, hc, hz3, hz4]) rfl ?_
  clear hc hf hc2 hf2
  have b2 := HB2.out
  simp only [World.size_alloc, World.size_setCell] at b2
  have r2 := R2.out
  simp only [World.size_setCell] at r2
  have hgl : g < w1.heap.size := R1.out.lt
  have k1 : RowAt w2 3 (g, n, l) := R1.out.kept ((b2.block g hgl).trans (Below.heap_setCell _ _ _ _ (fun e => by dsimp only at e; omega)))
  refine ⟨g, h, w1.heap.size, rs, rfl, ?_, by omega, hgl, ?_, HRS.out, ?_⟩
  · exact ((k1.kept (Below.heap_setCell _ _ _ _ (fun e => by dsimp only at e; omega))).kept (Below.heap_setCell _ _ _ _ (fun e => by dsimp only at e; omega))).kept (Below.heap_setCell _ _ _ _ (fun e => by dsimp only at e; omega))
  · refine (NestR.chg (D := fun k => k < w1.heap.size) r2 ?_ fun k hk => hk).wide (by simp only [World.size_setCell]; omega)
    refine ((((Chg.refl _ w2).set ?_ _).set ?_ _).set ?_ _) <;> (dsimp only; omega)
  · exact ((((HB1.out.setCell (by simp <;> omega) _).trans (b2.mono (by omega))).setCell (by simp <;> omega) _).setCell (by simp <;> omega) _).setCell (by simp <;> omega) _
set_option maxHeartbeats 1000000 in
theorem markModel_any (g h k n m : Nat) (l : List Int) (rs : List RowD) (k0 : Int) (w : World) (hi : Nat) (hg : RowAt w 3 (g, n, l)) (hgk : g < k) (hN : NestR k hi w 34 3 (.slice (some ⟨h, 0, none⟩) m m) rs) (hnl : n = l.length) (hn : n ≤ 1048576) (hrs : rs.length ≤ 1048576) (hs : sumLen (lensR rs) ≤ 4194304) (hns : ∀ r ∈ rs, r.2.2.length ≤ 1048576) (h0 : 0 ≤ k0) (h1 : k0 ≤ 2097152) :
    Calls Try.prog 26 #[.agg #[.slice (some ⟨g, 0, none⟩) n n, .slice (some ⟨h, 0, none⟩) m m], .int .i64 k0] w fun r w' => r = .returned (.int .i64 (k0 + n + sumLen (lensR rs))) ∧ Chg (fun b => b = g ∨ rng k hi b) w w' := by
  have b0 := bnew w (.cells #[.slice (some ⟨g, 0, none⟩) n n, .slice (some ⟨h, 0, none⟩) m m] 41)
  have c0 := heap_alloc_new w (.cells #[.slice (some ⟨g, 0, none⟩) n n, .slice (some ⟨h, 0, none⟩) m m] 41)
  have hgl := hg.lt
  have HG := hid (hg.kept (b0.block g hgl))
  have HN := hid (hN.bl b0)
  have HC0 := hid (chg_new w (.cells #[.slice (some ⟨g, 0, none⟩) n n, .slice (some ⟨h, 0, none⟩) m m] 41) (fun b => b = g ∨ rng k hi b))
  have HNL := hid hnl
  have HNS := hid hns
  have hmr := hid (hN.rd (by omega)).1
  have hlt := hN.own
  have hi0 : ∀ b, (Value.slice (some (⟨h, 0, none⟩ : Addr)) m m).ownBlock = some b → b < w.heap.size := fun b hb => (hN.own.own_lt hb).2
  have HI0 := hid hi0
  have hrr : ∀ r ∈ rs, r.1 < w.heap.size := fun r hr => (hN.row r hr).2.2.2.lt
  have HRR := hid hrr
  clear hg hN hnl hns hlt hi0 hrr b0
  go_enter Try.func26, Try.ntmps26
  go_wp2_with fail
  generalize w.alloc (.cells #[.slice (some ⟨g, 0, none⟩) n n, .slice (some ⟨h, 0, none⟩) m m] 41) = w1 at *
  refine (markIntS_row g n n 3 l k0 w1 HG.out HNL.out hn h0 (by omega)).mono ?_
  rintro e w2 ⟨rfl, hr2, hc2⟩
  have hne : w.heap.size ≠ g := by omega
  have cc := (hc2.block w.heap.size (Array.getElem?_eq_some_iff.1 c0).1 (by omega)).trans c0
  obtain ⟨k1, k2, _, _⟩ := at_get' cc
  have HN2 := hid (HN.out.chg hc2 fun b hb => by omega)
  have HC2 := hid (HC0.out.trans (hc2.wide fun b hb => .inl hb))
  have hs1 : IntKind.i64.wrap (k0 + (n : Int)) = k0 + n := IntWalk.i64_in _ (by omega)
  clear hc2 hr2 c0 cc
  go_wp2_with fail
  refine (markIntSS_any _ _ _ _ _ _ _ rs (k0 + n) w2 HN2.out hrs hs HNS.out (by omega) (by omega)).mono ?_
  rintro e w3 ⟨rfl, hN3, hc3⟩
  go_wp2_with fail
  go_ret
  exact ⟨rfl, HC2.out.trans (hc3.wide fun b hb => .inr hb)⟩
theorem RowAt.rd0 {w : World} {e : TypeId} {g c n : Nat} {l : List Int} (h : RowAt w e (g, c, l)) (hn : n = l.length) : Rd intS 0 w.heap.size w (some ⟨g, 0, none⟩) n l := by
  subst hn
  exact Rd_iff.2 (h.rd (D := rng 0 w.heap.size) ⟨Nat.zero_le _, h.lt⟩)
theorem NestR.rd0 {lo hi n c : Nat} {w : World} {et ei : TypeId} {A : Option Addr} {rs : List RowD} {r : List (List Int)} (h : NestR lo hi w et ei (.slice A n c) rs) (hr : rs.map (·.2.2) = r) (hm : r.length ≤ 9223372036854775807) : Rd (sliceS intS) 0 w.heap.size w A n r := by
  subst hr
  exact (h.rd (by simpa using hm)).2.wide (Nat.zero_le _) (Nat.le_refl _)
theorem lensR_of {rs : List RowD} {r : List (List Int)} (h : rs.map (·.2.2) = r) : lensR rs = r.map List.length := by
  subst h; simp [lensR]
theorem rows_le {rs : List RowD} {r : List (List Int)} {N : Nat} (h : rs.map (·.2.2) = r) (hs : ∀ x ∈ r, x.length ≤ N) : ∀ q ∈ rs, q.2.2.length ≤ N := by
  subst h; intro q hq; exact hs _ (List.mem_map_of_mem hq)
theorem lens_le {rs : List RowD} {N : Nat} (h : ∀ q ∈ rs, q.2.2.length ≤ N) : ∀ x ∈ lensR rs, x ≤ N := by
  intro x hx
  obtain ⟨q, hq, rfl⟩ := List.mem_map.1 hx
  exact h q hq
theorem marksSS_length (k : Int) (ns : List Nat) : (marksSS k ns).length = ns.length := by
  rw [← List.length_map (f := List.length), marksSS_len]
end Go.Proofs.Yteccacnojmilcaa
