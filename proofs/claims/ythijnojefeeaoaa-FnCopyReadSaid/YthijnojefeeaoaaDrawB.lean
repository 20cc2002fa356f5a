/- Briefs as they are drawn. -/
import Derived.Test.YthijnojefeeaoaaDrawS
namespace Go.Proofs.Ythijnojefeeaoaa
open Go.RowKit
attribute [local go_sem] Oper.semAt_some
theorem gt_cons0 {α : Type} [Inhabited α] (x : α) (l : List α) : gt (x :: l) 0 = x := by simp [gt]
theorem gt_consS {α : Type} [Inhabited α] (x : α) (l : List α) (k : Nat) : gt (x :: l) (k + 1) = gt l k := by simp [gt]
/-- Briefs in blocks of the call's own; two may share their words. -/
structure Lse (lo : Nat) (w : World) (v : Value) (ds : List BrD) : Prop where
  own : OwnR brvS lo w 31 v (ds.map brV)
  row : ∀ d ∈ ds, lo ≤ d.2.1 ∧ v.ownBlock ≠ some d.2.1 ∧ RowS w d.2
theorem NestB.lse {lo hi lo' : Nat} {w : World} {v : Value} {ds : List BrD} (h : NestB lo hi w v ds) (hl : lo' ≤ lo) : Lse lo' w v ds :=
  ⟨h.own.low hl, fun d hd => by obtain ⟨a, b, c, e⟩ := h.row d hd; exact ⟨by omega, c, e⟩⟩
theorem Lse.rd {lo : Nat} {w : World} {ds : List BrD} {A : Option Addr} {n c : Nat} (h : Lse lo w (.slice A n c) ds) (hm : ds.length ≤ 9223372036854775807) : n = ds.length ∧ Rd briefS lo w.heap.size w A n (ds.map brT) := by
  obtain ⟨hn, hrd⟩ := h.own.rd (by rw [List.length_map]; exact hm)
  rw [List.length_map] at hn
  refine ⟨hn, Rd_iff.2 ⟨by rw [List.length_map]; exact hn, hrd.2.1, fun h0 => ?_⟩⟩
  obtain ⟨b, off, hA, h1, h2, ha⟩ := hrd.2.2 h0
  refine ⟨b, off, hA, ⟨h1, h2⟩, fun k hk => ?_⟩
  obtain ⟨f, hf, he⟩ := ha k hk
  have hkl : k < ds.length := by omega
  have hmem := gt_mem hkl
  obtain ⟨r1, r3, r4⟩ := h.row _ hmem
  have he' : f 0 = .string (gt ds k).1 ∧ (gt ds k).1.size ≤ 9223372036854775807 ∧ f 1 = rowTV (gt ds k).2 := by
    have he2 : brvS.E (rng lo w.heap.size) w (gt (ds.map brV) k) f := he
    rw [gt_map hkl] at he2
    exact he2
  refine ⟨f, hf, ?_⟩
  rw [gt_map hkl]
  exact ⟨⟨he'.1, he'.2.1⟩, _, _, he'.2.2, r4.cap, r4.rd ⟨r1, r4.lt⟩⟩
theorem Lse.keep {lo : Nat} {w w' : World} {v : Value} {ds : List BrD} (h : Lse lo w v ds) {D : Nat → Prop} (hc : Chg D w w') (hd : ∀ k, D k → k < lo) : Lse lo w' v ds :=
  ⟨h.own.flat brvS_flat hc (fun k hk hD => by have := (h.own.own_lt hk).1; have := hd k hD; omega), fun d hm => by
    obtain ⟨h1, h3, h4⟩ := h.row d hm
    exact ⟨h1, h3, h4.kept (hc.block _ h4.lt (fun hD => by have := hd _ hD; omega))⟩⟩
theorem Lse.bl {lo : Nat} {w w' : World} {v : Value} {ds : List BrD} (h : Lse lo w v ds) (hb : Below w.heap.size w w') : Lse lo w' v ds :=
  ⟨h.own.bl hb, fun d hm => by
    obtain ⟨h1, h3, h4⟩ := h.row d hm
    exact ⟨h1, h3, h4.kept (hb.block _ h4.lt)⟩⟩
/-- The first brief's cells. -/
theorem Lse.at0 {lo g n c : Nat} {w : World} {d : BrD} {ds : List BrD} (h : Lse lo w (.slice (some ⟨g, 0, none⟩) n c) (d :: ds)) :
    w.cell? ⟨g, 0, none⟩ = some (.string d.1) ∧ w.cell? ⟨g, 1, none⟩ = some (rowTV d.2) ∧ w.frozen? ⟨g, 0, none⟩ = false ∧ w.frozen? ⟨g, 1, none⟩ = false ∧ d.1.size ≤ 9223372036854775807 := by
  obtain ⟨hn, hg, hc, hm, cur, hh, hs, hx⟩ := brv_open h.own
  have h0 := hx 0 (by rw [hn]; simp)
  rw [List.map_cons, gt_cons0] at h0
  obtain ⟨a, b, c⟩ := h0
  refine ⟨?_, ?_, frozen_of_row _ _ _ _ _ hh, frozen_of_row _ _ _ _ _ hh, b⟩
  · rw [cell_of_row w _ _ cur _ (0, 0) hh]; exact a
  · rw [cell_of_row w _ _ cur _ (0, 0) hh]; exact c
/-- The first brief is set anew. -/
theorem Lse.set0 {lo g n c : Nat} {w : World} {d d' : BrD} {ds : List BrD} (h : Lse lo w (.slice (some ⟨g, 0, none⟩) n c) (d :: ds)) {o : Nat} {v : Value} (ho : (o = 0 ∧ v = .string d'.1 ∧ d'.1.size ≤ 9223372036854775807 ∧ d'.2 = d.2) ∨ (o = 1 ∧ v = rowTV d'.2 ∧ d'.1 = d.1))
    (hr : RowS w d'.2) (hlo : lo ≤ d'.2.1) (hne : d'.2.1 ≠ g) : Lse lo (w.setCell ⟨g, o, none⟩ v) (.slice (some ⟨g, 0, none⟩) n c) (d' :: ds) := by
  obtain ⟨hn, hg, hc, hm, cur, hh, hs, hx⟩ := brv_open h.own
  have hpos : 0 < n := by rw [hn]; simp
  have hset := heap_setCell_same w g o cur 31 v hh
  have hoth : ∀ i, i ≠ g → (w.setCell ⟨g, o, none⟩ v).heap[i]? = w.heap[i]? := fun i hi => Below.heap_setCell w ⟨g, o, none⟩ v i hi
  refine ⟨brv_shut (by rw [hn]; simp) hg hc hm hset (by simpa using hs) fun i hi => ?_, fun q hq => ?_⟩
  · have hxi := hx i hi
    cases i with
    | zero =>
      rw [List.map_cons, gt_cons0] at hxi ⊢
      obtain ⟨a, b, e⟩ := hxi
      rcases ho with ⟨rfl, rfl, hz, h2⟩ | ⟨rfl, rfl, h1⟩
      · refine ⟨?_, hz, ?_⟩
        · rw [Array.getElem?_setIfInBounds, if_pos (by omega), if_pos (by omega)]; rfl
        rw [Array.getElem?_setIfInBounds, if_neg (by omega), e]
        show some (rowTV d.2) = some (rowTV d'.2)
        rw [h2]
      · refine ⟨?_, ?_, ?_⟩
        · rw [Array.getElem?_setIfInBounds, if_neg (by omega), a]
          show some (Value.string d.1) = some (.string d'.1)
          rw [h1]
        · show d'.1.size ≤ _
          rw [h1]; exact b
        · rw [Array.getElem?_setIfInBounds, if_pos (by omega), if_pos (by omega)]; rfl
    | succ i =>
      rw [List.map_cons, gt_consS] at hxi ⊢
      have hoi : o = 0 ∨ o = 1 := by rcases ho with ⟨h, _⟩ | ⟨h, _⟩; exact .inl h; exact .inr h
      refine ⟨?_, hxi.2.1, ?_⟩
      · rw [Array.getElem?_setIfInBounds, if_neg (by omega)]; exact hxi.1
      · rw [Array.getElem?_setIfInBounds, if_neg (by omega)]; exact hxi.2.2
  · have hgb : ∀ k, k ≠ g → (Value.slice (some ⟨g, 0, none⟩) n c).ownBlock ≠ some k := fun k hk e => by
      have e' : some g = some k := e
      injection e' with e'
      exact hk e'.symm
    rcases List.mem_cons.1 hq with rfl | hq
    · exact ⟨hlo, hgb _ hne, hr.kept (hoth _ hne)⟩
    · obtain ⟨r1, r2, r3⟩ := h.row q (List.mem_cons_of_mem _ hq)
      refine ⟨r1, r2, r3.kept (hoth _ (fun e => r2 ?_))⟩
      rw [e]; rfl
theorem Lse.grow {lo n' c' : Nat} {A' : Option Addr} {w w' : World} {V : Value} {d : BrD} {ds : List BrD} (h : Lse lo w V ds) (hd : d ∈ ds) (hC : Chg (fun j => V.ownBlock = some j) w w') (hO : OwnR brvS lo w' 31 (.slice A' n' c') (ds.map brV ++ [brV d])) (ho : (Value.slice A' n' c').ownBlock = V.ownBlock ∨ ∃ g3, (Value.slice A' n' c').ownBlock = some g3 ∧ w.heap.size ≤ g3) :
    Lse lo w' (.slice A' n' c') (ds ++ [d]) := by
  have hrow : ∀ q ∈ ds, lo ≤ q.2.1 ∧ (Value.slice A' n' c').ownBlock ≠ some q.2.1 ∧ RowS w' q.2 := fun q hq => by
    obtain ⟨q1, q3, q4⟩ := h.row q hq
    refine ⟨q1, ?_, q4.chg hC q3⟩
    rcases ho with ho | ⟨g3, ho, hg3⟩
    · rw [ho]; exact q3
    · rw [ho]
      intro e
      injection e with e
      have := q4.lt
      omega
  refine ⟨by rw [List.map_append]; exact hO, fun q hq => ?_⟩
  rcases List.mem_append.1 hq with hq | hq
  · exact hrow q hq
  · rw [List.mem_singleton] at hq
    subst hq
    exact hrow q hd
/-- A drawn brief is small. -/
def smallB (b : BriefT) : Prop := b.1.size ≤ 10 ∧ b.2.length ≤ 3 ∧ ∀ s ∈ b.2, s.size ≤ 10
end Go.Proofs.Ythijnojefeeaoaa
