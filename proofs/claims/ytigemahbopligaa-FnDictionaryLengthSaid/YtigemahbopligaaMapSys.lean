/- The two maps of a system: by letters, by strokes. -/
import Derived.Test.YtigemahbopligaaMapL
import Derived.Test.YtigemahbopligaaWordPure
import Derived.Test.YtigemahbopligaaSeat
import Derived.DeepKeys4
import Derived.Maps.OwnOps
namespace Go.Proofs.Ytigemahbopligaa
open Go.RowKit Go.Maps
theorem u8_keyed : Keyed Try.prog 5 := int_keyed Try.underlying5
theorem stroke_law : WideMaps.KeyLaw Try.prog 64 := deep_law_laid Try.laidOut (m := 2) (by omega) (of_decide_eq_true (by kernel_rfl)) (by kernel_rfl) (by rw [Try.underlying64])
theorem stroke_keyed : Keyed Try.prog 64 := Keyed.of_law stroke_law
theorem stroke_zero (w : World) : (zeroValue 64).run Try.prog w = .ok (.agg #[.int .i64 0, .int .i64 0]) w := by kernel_rfl
theorem u8_zero (w : World) : (zeroValue 5).run Try.prog w = .ok (.int .u8 0) w := by kernel_rfl
def u8V (c : UInt8) : Value := .int .u8 (c.toNat : Int)
def stV (p : Int × Int) : Value := .agg #[.int .i64 p.1, .int .i64 p.2]
theorem u8_key (c : UInt8) : ∃ l, keyOf Try.prog 5 (u8V c) = some l := ⟨_, keyOf_int_mk Try.underlying5 (WalkArith.wf_u8 (by have := c.toNat_lt; omega))⟩
theorem stroke_key (p : Int × Int) (h : strokeOk p = true) : ∃ l, keyOf Try.prog 64 (stV p) = some l := by
  rw [strokeOk_yes] at h
  have c1 : Try.prog.cellsOf 3 = 1 := by kernel_rfl
  have c2 : Try.prog.cellsOf 64 = 2 := by kernel_rfl
  have w1 : (Lit.int .i64 p.1).wf = true := WalkArith.wf_i64 (by omega)
  have w2 : (Lit.int .i64 p.2).wf = true := WalkArith.wf_i64 (by omega)
  refine ⟨_, (keyOf_asKey (d := (DataW.agg [.lit (.int .i64 p.1), .lit (.int .i64 p.2)] : DataW Unit)) (H := Unit) (enc := fun _ => ()) (w := default) (base := 0) (sp := fun _ => true) (held := true) (ps := []) (by kernel_rfl) (by rw [Try.underlying64]) (by simp [stV, Value.formed, Try.underlying64, c2]) ⟨3, ?_⟩).1⟩
  simp [stV, DataW.trod, Try.underlying64, Try.underlying3, Value.cells, c1, c2, w1, w2]
/-- The one letter of a sign. -/
def byte0 (s : ByteArray) : UInt8 := gt s.data.toList 0
theorem byte0_one {s : ByteArray} (h : s.size = 1) : byte0 s = s[0] ∧ s.data.toList = [byte0 s] := by
  have h1 := one_byte h
  have h2 : byte0 s = s[0] := by
    unfold byte0
    rw [h1]
    rfl
  exact ⟨h2, by rw [h2]; exact h1⟩
def kvS (l : List SignT) : List (Value × Value) := l.map fun x => (u8V (byte0 x.1), stV x.2)
def kvL (l : List SignT) : List (Value × Value) := l.map fun x => (stV x.2, u8V (byte0 x.1))
theorem kvS_key (l : List SignT) : ∀ p ∈ kvS l, ∃ k, keyOf Try.prog 5 p.1 = some k := fun p hp => by
  obtain ⟨x, _, rfl⟩ := List.mem_map.1 hp
  exact u8_key _
theorem kvL_key {l : List SignT} (h : ∀ x ∈ l, signOk x = true) : ∀ p ∈ kvL l, ∃ k, keyOf Try.prog 64 p.1 = some k := fun p hp => by
  obtain ⟨x, hx, rfl⟩ := List.mem_map.1 hp
  have := h x hx
  unfold signOk at this
  rw [Bool.and_eq_true] at this
  exact stroke_key _ this.2
theorem u8V_inj {a b : UInt8} (h : u8V a = u8V b) : a = b := by
  unfold u8V at h
  injection h with _ h
  exact UInt8.toNat_inj.1 (by omega)
theorem stV_inj {a b : Int × Int} (h : stV a = stV b) : a = b := by
  unfold stV at h
  injection h with h
  have h1 := congrArg (fun x : Array Value => (x[0]?, x[1]?)) h
  simp at h1
  exact Prod.ext h1.1 h1.2
theorem sign_size {x : SignT} (h : signOk x = true) : x.1.size = 1 := by
  unfold signOk at h
  rw [Bool.and_eq_true] at h
  exact letterOk_size h.1
theorem sign_eq {a x : SignT} (ha : signOk a = true) (hx : x.1.size = 1) (h : byte0 a.1 = byte0 x.1) : a.1 = x.1 := by
  refine str_ext ?_
  rw [(byte0_one (sign_size ha)).2, (byte0_one hx).2, h]
theorem makeMap_rule {P : Program} {t k e : TypeId} (ht : P.underlying t = some (.map k e)) (n : Int) (w : World) : (Instr.makeMap t (some (.int .i64 n))).run P w = .ok (.map (some w.heap.size)) (w.alloc (.map #[] 0)) := by
  simp [Instr.makeMap, run_underlying ht, asInt, asIntOf]
section
variable {w : World} {b : Nat} {l : List SignT}
/-- A letter, looked up. -/
theorem look_letter (h : MapL w b (kvS l)) (c : UInt8) :
    (∃ x ∈ l, byte0 x.1 = c ∧ (Instr.lookup 116 (.map (some b)) (u8V c) true).run Try.prog w = .ok (.tuple #[stV x.2, .bool true]) w) ∨ ((∀ x ∈ l, byte0 x.1 ≠ c) ∧ (Instr.lookup 116 (.map (some b)) (u8V c) true).run Try.prog w = .ok (.tuple #[stV (0, 0), .bool false]) w) := by
  obtain ⟨lx, hlx⟩ := u8_key c
  rcases h.look u8_keyed Try.underlying116 (stroke_zero w) (kvS_key l) hlx with ⟨p, hp, h1, h2⟩ | ⟨h1, h2⟩
  · obtain ⟨x, hx, rfl⟩ := List.mem_map.1 hp
    exact .inl ⟨x, hx, u8V_inj h1, h2⟩
  · exact .inr ⟨fun x hx e => h1 (u8V (byte0 x.1), stV x.2) (List.mem_map.2 ⟨x, hx, rfl⟩) (by rw [e]), h2⟩
/-- A stroke, looked up. -/
theorem look_stroke (h : MapL w b (kvL l)) (hl : ∀ x ∈ l, signOk x = true) (p : Int × Int) (hp : strokeOk p = true) :
    (∃ x ∈ l, x.2 = p ∧ (Instr.lookup 133 (.map (some b)) (stV p) true).run Try.prog w = .ok (.tuple #[u8V (byte0 x.1), .bool true]) w) ∨ ((∀ x ∈ l, x.2 ≠ p) ∧ (Instr.lookup 133 (.map (some b)) (stV p) true).run Try.prog w = .ok (.tuple #[u8V 0, .bool false]) w) := by
  obtain ⟨lx, hlx⟩ := stroke_key p hp
  rcases h.look stroke_keyed Try.underlying133 (u8_zero w) (kvL_key hl) hlx with ⟨q, hq, h1, h2⟩ | ⟨h1, h2⟩
  · obtain ⟨x, hx, rfl⟩ := List.mem_map.1 hq
    exact .inl ⟨x, hx, stV_inj h1, h2⟩
  · exact .inr ⟨fun x hx e => h1 (stV x.2, u8V (byte0 x.1)) (List.mem_map.2 ⟨x, hx, rfl⟩) (by rw [e]), h2⟩
theorem store_letter (h : MapL w b (kvS l)) (x : SignT) (hn : ∀ a ∈ l, byte0 a.1 ≠ byte0 x.1) :
    ∃ w', (Instr.mapUpdate 116 (.map (some b)) (u8V (byte0 x.1)) (stV x.2)).run Try.prog w = .ok () w' ∧ MapL w' b (kvS (l ++ [x])) ∧ Chg (fun j => j = b) w w' := by
  obtain ⟨lx, hlx⟩ := u8_key (byte0 x.1)
  obtain ⟨w', h1, h2, h3⟩ := h.store u8_keyed Try.underlying116 (kvS_key l) hlx (fun p hp e => by
    obtain ⟨a, ha, rfl⟩ := List.mem_map.1 hp
    exact hn a ha (u8V_inj e)) (stV x.2)
  exact ⟨w', h1, by unfold kvS; rw [List.map_append]; exact h2, h3⟩
theorem store_stroke (h : MapL w b (kvL l)) (hl : ∀ x ∈ l, signOk x = true) (x : SignT) (hp : strokeOk x.2 = true) (hn : ∀ a ∈ l, a.2 ≠ x.2) :
    ∃ w', (Instr.mapUpdate 133 (.map (some b)) (stV x.2) (u8V (byte0 x.1))).run Try.prog w = .ok () w' ∧ MapL w' b (kvL (l ++ [x])) ∧ Chg (fun j => j = b) w w' := by
  obtain ⟨lx, hlx⟩ := stroke_key x.2 hp
  obtain ⟨w', h1, h2, h3⟩ := h.store stroke_keyed Try.underlying133 (kvL_key hl) hlx (fun p hp e => by
    obtain ⟨a, ha, rfl⟩ := List.mem_map.1 hp
    exact hn a ha (stV_inj e)) (u8V (byte0 x.1))
  exact ⟨w', h1, by unfold kvL; rw [List.map_append]; exact h2, h3⟩
end
theorem clash_letter {l : List SignT} (hl : ∀ x ∈ l, signOk x = true) {x : SignT} (hx : x.1.size = 1) : (l.any fun a => clash a x) = true ↔ (∃ a ∈ l, byte0 a.1 = byte0 x.1) ∨ ∃ a ∈ l, a.2 = x.2 := by
  rw [List.any_eq_true]
  constructor
  · rintro ⟨a, ha, hc⟩
    unfold clash at hc
    rw [Bool.or_eq_true, eqD_iff, eqD_iff] at hc
    rcases hc with hc | hc
    · exact .inl ⟨a, ha, by rw [hc]⟩
    · exact .inr ⟨a, ha, hc⟩
  · rintro (⟨a, ha, hc⟩ | ⟨a, ha, hc⟩)
    · exact ⟨a, ha, by unfold clash; rw [sign_eq (hl a ha) hx hc, eqD_self]; rfl⟩
    · exact ⟨a, ha, by unfold clash; rw [hc, eqD_self, Bool.or_true]⟩
end Go.Proofs.Ytigemahbopligaa
