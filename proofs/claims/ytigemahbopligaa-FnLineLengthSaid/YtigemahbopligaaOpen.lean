/- From what an argument reads as (the row's own reading) to the predicates of Lib; and a law's closing step, for every law alike. Conditions: none. -/
import Derived.Test.YtigemahbopligaaLib
import Derived.ProofKit
import Derived.Deep.Slices
namespace Go.Proofs.Ytigemahbopligaa
open Go.RowKit Go.Deep Go.ChangeShapes Go.WideShapes

/-- What can be read at type t reads as S says. -/
structure Opens {α : Type} (P : Program) (t : TypeId) (S : Shape α) : Prop where
  size : P.cellsOf t = S.sz
  pos : 0 < S.sz
  go : ∀ (H : Type) (enc : TypeId × Value → H) (w : World) (spare : Nat → Bool) (held : Bool) (fuel : Nat) (cs : List Value) (x : DataW H × List MemPlace),
    DataW.trod enc P w 0 spare held fuel t cs = some x → ∃ d : α, cs.length = S.sz ∧ S.E (rng 0 w.heap.size) w d (fun j => cs.getD j undef)

theorem Opens.int {P : Program} {t : TypeId} (ht : P.underlying t = some (.int .i64)) (hc : P.cellsOf t = 1) : Opens P t intS :=
  ⟨hc, by show 0 < 1; omega, fun H enc w spare held fuel cs x h => by
    obtain ⟨n, rfl, _, _⟩ := DataW.trod_int ht h
    exact ⟨n, rfl, rfl⟩⟩
theorem Opens.byte {P : Program} {t : TypeId} (ht : P.underlying t = some (.int .u8)) (hc : P.cellsOf t = 1) : Opens P t byteS :=
  ⟨hc, by show 0 < 1; omega, fun H enc w spare held fuel cs x h => by
    obtain ⟨n, rfl, _, hw⟩ := DataW.trod_int ht h
    have hb : 0 ≤ n ∧ n ≤ 255 := by
      simp [Lit.wf, IntKind.min, IntKind.max, IntKind.signed, IntKind.bits] at hw
      omega
    refine ⟨UInt8.ofNat n.toNat, rfl, ?_⟩
    show Value.int .u8 n = .int .u8 ((UInt8.ofNat n.toNat).toNat : Int)
    congr 1
    simp [UInt8.toNat_ofNat']
    omega⟩
theorem Opens.str {P : Program} {t : TypeId} (ht : P.underlying t = some .string) (hc : P.cellsOf t = 1) : Opens P t strS :=
  ⟨hc, by show 0 < 1; omega, fun H enc w spare held fuel cs x h => by
    obtain ⟨s, rfl, _, hw⟩ := DataW.trod_string ht h
    exact ⟨s, rfl, rfl, hw⟩⟩
theorem cell_spot {w : World} {a : Addr} {v : Value} (h : w.cell? a = some v) : a.spot = none := by
  unfold World.cell? at h
  split at h
  · cases hs : a.spot with
    | none => rfl
    | some s => simp [hs] at h
  · cases h
theorem add_lit {b off i : Nat} : (⟨b, off, none⟩ : Addr).add i = ⟨b, off + i, none⟩ := by unfold Addr.add; split <;> simp_all
theorem Opens.slice {α : Type} [Inhabited α] {P : Program} {t e : TypeId} {S : Shape α} (ht : P.underlying t = some (.slice e)) (hc : P.cellsOf t = 1) (he : Opens P e S) : Opens P t (sliceS S) :=
  ⟨hc, by show 0 < 1; omega, fun H enc w spare held fuel cs x h => by
    rcases open_slice ht h with ⟨rfl, _⟩ | ⟨a, len, cap, m, n, D, Pl, rfl, _, hl, hm, hmm, _, hi⟩
    · exact ⟨[], rfl, none, 0, rfl, by simp, Rd_iff.1 (Rd.nil S _ _ _ _)⟩
    · have hlm : len ≤ m := by rw [hmm]; split <;> omega
      have hx : ∀ i, i < len → ∃ d : α, ∃ f : Nat → Value, (∀ j, j < S.sz → w.cell? ((a.add (i * S.sz)).add j) = some (f j)) ∧ S.E (rng 0 w.heap.size) w d f := fun i hil => by
        obtain ⟨cs', hcs, htr⟩ := hi i (by omega)
        obtain ⟨d, hlen, hE⟩ := he.go H enc w spare held n cs' _ htr
        rw [he.size] at hcs
        obtain ⟨_, hcl, hat⟩ := World.cells?_some hcs
        refine ⟨d, fun j => cs'.getD j undef, fun j hj => ?_, hE⟩
        rw [hat j hj, List.getElem?_eq_getElem (by omega)]
        simp [show j < cs'.length by omega]
      obtain ⟨d, hd⟩ := choose_lt hx
      have hlx : ((List.range len).map d).length = len := by simp
      refine ⟨(List.range len).map d, rfl, some a, cap, by rw [hlx]; rfl, by rw [hlx]; exact hl, ?_⟩
      rw [hlx]
      refine Rd_iff.1 ⟨hlx.symm, by simp only [maxLen] at hm; omega, fun hn => ?_⟩
      obtain ⟨f0, hf0, _⟩ := hd 0 hn
      have h00 := hf0 0 he.pos
      rw [show (a.add (0 * S.sz)).add 0 = a by simp [Addr.add]] at h00
      obtain ⟨b, off, sp⟩ := a
      have hsp : sp = none := cell_spot h00
      subst hsp
      refine ⟨b, off, rfl, Nat.zero_le _, block_lt_of_cell h00, fun k hk => ?_⟩
      obtain ⟨f, hf, hE⟩ := hd k hk
      refine ⟨f, fun j hj => ?_, ?_⟩
      · have := hf j hj
        rw [add_lit, add_lit] at this
        exact this
      · have e1 : gt ((List.range len).map d) k = d k := by simp [gt, hk]
        rw [e1]; exact hE⟩
theorem Opens.pair {α β : Type} {P : Program} {t : TypeId} {f0 f1 : Field} {S : Shape α} {T : Shape β} (ht : P.underlying t = some (.struct #[f0, f1])) (hc : P.cellsOf t = S.sz + T.sz) (h0 : Opens P f0.type S) (h1 : Opens P f1.type T)
    (o0 : f0.offset = 0) (o1 : f1.offset = S.sz) : Opens P t (pairS S T) :=
  ⟨hc, by have := h0.pos; show 0 < S.sz + T.sz; omega, fun H enc w spare held fuel cs x h => by
    obtain ⟨xs, n, _, _, hlen, hxl, hat⟩ := DataW.trod_struct ht h
    have g0 := hat 0 f0 rfl
    have g1 := hat 1 f1 rfl
    have hxl2 : xs.length = 2 := hxl
    rw [List.getElem?_eq_getElem (by omega)] at g0 g1
    rw [o0, h0.size, List.drop_zero] at g0
    rw [o1, h1.size] at g1
    obtain ⟨d0, l0, E0⟩ := h0.go H enc w spare held n _ _ g0
    obtain ⟨d1, l1, E1⟩ := h1.go H enc w spare held n _ _ g1
    rw [hc] at hlen
    refine ⟨(d0, d1), hlen, S.same _ _ _ _ _ (fun j hj => ?_) E0, T.same _ _ _ _ _ (fun j hj => ?_) E1⟩
    · show ((cs.take S.sz).getD j undef) = cs.getD j undef
      simp [List.getD, hj]
    · show (((cs.drop S.sz).take T.sz).getD j undef) = cs.getD (S.sz + j) undef
      simp [List.getD, hj]⟩

section
variable {H : Type} {enc : TypeId × Value → H} {P : Program} {W W' : World} {spare : Nat → Bool} {held : Bool} {r : Reach} {b0 : Nat} {t : TypeId} {v : Value} {d : DataW H} {p : List MemPlace}
/-- A slice that came in. -/
theorem arg_slice {α : Type} [Inhabited α] {S : Shape α} {e : TypeId} (ht : P.underlying t = some (.slice e)) (hS : Opens P t (sliceS S)) (hv : Value.okWide P W r b0 t v) (h : DataW.Trod enc P W 0 spare held t v d p) :
    ∃ (A : Option Addr) (c : Nat) (l : List α), v = .slice A l.length c ∧ l.length ≤ c ∧ Rd S 0 W.heap.size W A l.length l := by
  obtain ⟨a, len, cap, rfl⟩ := okWide_slice ht hv
  obtain ⟨fuel, hf⟩ := h
  obtain ⟨l, _, A, c, h1, h2, h3⟩ := hS.go H enc W spare held fuel _ _ hf
  exact ⟨A, c, l, h1, h2, Rd_iff.2 h3⟩
/-- A struct of two one-cell fields that came in. -/
theorem arg_pair {α β : Type} {S : Shape α} {T : Shape β} {fs : Array Field} (ht : P.underlying t = some (.struct fs)) (hS : Opens P t (pairS S T)) (h1 : S.sz = 1) (h2 : T.sz = 1) (hv : Value.okWide P W r b0 t v) (h : DataW.Trod enc P W 0 spare held t v d p) :
    ∃ (v0 v1 : Value) (x : α × β), v = .agg #[v0, v1] ∧ S.E (rng 0 W.heap.size) W x.1 (fun _ => v0) ∧ T.E (rng 0 W.heap.size) W x.2 (fun _ => v1) := by
  obtain ⟨cs, rfl, hsz⟩ := okWide_struct ht hv
  obtain ⟨fuel, hf⟩ := h
  obtain ⟨x, hl, e1, e2⟩ := hS.go H enc W spare held fuel _ _ hf
  obtain ⟨l⟩ := cs
  have hl2 : l.length = 2 := by
    have : (pairS S T).sz = 2 := by show S.sz + T.sz = 2; omega
    rw [this] at hl
    exact hl
  match l, hl2 with
  | [v0, v1], _ =>
    refine ⟨v0, v1, x, rfl, S.same _ _ _ _ _ (fun j hj => ?_) e1, T.same _ _ _ _ _ (fun j hj => ?_) e2⟩
    · obtain rfl : j = 0 := by omega
      rfl
    · obtain rfl : j = 0 := by omega
      rw [h1]
      rfl
theorem arg_model {fs : Array Field} (ht : P.underlying t = some (.struct fs)) (hS : Opens P t (pairS (sliceS intS) (sliceS (sliceS intS)))) (hv : Value.okWide P W r b0 t v) (h : DataW.Trod enc P W 0 spare held t v d p) :
    ∃ (A : Option Addr) (c : Nat) (l : List Int) (B : Option Addr) (e : Nat) (m : List (List Int)), v = .agg #[.slice A l.length c, .slice B m.length e] ∧ Rd intS 0 W.heap.size W A l.length l ∧ Rd (sliceS intS) 0 W.heap.size W B m.length m := by
  obtain ⟨v0, v1, x, rfl, ⟨A, c, e1, _, r1⟩, ⟨B, e, e2, _, r2⟩⟩ := arg_pair ht hS rfl rfl hv h
  simp only [] at e1 e2
  exact ⟨A, c, x.1, B, e, x.2, by rw [e1, e2], Rd_iff.2 r1, Rd_iff.2 r2⟩
theorem arg_brief {fs : Array Field} (ht : P.underlying t = some (.struct fs)) (hS : Opens P t briefS) (hv : Value.okWide P W r b0 t v) (h : DataW.Trod enc P W 0 spare held t v d p) :
    ∃ (s : ByteArray) (A : Option Addr) (c : Nat) (l : List ByteArray), v = .agg #[.string s, .slice A l.length c] ∧ s.size ≤ 9223372036854775807 ∧ Rd strS 0 W.heap.size W A l.length l := by
  obtain ⟨v0, v1, x, rfl, ⟨e1, hs⟩, ⟨A, c, e2, _, r2⟩⟩ := arg_pair ht hS rfl rfl hv h
  simp only [] at e1 e2
  exact ⟨x.1, A, c, x.2, by rw [e1, e2], hs, Rd_iff.2 r2⟩
theorem trodAll_below (hl : laidOutB P = true) (hb : Below W.heap.size W W') : ∀ (ts : List TypeId) (vs : List Value) (ds : List (DataW H)) (ps : List MemPlace),
    DataW.TrodAll enc P W 0 (fun _ => true) true ts vs ds ps → (∀ t ∈ ts, P.readableRec t = true ∧ t < P.types.size) → (∀ x ∈ ps, x.block < W.heap.size) →
    DataW.TrodAll enc P W' 0 (fun b => decide (b < W.heap.size)) true ts vs ds ps
  | [], vs, ds, ps => fun h _ _ => by
    obtain ⟨rfl, rfl, rfl⟩ := trodAll_nil h
    exact trodAll_mk0
  | t :: ts, vs, ds, ps => fun h hr hp => by
    obtain ⟨v, vs', d, ds', p, q, rfl, rfl, rfl, hd, hrest⟩ := trodAll_cons h
    have hin := hr t (by simp)
    exact ⟨p, q, Below.trod hl hin.1 hin.2 hd hb fun x hx => hp x (by simp [hx]), trodAll_below hl hb ts vs' ds' q hrest (fun t' ht' => hr t' (by simp [ht'])) fun x hx => hp x (by simp [hx]), rfl⟩
/-- A law's closing step: it has returned true, and of what was there nothing has turned. -/
theorem law_post {f : Func} {s : ChangeSpec} {apart fresh handsOn : Bool} {args : Array Value} {ds gs : List (DataW H)} {before : List MemPlace} {tb : TypeId}
    (hW : DataW.Whole enc P f.params.toList s.vars apart W args.toList ds gs before) (hl : laidOutB P = true) (hb : Below W.heap.size W W') (hr : ∀ t ∈ f.params.toList, P.readableRec t = true ∧ t < P.types.size)
    (hres : f.resultTypes = #[tb]) (htb : P.underlying tb = some .bool) (hv : s.vars = []) (h1 : (s.fn H (ds ++ gs)).results = [.lit (.bool true)]) (h2 : (s.fn H (ds ++ gs)).args = ds) (h3 : (s.fn H (ds ++ gs)).vars = []) :
    s.post enc P f apart fresh handsOn false W args (.bool true) W' := by
  have hW' := hW
  obtain ⟨p, q, hA, hV, rfl, hfz, hnd⟩ := hW
  refine ⟨ds, gs, p ++ q, [], p, [], hW', ?_, ?_, ?_, hb.frame _, fun h => by cases h⟩
  · rw [h1, hres]
    exact trodAll_mk1 (shut_bool htb true)
  · rw [h2]
    exact trodAll_below hl hb _ _ _ _ hA hr fun x hx => hW'.lt x (by simp [hx])
  · rw [h3, hv]
    rfl
end
end Go.Proofs.Ytigemahbopligaa
