/- General lemmas of ours on worlds, on what a slice reads as, and on regions that draw their order. Conditions: none; nothing here names the program. -/
import Derived.WalkKit
import Derived.WalkSpells
import Derived.WalkLawsBesides
import Derived.Deep.QuietTactic
import Derived.BigQuiet
namespace Go.Proofs.Ytigemahbopligaa
open Go.RowKit

theorem hid {p : Prop} (h : p) : Hid p := h

/-- A world that comes after w0: below block B all is as it was. -/
structure Aft (B : Nat) (w0 : World) where
  val : World
  prop : Below B w0 val
instance (B : Nat) (w0 : World) : Inhabited (Aft B w0) := ⟨⟨w0, Below.refl B w0⟩⟩
theorem wp_region_aft {P : Program} {id : Nat} {Q : Exit → Act → World → Prop} {a : Act} {w w0 : World} {B : Nat} {l : List Oper} (h0 : Below B w0 w) (hm : P.follows .mixedOrders = true) (hB : Region.lexB .any l.toArray = true)
    (h : wpQuiet P l.toArray (fun w' => ∃ p : Aft B w0, w' = p.val) (fun a' => ∀ w', (∃ p : Aft B w0, w' = p.val) → Q .normal a' w') l a) : (Code.region id l.toArray true).wp P Q a w :=
  wp_region_quiet (C := fun w' => ∃ p : Aft B w0, w' = p.val) hm hB ⟨⟨_, h0.drew⟩, rfl⟩ (by simpa using h)
theorem aft_cell {B : Nat} {w0 : World} {b o : Nat} {v : Value} (hb : b < B) (h : w0.cell? ⟨b, o, none⟩ = some v) (p : Aft B w0) : p.val.cell? ⟨b, o, none⟩ = some v := (p.prop.cell (p := ⟨b, o, none⟩) hb).trans h
/-- A callee's contract, met in such a world. -/
theorem aft_call {P : Program} {f : FuncId} {args : Array Value} {B : Nat} {w0 : World} {p : Aft B w0} {v : Value}
    (h : Calls P f args p.val fun e w' => e = .returned v ∧ Below p.val.heap.size p.val w') (hB : B ≤ w0.heap.size) : Calls P f args p.val fun e w'' => e = .returned v ∧ ∃ q : Aft B w0, w'' = q.val :=
  h.mono fun _ w' ⟨he, hb⟩ => ⟨he, ⟨w', p.prop.trans (hb.mono (Nat.le_trans hB p.prop.size))⟩, rfl⟩
theorem aft_same {P : Program} {f : FuncId} {args : Array Value} {B : Nat} {w0 : World} {p : Aft B w0} {v : Value}
    (h : Calls P f args p.val fun e w' => e = .returned v ∧ p.val = w') : Calls P f args p.val fun e w'' => e = .returned v ∧ ∃ q : Aft B w0, w'' = q.val :=
  h.mono fun _ w' ⟨he, hb⟩ => ⟨he, ⟨w', hb ▸ p.prop⟩, rfl⟩

section
variable {α : Type} [Inhabited α]
/-- Element k of a list. -/
def gt (l : List α) (k : Nat) : α := l.getD k default
theorem gt_eq {l : List α} {k : Nat} (h : k < l.length) : gt l k = l[k] := by simp [gt, h]
theorem drop_gt {l : List α} {k : Nat} (h : k < l.length) : l.drop k = gt l k :: l.drop (k + 1) := by rw [gt_eq h]; exact List.drop_eq_getElem_cons h
theorem take_gt {l : List α} {k : Nat} (h : k < l.length) : l.take (k + 1) = l.take k ++ [gt l k] := by rw [gt_eq h]; exact List.take_succ_eq_append_getElem h
theorem gt_drop {l : List α} {k j : Nat} : gt (l.drop k) j = gt l (k + j) := by simp [gt]
theorem gt_mem {l : List α} {k : Nat} (h : k < l.length) : gt l k ∈ l := by rw [gt_eq h]; exact List.getElem_mem h
theorem gt_append {l m : List α} {k : Nat} (h : k < l.length) : gt (l ++ m) k = gt l k := by simp [gt, List.getElem?_append_left h]
theorem gt_last {l : List α} {x : α} : gt (l ++ [x]) l.length = x := by simp [gt]
theorem gt_map {β : Type} [Inhabited β] {f : α → β} {l : List α} {k : Nat} (h : k < l.length) : gt (l.map f) k = f (gt l k) := by simp [gt, h]
end

/-- The blocks from lo on and below hi. -/
def rng (lo hi : Nat) : Nat → Prop := fun b => lo ≤ b ∧ b < hi
theorem rng_sub {lo hi lo' hi' : Nat} (h1 : lo' ≤ lo) (h2 : hi ≤ hi') : ∀ b, rng lo hi b → rng lo' hi' b := fun _ h => ⟨Nat.le_trans h1 h.1, Nat.lt_of_lt_of_le h.2 h2⟩
/-- What an element of some type reads as, cell by cell; its blocks are of D. -/
structure Shape (α : Type) where
  sz : Nat
  E : (Nat → Prop) → World → α → (Nat → Value) → Prop
  keep : ∀ D w w' x f, (∀ b o, D b → w'.cell? ⟨b, o, none⟩ = w.cell? ⟨b, o, none⟩) → E D w x f → E D w' x f
  wide : ∀ (D D' : Nat → Prop) w x f, (∀ b, D b → D' b) → E D w x f → E D' w x f
  same : ∀ D w x f g, (∀ j, j < sz → f j = g j) → E D w x f → E D w x g

section
variable {α : Type} [Inhabited α]
def RdAt (S : Shape α) (D : Nat → Prop) (w : World) (b off n : Nat) (l : List α) : Prop :=
  ∀ k, k < n → ∃ f : Nat → Value, (∀ j, j < S.sz → w.cell? ⟨b, off + k * S.sz + j, none⟩ = some (f j)) ∧ S.E D w (gt l k) f
/-- The slice at A of n elements reads as l, in blocks of D. -/
def RdD (S : Shape α) (D : Nat → Prop) (w : World) (A : Option Addr) (n : Nat) (l : List α) : Prop :=
  n = l.length ∧ n ≤ 9223372036854775807 ∧ (0 < n → ∃ b off, A = some ⟨b, off, none⟩ ∧ D b ∧ RdAt S D w b off n l)
variable {S : Shape α} {D D' : Nat → Prop} {lo hi lo' hi' : Nat} {w w' : World} {A : Option Addr} {b off n : Nat} {l : List α}
theorem RdAt.keep (h : RdAt S D w b off n l) (hb : D b) (hk : ∀ b o, D b → w'.cell? ⟨b, o, none⟩ = w.cell? ⟨b, o, none⟩) : RdAt S D w' b off n l := fun k hkn => by
  obtain ⟨f, hf, he⟩ := h k hkn
  exact ⟨f, fun j hj => (hk b _ hb).trans (hf j hj), S.keep D w w' _ f hk he⟩
theorem RdAt.wide (h : RdAt S D w b off n l) (hd : ∀ b, D b → D' b) : RdAt S D' w b off n l := fun k hk => by
  obtain ⟨f, hf, he⟩ := h k hk
  exact ⟨f, hf, S.wide D D' w _ f hd he⟩
theorem RdD.keep (h : RdD S D w A n l) (hk : ∀ b o, D b → w'.cell? ⟨b, o, none⟩ = w.cell? ⟨b, o, none⟩) : RdD S D w' A n l :=
  ⟨h.1, h.2.1, fun hn => by
    obtain ⟨b, off, hA, h1, ha⟩ := h.2.2 hn
    exact ⟨b, off, hA, h1, ha.keep h1 hk⟩⟩
theorem RdD.wide (h : RdD S D w A n l) (hd : ∀ b, D b → D' b) : RdD S D' w A n l :=
  ⟨h.1, h.2.1, fun hn => by
    obtain ⟨b, off, hA, h1, ha⟩ := h.2.2 hn
    exact ⟨b, off, hA, hd b h1, ha.wide hd⟩⟩
/-- The slice at A of n elements reads as l, in blocks from lo on and below hi. -/
def Rd (S : Shape α) (lo hi : Nat) (w : World) (A : Option Addr) (n : Nat) (l : List α) : Prop :=
  n = l.length ∧ n ≤ 9223372036854775807 ∧ (0 < n → ∃ b off, A = some ⟨b, off, none⟩ ∧ lo ≤ b ∧ b < hi ∧ RdAt S (rng lo hi) w b off n l)
theorem Rd_iff : Rd S lo hi w A n l ↔ RdD S (rng lo hi) w A n l :=
  ⟨fun h => ⟨h.1, h.2.1, fun hn => by obtain ⟨b, off, a1, a2, a3, a4⟩ := h.2.2 hn; exact ⟨b, off, a1, ⟨a2, a3⟩, a4⟩⟩,
   fun h => ⟨h.1, h.2.1, fun hn => by obtain ⟨b, off, a1, a2, a4⟩ := h.2.2 hn; exact ⟨b, off, a1, a2.1, a2.2, a4⟩⟩⟩
theorem Rd.keep (h : Rd S lo hi w A n l) (hk : ∀ b o, lo ≤ b → b < hi → w'.cell? ⟨b, o, none⟩ = w.cell? ⟨b, o, none⟩) : Rd S lo hi w' A n l :=
  Rd_iff.2 ((Rd_iff.1 h).keep fun b o hb => hk b o hb.1 hb.2)
theorem Rd.wide (h : Rd S lo hi w A n l) (h1 : lo' ≤ lo) (h2 : hi ≤ hi') : Rd S lo' hi' w A n l :=
  Rd_iff.2 ((Rd_iff.1 h).wide (rng_sub h1 h2))
theorem Rd.below {B : Nat} (h : Rd S lo hi w A n l) (hb : Below B w w') (hB : hi ≤ B) : Rd S lo hi w' A n l :=
  h.keep fun b o _ h2 => hb.cell (p := ⟨b, o, none⟩) (by show b < B; omega)
theorem Rd.nil (S : Shape α) (lo hi : Nat) (w : World) (A : Option Addr) : Rd S lo hi w A 0 ([] : List α) := ⟨rfl, by omega, fun h => absurd h (by omega)⟩
/-- The slice s[i:j] of a slice, as the walk gives its address. -/
theorem Rd.sub {i j : Nat} (h : Rd S lo hi w A n l) (hi1 : i ≤ j) (hj : j ≤ n) (A' : Option Addr) (hA' : ∀ b off, A = some ⟨b, off, none⟩ → i < j → A' = some ⟨b, off + i * S.sz, none⟩) : Rd S lo hi w A' (j - i) ((l.take j).drop i) := by
  refine ⟨by simp [← h.1]; omega, by have := h.2.1; omega, fun hn => ?_⟩
  obtain ⟨b, off, hA, h1, h2, ha⟩ := h.2.2 (by omega)
  refine ⟨b, off + i * S.sz, hA' b off hA (by omega), h1, h2, fun k hk => ?_⟩
  obtain ⟨f, hf, he⟩ := ha (i + k) (by omega)
  refine ⟨f, fun q hq => ?_, ?_⟩
  · have := hf q hq
    rw [Nat.add_mul] at this
    rw [Nat.add_assoc off]
    exact this
  · have e : gt ((l.take j).drop i) k = gt l (i + k) := by simp [gt, show i + k < j by omega]
    rw [e]; exact he
end

/-! The shapes. -/
def intS : Shape Int where
  sz := 1
  E := fun _ _ x f => f 0 = .int .i64 x
  keep := fun _ _ _ _ _ _ h => h
  wide := fun _ _ _ _ _ _ h => h
  same := fun _ _ _ _ _ h e => by rw [← h 0 (by omega)]; exact e
def byteS : Shape UInt8 where
  sz := 1
  E := fun _ _ x f => f 0 = .int .u8 x.toNat
  keep := fun _ _ _ _ _ _ h => h
  wide := fun _ _ _ _ _ _ h => h
  same := fun _ _ _ _ _ h e => by rw [← h 0 (by omega)]; exact e
def strS : Shape ByteArray where
  sz := 1
  E := fun _ _ x f => f 0 = .string x ∧ x.size ≤ 9223372036854775807
  keep := fun _ _ _ _ _ _ h => h
  wide := fun _ _ _ _ _ _ h => h
  same := fun _ _ _ _ _ h e => by rw [← h 0 (by omega)]; exact e
def sliceS {α : Type} [Inhabited α] (S : Shape α) : Shape (List α) where
  sz := 1
  E := fun D w x f => ∃ A c, f 0 = .slice A x.length c ∧ x.length ≤ c ∧ RdD S D w A x.length x
  keep := fun _ _ _ _ _ hk ⟨A, c, h1, h2, h3⟩ => ⟨A, c, h1, h2, h3.keep hk⟩
  wide := fun _ _ _ _ _ hd ⟨A, c, h1, h2, h3⟩ => ⟨A, c, h1, h2, h3.wide hd⟩
  same := fun _ _ _ _ _ h ⟨A, c, h1, h2, h3⟩ => ⟨A, c, by rw [← h 0 (by omega)]; exact h1, h2, h3⟩
def pairS {α β : Type} (S : Shape α) (T : Shape β) : Shape (α × β) where
  sz := S.sz + T.sz
  E := fun D w x f => S.E D w x.1 f ∧ T.E D w x.2 (fun j => f (S.sz + j))
  keep := fun _ _ _ _ _ hk h => ⟨S.keep _ _ _ _ _ hk h.1, T.keep _ _ _ _ _ hk h.2⟩
  wide := fun _ _ _ _ _ hd h => ⟨S.wide _ _ _ _ _ hd h.1, T.wide _ _ _ _ _ hd h.2⟩
  same := fun _ _ _ _ _ h e => ⟨S.same _ _ _ _ _ (fun j hj => h j (by omega)) e.1, T.same _ _ _ _ _ (fun j hj => h (S.sz + j) (by omega)) e.2⟩
abbrev strokeS : Shape (Int × Int) := pairS intS intS
abbrev briefS : Shape (ByteArray × List ByteArray) := pairS strS (sliceS strS)
abbrev signS : Shape (ByteArray × (Int × Int)) := pairS strS strokeS
abbrev writtenS : Shape (List (Int × Int) × Int) := pairS (sliceS strokeS) intS

section
variable {D : Nat → Prop} {w : World} {b off n : Nat}
theorem RdAt.int {l : List Int} (h : RdAt intS D w b off n l) {k : Nat} (hk : k < n) : w.cell? ⟨b, off + k, none⟩ = some (.int .i64 (gt l k)) := by
  obtain ⟨f, hf, he⟩ := h k hk
  have := hf 0 (by show 0 < 1; omega)
  rw [show f 0 = _ from he, show off + k * intS.sz + 0 = off + k from by show off + k * 1 + 0 = _; omega] at this
  exact this
theorem RdAt.byte {l : List UInt8} (h : RdAt byteS D w b off n l) {k : Nat} (hk : k < n) : w.cell? ⟨b, off + k, none⟩ = some (.int .u8 (gt l k).toNat) := by
  obtain ⟨f, hf, he⟩ := h k hk
  have := hf 0 (by show 0 < 1; omega)
  rw [show f 0 = _ from he, show off + k * byteS.sz + 0 = off + k from by show off + k * 1 + 0 = _; omega] at this
  exact this
theorem RdAt.str {l : List ByteArray} (h : RdAt strS D w b off n l) {k : Nat} (hk : k < n) : w.cell? ⟨b, off + k, none⟩ = some (.string (gt l k)) ∧ (gt l k).size ≤ 9223372036854775807 := by
  obtain ⟨f, hf, he⟩ := h k hk
  have := hf 0 (by show 0 < 1; omega)
  rw [show f 0 = _ from he.1, show off + k * strS.sz + 0 = off + k from by show off + k * 1 + 0 = _; omega] at this
  exact ⟨this, he.2⟩
theorem RdAt.rowD {α : Type} [Inhabited α] {S : Shape α} {l : List (List α)} (h : RdAt (sliceS S) D w b off n l) {k : Nat} (hk : k < n) :
    ∃ A c, w.cell? ⟨b, off + k, none⟩ = some (.slice A (gt l k).length c) ∧ (gt l k).length ≤ c ∧ RdD S D w A (gt l k).length (gt l k) := by
  obtain ⟨f, hf, A, c, he, hc, hr⟩ := h k hk
  have := hf 0 (by show 0 < 1; omega)
  rw [he, show off + k * (sliceS S).sz + 0 = off + k from by show off + k * 1 + 0 = _; omega] at this
  exact ⟨A, c, this, hc, hr⟩
theorem RdAt.row {α : Type} [Inhabited α] {S : Shape α} {lo hi : Nat} {l : List (List α)} (h : RdAt (sliceS S) (rng lo hi) w b off n l) {k : Nat} (hk : k < n) :
    ∃ A c, w.cell? ⟨b, off + k, none⟩ = some (.slice A (gt l k).length c) ∧ (gt l k).length ≤ c ∧ Rd S lo hi w A (gt l k).length (gt l k) := by
  obtain ⟨A, c, h1, h2, h3⟩ := h.rowD hk
  exact ⟨A, c, h1, h2, Rd_iff.2 h3⟩
theorem RdAt.stroke {l : List (Int × Int)} (h : RdAt strokeS D w b off n l) {k : Nat} (hk : k < n) :
    w.cell? ⟨b, off + k * 2, none⟩ = some (.int .i64 (gt l k).1) ∧ w.cell? ⟨b, off + k * 2 + 1, none⟩ = some (.int .i64 (gt l k).2) := by
  obtain ⟨f, hf, he⟩ := h k hk
  have h0 := hf 0 (by show 0 < 2; omega)
  have h1 := hf 1 (by show 1 < 2; omega)
  rw [show f 0 = _ from he.1] at h0
  rw [show f 1 = _ from he.2] at h1
  exact ⟨h0, h1⟩
end
/-- make([]T, n), as a rule of the walk. -/
theorem make_rule {P : Program} {t e size bytes : Nat} {z : Value} {i : TypeInfo} (ht : P.underlying t = some (.slice e)) (hi : P.info? e = some i) (hz : i.zero = some z) (hs : i.size = size) (hb : i.bytes = bytes)
    {n : Nat} (hbytes : bytes * n ≤ 281474976710656) (h63 : n ≤ 9223372036854775807) (w : World) :
    (Instr.makeSlice t (.int .i64 (n : Int)) (.int .i64 (n : Int))).run P w = .ok (.slice (some ⟨w.heap.size, 0, none⟩) n n) (w.alloc (.cells (madeCells z.cells (n * size)) e)) := by
  have h : ((bytes * n : Nat) : Int) ≤ 281474976710656 := by omega
  rw [Int.natCast_mul] at h
  have := run_make (P := P) w t e i z ht hi hz .i64 .i64 n n (by omega) (by omega) (by rw [hb]; exact h) (by omega)
  rw [hs] at this
  simpa using this
/-! A block that the call made and fills from its head on. -/
section
variable {α : Type} [Inhabited α]
/-- Block g holds n elements of type e, the first k of which read as those of l. -/
def Filled (S : Shape α) (lo hi : Nat) (w : World) (g e n k : Nat) (l : List α) : Prop :=
  ∃ cur : Array Value, w.heap[g]? = some (.cells cur e (0, 0)) ∧ n * S.sz ≤ cur.size ∧ n = l.length ∧ n ≤ 9223372036854775807 ∧
    ∀ j, j < k → ∃ f : Nat → Value, (∀ i, i < S.sz → cur[j * S.sz + i]? = some (f i)) ∧ S.E (rng lo hi) w (gt l j) f
variable {S : Shape α} {lo hi : Nat} {w w' : World} {g e n k : Nat} {l : List α}
theorem Filled.lt (h : Filled S lo hi w g e n k l) : g < w.heap.size := by
  obtain ⟨cur, h1, _⟩ := h
  exact (Array.getElem?_eq_some_iff.1 h1).1
theorem Filled.new (S : Shape α) (lo hi : Nat) (w : World) (e : Nat) (cur : Array Value) (l : List α) (h : cur.size = l.length * S.sz) (hl : l.length ≤ 9223372036854775807) : Filled S lo hi (w.alloc (.cells cur e)) w.heap.size e l.length 0 l :=
  ⟨cur, heap_alloc_new w _, Nat.le_of_eq h.symm, rfl, hl, fun j hj => absurd hj (by omega)⟩
/-- What the store asks. -/
theorem Filled.at_ (h : Filled S lo hi w g e n k l) {i : Nat} (hi : i < n * S.sz) : (∃ v, w.cell? ⟨g, i, none⟩ = some v) ∧ w.frozen? ⟨g, i, none⟩ = false := by
  obtain ⟨cur, h1, h2, _⟩ := h
  refine ⟨⟨cur[i]'(by omega), ?_⟩, frozen_of_row w g i cur e h1⟩
  rw [cell_of_row w g i cur e (0, 0) h1]
  exact Array.getElem?_eq_getElem (by omega)
theorem Filled.keep {B : Nat} (h : Filled S lo hi w g e n k l) (hb : Below B w w') (hg : g < B) (hB : hi ≤ B) : Filled S lo hi w' g e n k l := by
  obtain ⟨cur, h1, h2, h3, h4, h5⟩ := h
  refine ⟨cur, (hb.block g hg).trans h1, h2, h3, h4, fun j hj => ?_⟩
  obtain ⟨f, hf, he⟩ := h5 j hj
  exact ⟨f, hf, S.keep _ _ _ _ _ (fun b o h2 => hb.cell (p := ⟨b, o, none⟩) (Nat.lt_of_lt_of_le h2.2 hB)) he⟩
theorem Filled.wide {hi' : Nat} (h : Filled S lo hi w g e n k l) (hh : hi ≤ hi') : Filled S lo hi' w g e n k l := by
  obtain ⟨cur, h1, h2, h3, h4, h5⟩ := h
  refine ⟨cur, h1, h2, h3, h4, fun j hj => ?_⟩
  obtain ⟨f, hf, he⟩ := h5 j hj
  exact ⟨f, hf, S.wide _ _ _ _ _ (rng_sub (Nat.le_refl _) hh) he⟩
theorem Filled.done (h : Filled S lo hi w g e n n l) {lo' hi' : Nat} (h1 : lo' ≤ g) (h2 : g < hi') (h3 : lo' ≤ lo) (h4 : hi ≤ hi') : Rd S lo' hi' w (some ⟨g, 0, none⟩) n l := by
  obtain ⟨cur, a1, a2, a3, a4, a5⟩ := h
  refine ⟨a3, a4, fun _ => ⟨g, 0, rfl, h1, h2, fun j hj => ?_⟩⟩
  obtain ⟨f, hf, he⟩ := a5 j hj
  refine ⟨f, fun i hi => ?_, S.wide _ _ _ _ _ (rng_sub h3 h4) he⟩
  rw [Nat.zero_add, cell_of_row w g _ cur e (0, 0) a1]
  exact hf i hi
theorem Filled.set1 (h : Filled S lo hi w g e n k l) (hs : S.sz = 1) (hk : k < n) {v : Value} (hE : S.E (rng lo hi) w (gt l k) fun _ => v) (hg : g < lo ∨ hi ≤ g) : Filled S lo hi (w.setCell ⟨g, k, none⟩ v) g e n (k + 1) l := by
  obtain ⟨cur, a1, a2, a3, a4, a5⟩ := h
  have kp : ∀ x f, S.E (rng lo hi) w x f → S.E (rng lo hi) (w.setCell ⟨g, k, none⟩ v) x f := fun x f hx => S.keep _ _ _ _ _ (fun b o q => World.cell?_setCell_other w ⟨g, k, none⟩ ⟨b, o, none⟩ v (by have q1 := q.1; have q2 := q.2; intro e; injection e with e _; omega)) hx
  refine ⟨cur.setIfInBounds k v, heap_setCell_same w g k cur e v a1, by simpa using a2, a3, a4, fun j hj => ?_⟩
  by_cases hjk : j = k
  · subst hjk
    refine ⟨fun _ => v, fun i hi => ?_, kp _ _ hE⟩
    have hz : i = 0 := by omega
    subst hz
    rw [hs] at a2 ⊢
    simp [show j < cur.size by omega]
  · obtain ⟨f, hf, he⟩ := a5 j (by omega)
    refine ⟨f, fun i hi => ?_, kp _ _ he⟩
    have hz : i = 0 := by omega
    subst hz
    have := hf 0 (by omega)
    rw [hs] at this ⊢
    rw [Array.getElem?_setIfInBounds, if_neg (by omega)]
    exact this
end
theorem Filled.set2 {α : Type} [Inhabited α] {S : Shape α} {lo hi : Nat} {w : World} {g e n k : Nat} {l : List α} (h : Filled S lo hi w g e n k l) (hs : S.sz = 2) (hk : k < n) {v0 v1 : Value} (hE : S.E (rng lo hi) w (gt l k) fun j => if j = 0 then v0 else v1) (hg : g < lo ∨ hi ≤ g) :
    Filled S lo hi ((w.setCell ⟨g, k * 2, none⟩ v0).setCell ⟨g, k * 2 + 1, none⟩ v1) g e n (k + 1) l := by
  obtain ⟨cur, a1, a2, a3, a4, a5⟩ := h
  have kp : ∀ x f, S.E (rng lo hi) w x f → S.E (rng lo hi) ((w.setCell ⟨g, k * 2, none⟩ v0).setCell ⟨g, k * 2 + 1, none⟩ v1) x f := fun x f hx => S.keep _ _ _ _ _ (fun b o q => (World.cell?_setCell_other _ ⟨g, k * 2 + 1, none⟩ ⟨b, o, none⟩ v1 (by have q1 := q.1; have q2 := q.2; intro e; injection e with e _; omega)).trans (World.cell?_setCell_other w ⟨g, k * 2, none⟩ ⟨b, o, none⟩ v0 (by have q1 := q.1; have q2 := q.2; intro e; injection e with e _; omega))) hx
  refine ⟨(cur.setIfInBounds (k * 2) v0).setIfInBounds (k * 2 + 1) v1, heap_setCell_same _ g _ _ e v1 (heap_setCell_same w g _ cur e v0 a1), by simpa using a2, a3, a4, fun j hj => ?_⟩
  rw [hs] at a2
  by_cases hjk : j = k
  · subst hjk
    refine ⟨_, fun i hi => ?_, kp _ _ hE⟩
    rw [hs] at hi ⊢
    by_cases hz : i = 0
    · subst hz
      simp [show j * 2 < cur.size by omega]
    · obtain rfl : i = 1 := by omega
      simp [show j * 2 + 1 < cur.size by omega]
  · obtain ⟨f, hf, he⟩ := a5 j (by omega)
    refine ⟨f, fun i hi => ?_, kp _ _ he⟩
    have := hf i hi
    rw [hs] at this hi ⊢
    rw [Array.getElem?_setIfInBounds, if_neg (by omega), Array.getElem?_setIfInBounds, if_neg (by omega)]
    exact this
theorem cell_new (w : World) (cs : Array Value) (t i : Nat) : (w.alloc (.cells cs t)).cell? ⟨w.heap.size, i, none⟩ = cs[i]? := cell_of_row _ _ i cs t (0, 0) (heap_alloc_new w _)
/-- But for blocks of D (and new ones) w' is as w was. -/
structure Chg (D : Nat → Prop) (w w' : World) : Prop where
  os : w'.os = w.os
  tape : w'.tape = w.tape
  output : w'.output = w.output
  size : w.heap.size ≤ w'.heap.size
  block : ∀ k, k < w.heap.size → ¬ D k → w'.heap[k]? = w.heap[k]?
theorem Chg.refl (D : Nat → Prop) (w : World) : Chg D w w := ⟨rfl, rfl, rfl, Nat.le_refl _, fun _ _ _ => rfl⟩
theorem Chg.trans {D : Nat → Prop} {a b c : World} (h : Chg D a b) (k : Chg D b c) : Chg D a c :=
  ⟨k.os.trans h.os, k.tape.trans h.tape, k.output.trans h.output, Nat.le_trans h.size k.size, fun i hi hd => (k.block i (Nat.lt_of_lt_of_le hi h.size) hd).trans (h.block i hi hd)⟩
theorem Chg.set {D : Nat → Prop} {a b : World} (h : Chg D a b) {p : Addr} (hp : D p.block) (v : Value) : Chg D a (b.setCell p v) :=
  h.trans ⟨rfl, rfl, rfl, by simp, fun k _ hd => Below.heap_setCell _ _ _ _ (fun e => hd (e ▸ hp))⟩
theorem Chg.wide {D D' : Nat → Prop} {a b : World} (h : Chg D a b) (hd : ∀ k, D k → D' k) : Chg D' a b := ⟨h.os, h.tape, h.output, h.size, fun k hk hn => h.block k hk fun hd' => hn (hd k hd')⟩
theorem Chg.below {D : Nat → Prop} {a b : World} (h : Chg D a b) {B : Nat} (hB : B ≤ a.heap.size) (hd : ∀ k, D k → B ≤ k) : Below B a b :=
  ⟨h.os, h.tape, h.output, h.size, fun k hk => h.block k (by omega) fun hdk => by have := hd k hdk; omega⟩
theorem Rd.chg {α : Type} [Inhabited α] {S : Shape α} {lo hi n : Nat} {w w' : World} {A : Option Addr} {l : List α} {D : Nat → Prop} (h : Rd S lo hi w A n l) (hc : Chg D w w') (hi1 : hi ≤ w.heap.size) (hd : ∀ k, D k → hi ≤ k ∨ k < lo) : Rd S lo hi w' A n l :=
  h.keep fun b o h1 h2 => World.cell?_of_block (hc.block b (by omega) fun hdb => by have := hd b hdb; omega)
theorem btr {a b c : World} (h : Below a.heap.size a b) (k : Below b.heap.size b c) : Below a.heap.size a c := h.trans (k.mono h.size)
theorem bal {a b : World} (h : Below a.heap.size a b) (o : Obj) : Below a.heap.size a (b.alloc o) := h.alloc h.size o
theorem bsc {a b : World} (h : Below a.heap.size a b) {p : Addr} (hp : a.heap.size ≤ p.block) (v : Value) : Below a.heap.size a (b.setCell p v) := h.setCell hp v
theorem bnew (a : World) (o : Obj) : Below a.heap.size a (a.alloc o) := bal (Below.refl _ _) o
theorem bdr (a : World) : Below a.heap.size a a.drew := (Below.refl _ _).drew
theorem bcl {a b : World} (h : Below a.heap.size a b) {k o : Nat} {v : Value} (hc : a.cell? ⟨k, o, none⟩ = some v) : b.cell? ⟨k, o, none⟩ = some v := (h.cell (p := ⟨k, o, none⟩) (block_lt_of_cell hc)).trans hc
theorem Rd.bl {α : Type} [Inhabited α] {S : Shape α} {lo n : Nat} {w w' : World} {A : Option Addr} {l : List α} (h : Rd S lo w.heap.size w A n l) (hb : Below w.heap.size w w') : Rd S lo w'.heap.size w' A n l := (h.below hb (Nat.le_refl _)).wide (Nat.le_refl _) hb.size
/-- Old cells and marks, behind a call. -/
theorem bcell {W w1 : World} (hb : Below W.heap.size W w1) : (∀ b o, b < W.heap.size → w1.cell? ⟨b, o, none⟩ = W.cell? ⟨b, o, none⟩) ∧ (∀ b o, b < W.heap.size → w1.frozen? ⟨b, o, none⟩ = W.frozen? ⟨b, o, none⟩) :=
  ⟨fun b o h => hb.cell (p := ⟨b, o, none⟩) h, fun b o h => hb.frozen (p := ⟨b, o, none⟩) h⟩
theorem ret_bool {a b : Bool} (h : a = b) : Ending.returned (.bool a) = .returned (.bool b) := by rw [h]
theorem ret_int {k : IntKind} {a b : Int} (h : a = b) : Ending.returned (.int k a) = .returned (.int k b) := by rw [h]
/-- '==', as a word that the walk leaves alone. -/
def eqD {α : Type} [BEq α] (x y : α) : Bool := x == y
theorem eqD_iff {α : Type} [BEq α] [LawfulBEq α] {x y : α} : eqD x y = true ↔ x = y := by simp [eqD]
theorem eqD_self {α : Type} [BEq α] [LawfulBEq α] (x : α) : eqD x x = true := by simp [eqD]
theorem eqD_no {α : Type} [BEq α] [LawfulBEq α] {x y : α} (h : x ≠ y) : eqD x y = false := by simp [eqD, h]
theorem eqD_cons {α : Type} [BEq α] {x y : α} {l m : List α} : eqD (x :: l) (y :: m) = (eqD x y && eqD l m) := rfl
end Go.Proofs.Ytigemahbopligaa
