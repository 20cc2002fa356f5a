/- A range over a function whose iterator writes a block of its own between two rounds: the statement's law, and what such an iterator promises. General; nothing here names the program. -/
import Derived.RangeFuncNested
import Derived.RangeFuncBound
import Derived.RangeFuncCalls
import Derived.RangeFuncLeaves
import Derived.Shelf.Abstract
import Derived.Shelf.RegionOpen
import Derived.OwnWalkIn
import Derived.TacticsInMore
import Derived.LoopNIn
import Derived.LoopIn
import Derived.Test.YtfjoininagdlcaaOwn
namespace Go.Proofs.Ytfjoininagdlcaa
open Go.RowKit
theorem room_none {F : Fence} (hd : F.depth = none) (k : Nat) : F.room k := fun d h => by rw [hd] at h; cases h
theorem round_any {F : Fence} (hd : F.depth = none) {m m' : Nat} {P : Program} {l : Nat} {f : FuncId} {tmps : Array Value} {assign body : Code} {w : World} {R : Ending → World → Prop}
    (h : RoundIn F m P l f tmps assign body w R) : RoundIn F m' P l f tmps assign body w R := ⟨h.1, fun c cs _ => h.2 c cs (room_none hd _)⟩
/-- A call of yield at the wide fence, at whatever depth. -/
def YA (P : Program) (l : Nat) (args : Array Value) (W : World) (R : Ending → World → Prop) : Prop := ∀ m, YieldAt Fence.wide m P l args W R
theorem YA.mono {P : Program} {l : Nat} {args : Array Value} {W : World} {R R' : Ending → World → Prop} (h : YA P l args W R) (hr : ∀ e w, R e w → R' e w) : YA P l args W R' := fun m => YieldAt.mono (h m) hr
theorem ya_of {P : Program} {m : Nat} {l : Nat} {args : Array Value} {W : World} {R : Ending → World → Prop} (h : YieldAt Fence.wide m P l args W R) : YA P l args W R := fun m' => by
  obtain ⟨fn, tmps, assign, body, hy, hR⟩ := h
  exact ⟨fn, tmps, assign, body, hy, round_any rfl hR⟩
theorem chg_putObj (W : World) (l : Nat) (o : Obj) : Chg (fun k => k = l) W (W.putObj l o) :=
  ⟨rfl, rfl, rfl, by simp, fun _ _ hk => World.putObj_heap_other hk⟩
theorem below_putObj {B : Nat} {w W : World} {l : Nat} (o : Obj) (h : Below B w W) (hl : B ≤ l) : Below B w (W.putObj l o) :=
  h.trans ⟨rfl, rfl, rfl, by simp, fun k hk => World.putObj_heap_other (by omega)⟩
/-- What the iterator promises: it turns one block of its own (and lays new ones); each round turns the blocks from n0 on and below n1. -/
def SeqChg {α : Type} (P : Program) (gf : Nat) (lb : Array Value) (val : Nat → Value) (rd : Nat → α → World → Prop) (xs : List α) (n0 n1 : Nat) (w : World) : Prop :=
  ∀ (l : Nat) (J Jx : Nat → List α → World → Prop) (W : World), Below w.heap.size w W →
    (∀ b s A B, W.heap.size ≤ b → J b s A → Chg (fun k => k = b) A B → J b s B) →
    (∀ b s A B, W.heap.size ≤ b → Jx b s A → Chg (fun k => k = b) A B → Jx b s B) →
    (∀ b pre x A, W.heap.size ≤ b → J b pre A → rd b x A → (pre ++ [x]) <+: xs → YA P l #[val b] A fun e A' =>
      (e = .returned (.bool true) ∧ J b (pre ++ [x]) A' ∧ Chg (rng n0 n1) A A') ∨ (e = .returned (.bool false) ∧ Jx b (pre ++ [x]) A')) →
    (∀ b, W.heap.size ≤ b → J b [] W) →
    Calls P gf (#[.func (.yield l) #[] #[]] ++ lb) W fun e W' => (∃ v, e = .returned v) ∧ ∃ b, W.heap.size ≤ b ∧ (J b xs W' ∨ ∃ pre, pre <+: xs ∧ Jx b pre W')
/-- How the body of a round may be left. -/
def chgPost {α : Type} (n0 n1 : Nat) (I : Nat → List α → World → Prop) (Ix : Code → Nat → List α → World → Prop) (b : Nat) (s : List α) (W : World) : Exit → Act → World → Prop
  | .normal, _, W' => Chg (rng n0 n1) W W' ∧ I b s W'
  | .ret, _, W' => Chg (rng n0 n1) W W' ∧ Ix .ret b s W'
  | .exit id, _, W' => Chg (rng n0 n1) W W' ∧ Ix (.exit id) b s W'
  | .goto t, _, W' => Chg (rng n0 n1) W W' ∧ Ix (.goto t) b s W'
  | .panic _, _, _ => False
  | .outgrown, _, _ => False
/-- The blocks that are not the round's: the iterator's array, the loop's record, the block for deferred calls. -/
def notMine (n1 b : Nat) : Nat → Prop := fun k => k = b ∨ k = n1 ∨ k = n1 + 1
theorem fold_one (t : Array Value) (p : Tmp) (v : Value) : (#[p].zip #[v]).foldl (fun t (p, v) => t.setIfInBounds p v) t = t.setIfInBounds p v := by simp
theorem results_one {fn : Func} {t : Tmp} (h : fn.results = #[.tmp t]) {tmps : Array Value} {P : Program} {w : World} {v : Value} (hv : tmps.getD t undef = v) : (results fn tmps).run P w = .ok v w := by rw [← hv]; exact results_tmp h _ _ _
theorem wp_rangeFunc_chg {α : Type} {P : Program} {g : Operand} {pp : Tmp} {assign body : Code} {Q : Exit → Act → World → Prop} {a : Act} {w : World}
    {gf : Nat} {lb : Array Value} (hg : a.eval g = .func (.func gf) #[] lb) (eg : ∀ args w, (callFunc gf args).run P w = .ok (.enter gf args) w)
    {val : Nat → Value} {rd : Nat → α → World → Prop} {xs : List α} {n0 n1 : Nat} (hseq : SeqChg P gf lb val rd xs n0 n1 w) (hn1 : n1 ≤ w.heap.size)
    (hrd : ∀ b x A B, w.heap.size + 2 ≤ b → rd b x A → Chg (fun k => k = w.heap.size + 1) A B → rd b x B)
    (I : Nat → List α → World → Prop) (Ix : Code → Nat → List α → World → Prop)
    (hI : ∀ b s A B, w.heap.size + 2 ≤ b → I b s A → Chg (notMine w.heap.size b) A B → I b s B)
    (hIx : ∀ c b s A B, w.heap.size + 2 ≤ b → Ix c b s A → Chg (notMine w.heap.size b) A B → Ix c b s B)
    (h0 : ∀ b, w.heap.size + 2 ≤ b → I b [] w) (a₁ : Nat → Act)
    (hassign : ∀ (l b : Nat) (W : World) (K : Act → World → Prop), K (a₁ b) W →
      assign.wpIn (Fence.wide.inRound l) 9 P (Exit.then K (fun _ _ _ => False)) { tmps := a.tmps.setIfInBounds pp (val b), defers := [] } W)
    (hbody : ∀ (l b : Nat) (pre : List α) (x : α) (W : World), w.heap.size + 2 ≤ b → b < W.heap.size ∨ True → I b pre W → rd b x W → (pre ++ [x]) <+: xs → body.wpIn (Fence.wide.inRound l) 9 P (chgPost n0 n1 I Ix b (pre ++ [x]) W) (a₁ b) W)
    (hdone : ∀ (b : Nat) (W : World), w.heap.size + 2 ≤ b → I b xs W → W.heap[w.heap.size]? = some (.deferred (some [])) → Q .normal { a with defers := { target := .collected w.heap.size, args := #[] } :: a.defers } W)
    (hstop : ∀ (c : Code) (b : Nat) (pre : List α) (W : World), w.heap.size + 2 ≤ b → pre <+: xs → Ix c b pre W → W.heap[w.heap.size]? = some (.deferred (some [])) → c.wp P Q { a with defers := { target := .collected w.heap.size, args := #[] } :: a.defers } W) :
    (Code.rangeFunc g #[pp] assign body).wp P Q a w := by
  refine wpIn_wide.1 (wpIn_rangeFunc (F := Fence.wide) (n := 9) ?_)
  intro fn hfn
  obtain ⟨rec, hrec⟩ : ∃ rec : LoopState → Option Code → Loop, rec = fun st pe => { state := st, pending := pe, fn, tmps := a.tmps, params := #[pp], assign, body, defers := w.heap.size } := ⟨_, rfl⟩
  obtain ⟨W1, hW1⟩ : ∃ W1, (w.alloc (.deferred (some []))).alloc (.loop (rec .ready none)) = W1 := ⟨_, rfl⟩
  have hz1 : W1.heap.size = w.heap.size + 2 := by rw [← hW1]; simp
  have hL1 : W1.heap[w.heap.size + 1]? = some (.loop (rec .ready none)) := by
    rw [← hW1]; have := World.alloc_heap_new (w.alloc (.deferred (some []))) (.loop (rec .ready none)); rwa [World.size_alloc] at this
  have hK1 : W1.heap[w.heap.size]? = some (.deferred (some [])) := by
    rw [← hW1]; exact (Below.heap_alloc _ _ _ (by simp)).trans (World.alloc_heap_new w _)
  have hc1 : ∀ D, Chg D w W1 := fun D => by rw [← hW1]; exact (chg_new _ _ _).trans (chg_new _ _ _)
  have hb1 : Below w.heap.size w W1 := by
    rw [← hW1]; exact ((Below.refl _ w).alloc (Nat.le_refl _) _).alloc (by simp) _
  refine ⟨w.heap.size + 1, [{ target := .collected w.heap.size, args := #[] }], W1, { target := .fn (.func gf) lb, args := #[.func (.yield (w.heap.size + 1)) #[] #[]] }, W1, gf,
    #[.func (.yield (w.heap.size + 1)) #[] #[]] ++ lb, W1, ?_, ?_, fun _ _ => trivial, ?_, fun _ => by omega, callsIn_wide.2 ?_⟩
  · rw [← hW1, hrec]; exact run_enterLoop_outer _ _ _ _ _
  · simp only [resolve, hg]
    simp [go_sem]
  · simp [invoke, go_sem, eg]
  · refine (hseq (w.heap.size + 1)
      (fun b pre W => I b pre W ∧ W.heap[w.heap.size + 1]? = some (.loop (rec .ready none)) ∧ W.heap[w.heap.size]? = some (.deferred (some [])))
      (fun b pre W => ∃ c, Ix c b pre W ∧ W.heap[w.heap.size + 1]? = some (.loop (rec .done (some c))) ∧ W.heap[w.heap.size]? = some (.deferred (some [])))
      W1 hb1 ?_ ?_ ?_ ?_).mono ?_
    · rintro b s A B hbz ⟨hi, hl, hk⟩ hc
      exact ⟨hI b s A B (by omega) hi (hc.wide fun k hk => .inl hk), (hc.block _ (Array.getElem?_eq_some_iff.1 hl).1 (by omega)).trans hl, (hc.block _ (Array.getElem?_eq_some_iff.1 hk).1 (by omega)).trans hk⟩
    · rintro b s A B hbz ⟨c, hi, hl, hk⟩ hc
      exact ⟨c, hIx c b s A B (by omega) hi (hc.wide fun k hk => .inl hk), (hc.block _ (Array.getElem?_eq_some_iff.1 hl).1 (by omega)).trans hl, (hc.block _ (Array.getElem?_eq_some_iff.1 hk).1 (by omega)).trans hk⟩
    · rintro b pre x W hbz ⟨hi, hl, hk⟩ hr hpre
      have hlt : w.heap.size + 1 < W.heap.size := (Array.getElem?_eq_some_iff.1 hl).1
      have hbz' : w.heap.size + 2 ≤ b := by omega
      have hy := run_yield (P := P) (args := #[val b]) hl (by rw [hrec]; rfl)
      rw [hrec] at hy
      simp only [fold_one] at hy
      refine ya_of (m := 9) ⟨fn, _, assign, body, hy, roundIn_of_wpIn hfn (hassign _ b W _ ⟨_, run_beginRound hl (by rw [hrec]), ?_⟩)⟩
      have hl2 : (W.putObj (w.heap.size + 1) (.loop { rec .ready none with state := .busy })).heap[w.heap.size + 1]? = some (.loop { rec .ready none with state := .busy }) := World.putObj_heap_same hlt
      have hk2 : (W.putObj (w.heap.size + 1) (.loop { rec .ready none with state := .busy })).heap[w.heap.size]? = some (.deferred (some [])) := (World.putObj_heap_other (by omega)).trans hk
      have hcp := chg_putObj W (w.heap.size + 1) (.loop { rec .ready none with state := .busy })
      refine wpIn_mono (hbody _ b pre x _ hbz' (.inr trivial) (hI b pre _ _ hbz' hi (hcp.wide fun k hk => .inr (.inr hk))) (hrd b x _ _ hbz' hr hcp) hpre) ?_
      have fin : ∀ (jump : Option Code) (W3 : World), Chg (rng n0 n1) (W.putObj (w.heap.size + 1) (.loop { rec .ready none with state := .busy })) W3 →
          (Instr.endRound (w.heap.size + 1) jump).run P W3 = .ok (.bool jump.isNone) (W3.putObj (w.heap.size + 1) (.loop (rec (if jump.isNone then .ready else .done) jump))) ∧
          (W3.putObj (w.heap.size + 1) (.loop (rec (if jump.isNone then .ready else .done) jump))).heap[w.heap.size + 1]? = some (.loop (rec (if jump.isNone then .ready else .done) jump)) ∧
          (W3.putObj (w.heap.size + 1) (.loop (rec (if jump.isNone then .ready else .done) jump))).heap[w.heap.size]? = some (.deferred (some [])) := fun jump W3 hk3 => by
        have hl3 := (hk3.block (w.heap.size + 1) (by simpa using hlt) (fun h => by have := h.2; omega)).trans hl2
        have := run_endRound (P := P) jump hl3
        rw [hrec] at this ⊢
        exact ⟨this, World.putObj_heap_same (Array.getElem?_eq_some_iff.1 hl3).1, (World.putObj_heap_other (by omega)).trans ((hk3.block w.heap.size (by simp; omega) (fun h => by have := h.2; omega)).trans hk2)⟩
      have back : ∀ (W3 : World) (o : Obj), Chg (rng n0 n1) (W.putObj (w.heap.size + 1) (.loop { rec .ready none with state := .busy })) W3 → (o = .loop (rec .ready none)) → Chg (rng n0 n1) W (W3.putObj (w.heap.size + 1) o) := fun W3 o h ho => by
        refine ⟨h.os, h.tape, h.output, by have := h.size; simpa using this, fun k hk hd => ?_⟩
        by_cases e : k = w.heap.size + 1
        · subst e
          subst ho
          have hs := h.size
          simp only [World.putObj_size] at hs
          exact (World.putObj_heap_same (by omega)).trans hl.symm
        · exact (World.putObj_heap_other e).trans ((h.block k (by simpa using hk) hd).trans (World.putObj_heap_other e))
      rintro e a3 W3 hp
      cases e with
      | normal =>
        obtain ⟨hk3, hi3⟩ := hp
        obtain ⟨hr, hl4, hk4⟩ := fin none W3 hk3
        exact ⟨_, _, hr, .inl ⟨rfl, ⟨hI _ _ _ _ hbz' hi3 ((chg_putObj _ _ _).wide fun k hk => .inr (.inr hk)), hl4, hk4⟩, back W3 _ hk3 rfl⟩⟩
      | ret =>
        obtain ⟨hk3, hi3⟩ := hp
        obtain ⟨hr, hl4, hk4⟩ := fin (some .ret) W3 hk3
        exact ⟨_, _, hr, .inr ⟨rfl, .ret, hIx _ _ _ _ _ hbz' hi3 ((chg_putObj _ _ _).wide fun k hk => .inr (.inr hk)), hl4, hk4⟩⟩
      | exit id =>
        obtain ⟨hk3, hi3⟩ := hp
        obtain ⟨hr, hl4, hk4⟩ := fin (some (.exit id)) W3 hk3
        exact ⟨_, _, hr, .inr ⟨rfl, .exit id, hIx _ _ _ _ _ hbz' hi3 ((chg_putObj _ _ _).wide fun k hk => .inr (.inr hk)), hl4, hk4⟩⟩
      | goto t =>
        obtain ⟨hk3, hi3⟩ := hp
        obtain ⟨hr, hl4, hk4⟩ := fin (some (.goto t)) W3 hk3
        exact ⟨_, _, hr, .inr ⟨rfl, .goto t, hIx _ _ _ _ _ hbz' hi3 ((chg_putObj _ _ _).wide fun k hk => .inr (.inr hk)), hl4, hk4⟩⟩
      | panic ch => exact hp.elim
      | outgrown => exact hp.elim
    · intro b hbz
      exact ⟨hI b [] w W1 (by omega) (h0 b (by omega)) (hc1 _), hL1, hK1⟩
    · rintro e W2 ⟨⟨v, rfl⟩, b, hbz, (⟨hi, hl, hk⟩ | ⟨pre, hpre, c, hi, hl, hk⟩)⟩
      · refine ⟨none, _, by have := run_endLoop (P := P) hl (by rw [hrec]; simp); rw [hrec] at this; exact this, ?_⟩
        exact hdone b _ (by omega) (hI _ _ _ _ (by omega) hi ((chg_putObj _ _ _).wide fun k hk => .inr (.inr hk))) ((World.putObj_heap_other (by omega)).trans hk)
      · refine ⟨some c, _, by have := run_endLoop (P := P) hl (by rw [hrec]; simp); rw [hrec] at this; exact this, ?_⟩
        exact wpIn_wide.2 (hstop c b pre _ (by omega) hpre (hIx c _ _ _ _ (by omega) hi ((chg_putObj _ _ _).wide fun k hk => .inr (.inr hk))) ((World.putObj_heap_other (by omega)).trans hk))
end Go.Proofs.Ytfjoininagdlcaa
