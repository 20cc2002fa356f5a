/- What the laws on readings take from the contracts: slices that read, at all later worlds. -/
import Derived.Test.YtfjoininagdlcaaReadLaws
import Derived.Test.YtfjoininagdlcaaFirst
namespace Go.Proofs.Ytfjoininagdlcaa
open Go.RowKit
theorem ib_rd {w w' : World} {V : Option (List Int)} {e : Ending} (h : RetIB w V e w') (hl : (V.getD []).length ≤ 1048576) : ∃ A c, e = .returned (.tuple #[.slice A (V.getD []).length c, .bool V.isSome]) ∧ (V.getD []).length ≤ c ∧ Rd intS 0 w'.heap.size w' A (V.getD []).length (V.getD []) ∧ Below w.heap.size w w' := by
  obtain ⟨A, c, rfl, hO, hb⟩ := h
  obtain ⟨A', c', h1, h2⟩ := hO.form
  injection h1 with _ _ h1
  subst h1
  exact ⟨A, c, rfl, h2, ((hO.rd (by omega)).2).wide (Nat.zero_le _) (Nat.le_refl _), hb⟩
theorem rb_rd {w w' : World} {V : Option (List (List Int))} {e : Ending} (h : RetRB w V e w') (hl : (V.getD []).length ≤ 1048576) : ∃ A c, e = .returned (.tuple #[.slice A (V.getD []).length c, .bool V.isSome]) ∧ Rd (sliceS intS) 0 w'.heap.size w' A (V.getD []).length (V.getD []) ∧ Below w.heap.size w w' := by
  obtain ⟨A, c, rs, rfl, hN, hm, hb⟩ := h
  have h1 := congrArg List.length hm
  rw [List.length_map] at h1
  have h2 := (hN.rd (by omega)).2
  rw [hm] at h2
  exact ⟨A, c, rfl, h2.wide (Nat.zero_le _) (Nat.le_refl _), hb⟩
theorem firstV_len8 {l : List Int} {r page : List (List Int)} : ((firstV l r page).getD []).length ≤ 1048576 := firstV_len l r page
theorem seenV_len {l : List Int} {r page : List (List Int)} : ((seenV l r page).getD []).length ≤ 1048576 := by have := (seenV_ok l r page).1; omega
theorem forceV_len {n a x : Int} {page : List (List Int)} (h : page.length ≤ 1048576) : ((forceV n page a x).getD []).length ≤ 1048576 := by
  unfold forceV
  split
  · rw [Option.getD_some, forceL_len]; exact h
  · simp
theorem int_at {lo hi : Nat} {w : World} {b off n : Nat} {l : List Int} (h : Rd intS lo hi w (some ⟨b, off, none⟩) n l) {k : Nat} (hk : k < n) : w.cell? ⟨b, off + k, none⟩ = some (.int .i64 (gt l k)) := by
  obtain ⟨b', off', e, _, _, ha⟩ := h.2.2 (by omega)
  injection e with e
  injection e with e1 e2
  subst e1 e2
  exact ha.int hk
theorem int_some {lo hi : Nat} {w : World} {A : Option Addr} {n : Nat} {l : List Int} (h : Rd intS lo hi w A n l) (hn : 0 < n) : ∃ b off, A = some ⟨b, off, none⟩ := by
  obtain ⟨b, off, e, _⟩ := h.2.2 hn
  exact ⟨b, off, e⟩
theorem rows_some {lo hi : Nat} {w : World} {A : Option Addr} {n : Nat} {l : List (List Int)} (h : Rd (sliceS intS) lo hi w A n l) (hn : 0 < n) : ∃ b off, A = some ⟨b, off, none⟩ := by
  obtain ⟨b, off, e, _⟩ := h.2.2 hn
  exact ⟨b, off, e⟩
/-- Row k of a page, and its words. -/
theorem row_at {lo hi : Nat} {w : World} {b off n : Nat} {l : List (List Int)} (h : Rd (sliceS intS) lo hi w (some ⟨b, off, none⟩) n l) {k : Nat} (hk : k < n) : ∃ A c, w.cell? ⟨b, off + k, none⟩ = some (.slice A (gt l k).length c) ∧ Rd intS lo hi w A (gt l k).length (gt l k) := by
  obtain ⟨b', off', e, _, _, ha⟩ := h.2.2 (by omega)
  injection e with e
  injection e with e1 e2
  subst e1 e2
  obtain ⟨A, c, h1, _, h2⟩ := ha.row hk
  exact ⟨A, c, h1, h2⟩
/-- A model and a page lie in a world; the model's variable is block M. -/
structure LM (W : World) (M : Nat) (A B C : Option Addr) (n c m e0 q : Nat) (t : TypeId) (l : List Int) (r page : List (List Int)) : Prop where
  hl : Rd intS 0 W.heap.size W A n l
  hr : Rd (sliceS intS) 0 W.heap.size W B m r
  hp : Rd (sliceS intS) 0 W.heap.size W C q page
  mem : W.heap[M]? = some (.cells #[.slice A n c, .slice B m e0] t (0, 0))
theorem LM.new {w : World} {A B C : Option Addr} {n c m e0 q : Nat} {t : TypeId} {l : List Int} {r page : List (List Int)} (hl : Rd intS 0 w.heap.size w A n l) (hr : Rd (sliceS intS) 0 w.heap.size w B m r) (hp : Rd (sliceS intS) 0 w.heap.size w C q page) : LM (w.alloc (.cells #[.slice A n c, .slice B m e0] t)) w.heap.size A B C n c m e0 q t l r page :=
  ⟨hl.bl (bnew w _), hr.bl (bnew w _), hp.bl (bnew w _), heap_alloc_new w _⟩
section
variable {W W' : World} {M : Nat} {A B C : Option Addr} {n c m e0 q : Nat} {t : TypeId} {l : List Int} {r page : List (List Int)}
theorem LM.bl (h : LM W M A B C n c m e0 q t l r page) (hb : Below W.heap.size W W') : LM W' M A B C n c m e0 q t l r page :=
  ⟨h.hl.bl hb, h.hr.bl hb, h.hp.bl hb, (hb.block M (Array.getElem?_eq_some_iff.1 h.mem).1).trans h.mem⟩
theorem LM.at0 (h : LM W M A B C n c m e0 q t l r page) : W.cell? ⟨M, 0, none⟩ = some (.slice A n c) := by rw [cell_of_row W _ _ _ _ (0, 0) h.mem]; rfl
theorem LM.at1 (h : LM W M A B C n c m e0 q t l r page) : W.cell? ⟨M, 1, none⟩ = some (.slice B m e0) := by rw [cell_of_row W _ _ _ _ (0, 0) h.mem]; rfl
end
end Go.Proofs.Ytfjoininagdlcaa
