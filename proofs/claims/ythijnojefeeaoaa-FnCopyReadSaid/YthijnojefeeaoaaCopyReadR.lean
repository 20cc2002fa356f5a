/- What the reference's CopyRead and the program's CopyCost return. -/
import Derived.Test.YthijnojefeeaoaaCopyRead
import Derived.Test.YthijnojefeeaoaaCopy2
namespace Go.Proofs.Ythijnojefeeaoaa
open Go.RowKit Go.Shelf
attribute [local go_sem] Oper.semAt_some
def costV (bs : List BriefT) (ts : List ByteArray) : Int := match readV bs ts with
  | some _ => letters ts
  | none => -1
set_option maxRecDepth 100000 in
set_option maxHeartbeats 1000000 in
theorem implCopyCost_any (A B : Option Addr) (n c m d : Nat) (bs : List BriefT) (ts : List ByteArray) (w : World) (hnc : n ≤ c) (hx : Rd briefS 0 w.heap.size w A n bs) (hy : Rd strS 0 w.heap.size w B m ts) (hm : m ≤ 1048576) (hs : ∀ s ∈ ts, s.size ≤ 12) :
    Calls Try.prog 52 #[.slice A n c, .slice B m d] w fun e w' => e = .returned (.int .i64 (costV bs ts)) ∧ Below w.heap.size w w' := by
  have hR := implCopyRead_any A B n c m d bs ts w hnc hx hy
  have HY := hid hy
  obtain ⟨C, hC⟩ : ∃ C, costV bs ts = C := ⟨_, rfl⟩
  rw [hC]
  have hcv := hC
  unfold costV at hcv
  cases hv : readV bs ts with
  | none =>
    rw [hv] at hR hcv
    dsimp only at hcv
    have HR := hid hR
    subst hcv
    clear hR hv hC hx hy
    go_enter Try.func52, Try.ntmps52
    go_wp2_with fail
    refine HR.out.mono ?_
    rintro e w1 ⟨A1, c1, rfl, hO, hb1⟩
    simp only [Option.isSome_none]
    clear hO HR
    go_wp2_with fail
    go_ret
    exact ⟨rfl, hb1⟩
  | some V =>
    rw [hv] at hR hcv
    dsimp only at hcv
    have HR := hid hR
    have HCV := hid hcv
    clear hR hv hC hx hy hcv
    go_enter Try.func52, Try.ntmps52
    go_wp2_with fail
    refine HR.out.mono ?_
    rintro e w1 ⟨A1, c1, rfl, hO, hb1⟩
    have HL := hid (implLettersOf_any B m d 0 ts w1 (HY.out.bl hb1) hm hs)
    rw [HCV.out] at HL
    simp only [Option.isSome_some]
    clear hO HR
    go_wp2_with fail
    refine HL.out.mono ?_
    rintro e w2 ⟨rfl, rfl⟩
    go_wp2_with fail
    go_ret
    exact ⟨rfl, hb1⟩
/-- What the reference has put down for a token behind the first briefs. -/
def putR (bs : List BriefT) (t : ByteArray) (j : Nat) (X : List ByteArray) (fd : Bool) : Prop :=
  (((bs.take j).find? fun b => eqD b.1 t) = none ∧ X = (if wordOk t then [t] else []) ∧ fd = wordOk t) ∨ ∃ i, i < j ∧ i < bs.length ∧ eqD (gt bs i).1 t = true ∧ (bs.find? fun b => eqD b.1 t) = some (gt bs i) ∧ X = (gt bs i).2 ∧ fd = true
theorem putR_no {bs : List BriefT} {t : ByteArray} {j : Nat} {X : List ByteArray} {fd : Bool} (h : putR bs t j X fd) (hj : j < bs.length) (hn : eqD (gt bs j).1 t = false) : putR bs t (j + 1) X fd := by
  rcases h with ⟨h1, h2, h3⟩ | ⟨i, h1, h2⟩
  · refine .inl ⟨?_, h2, h3⟩
    rw [take_gt hj, List.find?_append, h1]
    simp [hn]
  · exact .inr ⟨i, by omega, h2⟩
theorem putR_yes {bs : List BriefT} (hb : briefsOk bs = true) {t : ByteArray} {j : Nat} {X : List ByteArray} {fd : Bool} (h : putR bs t j X fd) (hj : j < bs.length) (hn : eqD (gt bs j).1 t = true) : X = [] ∧ putR bs t (j + 1) (gt bs j).2 true := by
  have hm : (gt bs j).1 = t := by rwa [eqD_iff] at hn
  have hf : (bs.find? fun b => eqD b.1 t) = some (gt bs j) := by
    rw [← hm]
    exact find_mark hb (gt_mem hj)
  rcases h with ⟨h1, h2, h3⟩ | ⟨i, h1, h2, h3, _⟩
  · have hw : wordOk t = false := by
      cases h : wordOk t with
      | false => rfl
      | true => rw [find_word hb h] at hf; cases hf
    rw [hw] at h2
    exact ⟨h2, .inr ⟨j, by omega, hj, hn, hf, rfl, rfl⟩⟩
  · exfalso
    rw [eqD_iff] at h3
    have := mark_one hb h2 hj (h3.trans hm.symm)
    omega
theorem putR_end {bs : List BriefT} {t : ByteArray} {X : List ByteArray} {fd : Bool} (h : putR bs t bs.length X fd) : pieceOf bs t = if fd then some X else none := by
  unfold pieceOf
  rcases h with ⟨h1, h2, h3⟩ | ⟨i, h1, h2, h3, h4, h5, h6⟩
  · rw [List.take_of_length_le (Nat.le_refl _)] at h1
    rw [h1]
    subst h3 h2
    dsimp only
    cases wordOk t <;> rfl
  · rw [h4]
    subst h6 h5
    rfl
theorem putR_len {bs : List BriefT} (hb : briefsOk bs = true) {t : ByteArray} {j : Nat} {X : List ByteArray} {fd : Bool} (h : putR bs t j X fd) : X.length ≤ 3 := by
  rcases h with ⟨h1, h2, h3⟩ | ⟨i, h1, h2, h3, h4, h5, h6⟩
  · subst h2
    split <;> simp
  · subst h5
    exact (briefs_wd hb _ (gt_mem h2)).2
end Go.Proofs.Ythijnojefeeaoaa
