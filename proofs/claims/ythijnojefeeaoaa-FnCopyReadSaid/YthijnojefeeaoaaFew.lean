/- Briefs picked out of others: their words are shared. General but for the forms of a brief. -/
import Derived.Test.YthijnojefeeaoaaDrawT
import Derived.Test.YthijnojefeeaoaaUsedV
namespace Go.Proofs.Ythijnojefeeaoaa
open Go.RowKit
/-- The cells of each brief. -/
theorem prs_ex {n : Nat} {w : World} {A : Option Addr} {bs : List BriefT} (hx : Rd briefS 0 w.heap.size w A n bs) : ∃ ps : List (ByteArray × Value), ps.length = n ∧ (0 < n → ∃ b off, A = some ⟨b, off, none⟩ ∧ b < w.heap.size) ∧
    ∀ k, k < n → ∀ b off, A = some ⟨b, off, none⟩ → w.cell? ⟨b, off + k * 2, none⟩ = some (.string (gt bs k).1) ∧ (gt bs k).1.size ≤ 9223372036854775807 ∧ w.cell? ⟨b, off + k * 2 + 1, none⟩ = some (gt ps k).2 ∧ (gt ps k).1 = (gt bs k).1 ∧
      ∃ A1 c1, (gt ps k).2 = .slice A1 (gt bs k).2.length c1 ∧ (gt bs k).2.length ≤ c1 ∧ Rd strS 0 w.heap.size w A1 (gt bs k).2.length (gt bs k).2 := by
  by_cases hn : 0 < n
  · obtain ⟨b, off, rfl, _, hbb, hcx⟩ := hx.2.2 hn
    have hps : ∀ k, k < n → gt ((List.range n).map fun k => ((gt bs k).1, (w.cell? ⟨b, off + k * 2 + 1, none⟩).getD undef)) k = ((gt bs k).1, (w.cell? ⟨b, off + k * 2 + 1, none⟩).getD undef) := fun k hk => by
      simp [gt, hk]
    refine ⟨(List.range n).map fun k => ((gt bs k).1, (w.cell? ⟨b, off + k * 2 + 1, none⟩).getD undef), by simp, fun _ => ⟨b, off, rfl, hbb⟩, fun k hk b' off' he => ?_⟩
    injection he with he
    injection he with e1 e2 _
    subst e1 e2
    obtain ⟨A1, c1, h1, h2, h3, h4, h5⟩ := hcx.brief hk
    rw [hps k hk, h2]
    exact ⟨h1, h3, rfl, rfl, A1, c1, rfl, h4, h5⟩
  · refine ⟨[], by simp; omega, fun h => absurd h hn, fun k hk => absurd hk (by omega)⟩
theorem br_rd {base n c : Nat} {w : World} {e : TypeId} {A : Option Addr} {ps : List (ByteArray × Value)} {ds : List BriefT} (hO : OwnR brvS base w e (.slice A n c) ps) (hl : ps.length = ds.length) (hm : ds.length ≤ 9223372036854775807)
    (hp : ∀ k, k < ds.length → (gt ps k).1 = (gt ds k).1 ∧ ∃ A1 c1, (gt ps k).2 = .slice A1 (gt ds k).2.length c1 ∧ (gt ds k).2.length ≤ c1 ∧ Rd strS 0 w.heap.size w A1 (gt ds k).2.length (gt ds k).2) : n = ds.length ∧ Rd briefS 0 w.heap.size w A n ds := by
  obtain ⟨hn, hrd⟩ := hO.rd (by omega)
  have hrd := hrd.wide (Nat.zero_le _) (Nat.le_refl _)
  refine ⟨by omega, Rd_iff.2 ⟨by omega, hrd.2.1, fun h0 => ?_⟩⟩
  obtain ⟨b, off, hA, h1, h2, ha⟩ := hrd.2.2 h0
  refine ⟨b, off, hA, ⟨h1, h2⟩, fun k hk => ?_⟩
  obtain ⟨f, hf, he⟩ := ha k hk
  have he' : f 0 = .string (gt ps k).1 ∧ (gt ps k).1.size ≤ 9223372036854775807 ∧ f 1 = (gt ps k).2 := he
  obtain ⟨q1, A1, c1, q2, q3, q4⟩ := hp k (by omega)
  rw [q1, q2] at he'
  exact ⟨f, hf, ⟨he'.1, he'.2.1⟩, A1, c1, he'.2.2, q3, Rd_iff.1 q4⟩
theorem i_rd0 {w w' : World} {V : List Int} {e : Ending} (h : RetI w V e w') (hl : V.length ≤ 1048576) : ∃ A c, e = .returned (.slice A V.length c) ∧ V.length ≤ c ∧ Rd intS 0 w'.heap.size w' A V.length V ∧ Below w.heap.size w w' := by
  obtain ⟨A, c, rfl, hO, hb⟩ := h
  exact ⟨A, c, rfl, (own_cap hO).1, ((hO.rd (by omega)).2).wide (Nat.zero_le _) (Nat.le_refl _), hb⟩
theorem sb_rd {w w' : World} {V : Option (List ByteArray)} {e : Ending} (h : RetSB w V e w') (hl : (V.getD []).length ≤ 1048576) : ∃ A c, e = .returned (.tuple #[.slice A (V.getD []).length c, .bool V.isSome]) ∧ (V.getD []).length ≤ c ∧ c ≤ 9223372036854775807 ∧ Rd strS 0 w'.heap.size w' A (V.getD []).length (V.getD []) ∧ Below w.heap.size w w' := by
  obtain ⟨A, c, rfl, hO, hb⟩ := h
  exact ⟨A, c, rfl, (own_cap hO).1, (own_cap hO).2, ((hO.rd (by omega)).2).wide (Nat.zero_le _) (Nat.le_refl _), hb⟩
end Go.Proofs.Ythijnojefeeaoaa
