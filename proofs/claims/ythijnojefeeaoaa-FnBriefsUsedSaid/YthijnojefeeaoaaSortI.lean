/- Numbers of the call's own, sorted and compacted by the library. -/
import Derived.Test.YthijnojefeeaoaaShelf
import Derived.Test.YthijnojefeeaoaaOwn
import Derived.Lib.SlicesCompact
import Derived.Lib.OwnBridge
import Derived.Lib.RowBridge
import Derived.Sort.OwnSortedInts
namespace Go.Proofs.Ythijnojefeeaoaa
open Go.RowKit Go.Sort
theorem own_ints {base : Nat} {w : World} {e : TypeId} {v : Value} {l : List Int} : OwnR intS base w e v l ↔ w.ownsRow base e 1 v l.length (l.map (Value.int .i64)) := by
  constructor
  · rintro ⟨xs, ho, hx⟩
    have hxl : xs.length = l.length * 1 := ho.1
    have : xs = l.map (Value.int .i64) := by
      apply List.ext_getElem?
      intro k
      by_cases hk : k < l.length
      · obtain ⟨f, hf, he⟩ := hx k hk
        have f0 := hf 0 (by show 0 < 1; omega)
        have s0 : k * intS.sz + 0 = k := by show k * 1 + 0 = k; omega
        have e0 : f 0 = .int .i64 (gt l k) := he
        rw [s0, e0] at f0
        rw [f0, List.getElem?_map, List.getElem?_eq_getElem hk, gt_eq hk]
        rfl
      · rw [List.getElem?_eq_none (by omega), List.getElem?_eq_none (by rw [List.length_map]; omega)]
    rw [← this]
    exact ho
  · intro h
    refine ⟨_, h, fun k hk => ⟨fun _ => .int .i64 (gt l k), fun j hj => ?_, rfl⟩⟩
    have hj' : j < 1 := hj
    obtain rfl : j = 0 := by omega
    have s0 : k * intS.sz + 0 = k := by show k * 1 + 0 = k; omega
    rw [s0, List.getElem?_map, List.getElem?_eq_getElem hk, gt_eq hk]
    rfl
theorem sortI_any (A : Option Addr) (n c base : Nat) (l : List Int) (w : World) (h : OwnR intS base w 3 (.slice A n c) l) (hl : l.length ≤ 1048576) :
    Calls Try.prog 62 #[.slice A n c] w fun e w' => e = .returned (.tuple #[]) ∧ OwnR intS base w' 3 (.slice A n c) (l.mergeSort fun x y => decide (x ≤ y)) ∧ Below base w w' := by
  have ho := own_ints.1 h
  have hll : (l.mergeSort fun x y => decide (x ≤ y)).length = l.length := List.length_mergeSort l
  by_cases hn : (Value.slice A n c) = .slice none 0 0
  · injection hn with h1 h2 h3
    subst h1 h2 h3
    refine (Try.slices_Sort_int_none none 0 w).mono ?_
    rintro e w' ⟨rfl, rfl⟩
    obtain ⟨A', c', he, _⟩ := h.form
    injection he with _ he _
    obtain rfl : l = [] := List.length_eq_zero_iff.1 he.symm
    exact ⟨rfl, by rw [List.mergeSort_nil]; exact h, Below.refl _ _⟩
  · obtain ⟨g, cap, hv, hg, hgl, hncap, hcm, hlen, hH⟩ := Lib.holds_of_ownsRow ho hn
    injection hv with h1 h2 h3
    subst h1 h2 h3
    refine (Try.slices_Sort_int g 0 c l w hH hgl (by omega)).mono ?_
    rintro e w' ⟨rfl, nn, os, rfl⟩
    rcases ho.2 with ⟨e0, _⟩ | ⟨g', cap', cur, e0, hb, hgg, hn2, hm2, hs2, ht2⟩
    · cases e0
    · injection e0 with e1 _ e3
      injection e1 with e1
      injection e1 with e1
      subst e1 e3
      refine ⟨rfl, ?_, ?_⟩
      · rw [own_ints, hll]
        exact ownsRow_sortedI hll hb hgg hn2 hm2 hs2
      · exact (Below.refl base w).grown (grownBy_sortedI _) (by omega) (fun j hj => by cases hj; exact hb)
theorem compI_any (A : Option Addr) (n c base : Nat) (l : List Int) (w : World) (h : OwnR intS base w 3 (.slice A n c) l) (hl : l.length ≤ 1048576) :
    Calls Try.prog 63 #[.slice A n c] w fun e w' => e = .returned (.slice A (Lib.compact l).length c) ∧ OwnR intS base w' 3 (.slice A (Lib.compact l).length c) (Lib.compact l) ∧ Below base w w' := by
  have ho := own_ints.1 h
  have hle := Lib.compact_length_le l
  by_cases hn : (Value.slice A n c) = .slice none 0 0
  · injection hn with h1 h2 h3
    subst h1 h2 h3
    obtain ⟨A', c', he, _⟩ := h.form
    injection he with _ he _
    obtain rfl : l = [] := List.length_eq_zero_iff.1 he.symm
    refine (Try.slices_Compact_int_empty none 0 w).mono ?_
    rintro e w' ⟨rfl, rfl⟩
    exact ⟨rfl, h, Below.refl _ _⟩
  · obtain ⟨g, cap, hv, hg, hgl, hncap, hcm, hlen, hH⟩ := Lib.holds_of_ownsRow ho hn
    injection hv with h1 h2 h3
    subst h1 h2 h3
    refine (Try.slices_Compact_int g 0 c l w hH (by omega) hncap).mono ?_
    rintro e w' ⟨rfl, q, rfl⟩
    have hc := Lib.ownsRow_putRow (q := q) (k := (Lib.compact l).length) (ys := Lib.compact l ++ List.replicate (l.length - (Lib.compact l).length) 0) ho (by simp; omega) hle
    rw [List.take_left] at hc
    exact ⟨rfl, own_ints.2 hc, Lib.below_putRow (Below.refl _ _) hg⟩
end Go.Proofs.Ythijnojefeeaoaa
