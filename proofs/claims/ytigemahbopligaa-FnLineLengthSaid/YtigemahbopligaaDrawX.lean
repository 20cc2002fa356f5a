/- A system and a dictionary as they are drawn, and the draw of FnDictionaryLength. -/
import Derived.Test.YtigemahbopligaaDrawY
namespace Go.Proofs.Ytigemahbopligaa
open Go.RowKit
/-- What l91Both returns. -/
def DrawnX (rb p : Nat) (w : World) (e : Ending) (w' : World) : Prop :=
  ∃ A c l B d o p', e = .returned (.tuple #[.slice A (List.length l) c, .slice B (List.length o) d]) ∧ List.length l ≤ c ∧ List.length o ≤ d ∧ List.length l ≤ 10 ∧ List.length o ≤ 9 ∧ OwnR signS w.heap.size w' 100 (.slice A (List.length l) c) l ∧ OwnR strS w.heap.size w' 9 (.slice B (List.length o) d) o ∧ p' ≤ p + 240 ∧ Rdr rb w' p' ∧ Chg (fun k => k = rb) w w'
theorem own_cap2 {α : Type} [Inhabited α] {S : Shape α} {base : Nat} {w : World} {e : TypeId} {A : Option Addr} {n c : Nat} {l : List α} (h : OwnR S base w e (.slice A n c) l) : l.length ≤ c := by
  obtain ⟨A', c', h1, h2⟩ := h.form
  injection h1 with _ _ h3
  omega
set_option maxHeartbeats 1000000 in
theorem l91Both_any (rb p : Nat) (w : World) (h : Rdr rb w p) (hp : p ≤ 500) :
    Calls Try.prog 57 #[.pointer (some ⟨rb, 0, none⟩)] w (DrawnX rb p w) := by
  have HR := hid h
  have hrl := h.lt
  clear h
  go_enter Try.func57, Try.ntmps57
  go_wp2_with fail
  refine (l91System_any _ _ _ HR.out hp).mono ?_
  intro e w1 hres
  obtain ⟨A, c, l, p1, rfl, hO, hl, hp1, hr1, hc1⟩ := hres
  have HO := hid hO
  have HC := hid hc1
  have HR1 := hid hr1
  have hz := hc1.size
  clear hO hr1 hc1
  go_wp2_with fail
  refine (l91Dictionary_any _ _ _ HR1.out (by omega)).mono ?_
  intro e w2 hres
  obtain ⟨B, d, o, p2, rfl, hP, ho, hp2, hr2, hc2⟩ := hres
  have HP := hid hP
  have HC2 := hid hc2
  have HR2 := hid hr2
  clear hP hr2 hc2
  go_wp2_with fail
  go_ret2
  exact ⟨A, c, l, B, d, o, p2, rfl, own_cap2 HO.out, own_cap2 HP.out, hl, ho, HO.out.chg HC2.out (fun k hk => by omega), HP.out.low hz, by omega, HR2.out, HC.out.trans HC2.out⟩
/-- A drawn system and dictionary in new memory. -/
def SomeX (w : World) (e : Ending) (w' : World) : Prop :=
  ∃ A c l B d o, e = .returned (.tuple #[.slice A (List.length l) c, .slice B (List.length o) d]) ∧ List.length l ≤ c ∧ List.length o ≤ d ∧ List.length l ≤ 10 ∧ List.length o ≤ 9 ∧ OwnR signS w.heap.size w' 100 (.slice A (List.length l) c) l ∧ OwnR strS w.heap.size w' 9 (.slice B (List.length o) d) o ∧ Below w.heap.size w w'
set_option maxHeartbeats 1000000 in
theorem DrawDictionaryLength_any (A : Option Addr) (n c : Nat) (l : List UInt8) (w : World) (hnc : n ≤ c) (hx : Rd byteS 0 w.heap.size w A n l) :
    Calls Try.prog 28 #[.slice A n c] w (SomeX w) := by
  have HX := hid hx
  clear hx
  go_enter Try.func28, Try.ntmps28
  go_wp2_with fail
  refine (l6Open_any A n c l w hnc HX.out).mono ?_
  rintro e w1 ⟨rfl, hr1, hb1, hs1⟩
  have HR1 := hid hr1
  have HB1 := hid hb1
  have HS1 := hid hs1
  clear hr1 hb1 hs1
  go_wp2_with fail
  refine (l91Both_any _ _ _ HR1.out (by omega)).mono ?_
  intro e w2 hres
  obtain ⟨A, c, l, B, d, o, p', rfl, h1, h2, h3, h4, hO, hP, _, _, hc2⟩ := hres
  have HO := hid hO
  have HP := hid hP
  have HC2 := hid hc2
  clear hO hP hc2
  go_wp2_with fail
  go_ret2
  have hs := HS1.out
  exact ⟨A, c, l, B, d, o, rfl, h1, h2, h3, h4, HO.out.low (by omega), HP.out.low (by omega), HB1.out.trans (HC2.out.below (by omega) (fun k hk => by omega))⟩
end Go.Proofs.Ytigemahbopligaa
