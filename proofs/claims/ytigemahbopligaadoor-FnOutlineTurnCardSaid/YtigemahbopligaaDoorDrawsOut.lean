/- The draws of outlines for the laws: some list of strokes, of a bounded length, in memory of the call's own. -/
import Derived.Test.YtigemahbopligaaDoorReader3
namespace Go.Proofs.YtigemahbopligaaDoor
open Go.RowKit
/-- Some list of strokes in new memory. -/
def SomeO (most : Nat) (w : World) (e : Ending) (w' : World) : Prop :=
  ∃ g d o, e = .returned (.slice (some ⟨g, 0, none⟩) (List.length o) d) ∧ o.length ≤ d ∧ o.length ≤ most ∧ Rd strokeS w.heap.size w'.heap.size w' (some ⟨g, 0, none⟩) o.length o ∧ Below w.heap.size w w'
theorem draw_core {w w1 w2 : World} {B : Option Addr} {d : Nat} {o : List (Int × Int)} (hb1 : Below w.heap.size w w1) (hs1 : w1.heap.size = w.heap.size + 1) (hO : OwnR strokeS w1.heap.size w2 46 (.slice B o.length d) o) (hc : Chg (fun k => k = w.heap.size) w1 w2) (ho : o.length ≤ 100) :
    Rd strokeS w1.heap.size w2.heap.size w2 B o.length o ∧ Below w.heap.size w w2 :=
  ⟨(hO.rd (by omega)).2, hb1.trans (hc.below (by omega) (fun k hk => by omega))⟩
theorem draw_out {w w1 w2 : World} {B : Option Addr} {d most : Nat} {o : List (Int × Int)} (hb1 : Below w.heap.size w w1) (hs1 : w1.heap.size = w.heap.size + 1) (hO : OwnR strokeS w1.heap.size w2 46 (.slice B o.length d) o) (hc : Chg (fun k => k = w.heap.size) w1 w2) (hd : o.length ≤ d) (ho : o.length ≤ most) (h100 : o.length ≤ 100) (hB : ∃ g, B = some ⟨g, 0, none⟩) :
    SomeO most w (.returned (.slice B o.length d)) w2 :=
by
  obtain ⟨g, rfl⟩ := hB
  have h := draw_core hb1 hs1 hO hc h100
  exact ⟨g, d, o, rfl, hd, ho, h.1.wide (by omega) (Nat.le_refl _), h.2⟩
set_option maxHeartbeats 400000 in
theorem DrawOutlineEnd_any (A : Option Addr) (n c : Nat) (l : List UInt8) (w : World) (hnc : n ≤ c) (hx : Rd byteS 0 w.heap.size w A n l) :
    Calls Tryd.prog 26 #[.slice A n c] w (SomeO 6 w) := by
  have HX := hid hx
  clear hx
  go_enter Tryd.func26, Tryd.ntmps26
  go_wp2_with fail
  refine (l6Open_any A n c l w hnc HX.out).mono ?_
  rintro e w1 ⟨rfl, hr1, hb1, hs1⟩
  have HR1 := hid hr1
  have HB1 := hid hb1
  have HS1 := hid hs1
  clear hr1 hb1 hs1
  go_wp2_with fail
  refine (l91Outline_any _ _ _ 6 HR1.out (by omega) (by omega)).mono ?_
  rintro e w2 ⟨B, d, o, p', rfl, hod, ho, hO, hp', hr2, hc2, hBg⟩
  have HO := hid hO
  have HC := hid hc2
  clear hO hc2 hr2
  go_wp2_with fail
  go_ret
  exact draw_out HB1.out HS1.out HO.out HC.out hod ho (by omega) hBg
set_option maxHeartbeats 400000 in
theorem DrawOutlineBox_any (A : Option Addr) (n c : Nat) (l : List UInt8) (w : World) (hnc : n ≤ c) (hx : Rd byteS 0 w.heap.size w A n l) :
    Calls Tryd.prog 34 #[.slice A n c] w (SomeO 6 w) := by
  have HX := hid hx
  clear hx
  go_enter Tryd.func34, Tryd.ntmps34
  go_wp2_with fail
  refine (l6Open_any A n c l w hnc HX.out).mono ?_
  rintro e w1 ⟨rfl, hr1, hb1, hs1⟩
  have HR1 := hid hr1
  have HB1 := hid hb1
  have HS1 := hid hs1
  clear hr1 hb1 hs1
  go_wp2_with fail
  refine (l91Outline_any _ _ _ 6 HR1.out (by omega) (by omega)).mono ?_
  rintro e w2 ⟨B, d, o, p', rfl, hod, ho, hO, hp', hr2, hc2, hBg⟩
  have HO := hid hO
  have HC := hid hc2
  clear hO hc2 hr2
  go_wp2_with fail
  go_ret
  exact draw_out HB1.out HS1.out HO.out HC.out hod ho (by omega) hBg
set_option maxHeartbeats 400000 in
theorem DrawOutlineMirror_any (A : Option Addr) (n c : Nat) (l : List UInt8) (w : World) (hnc : n ≤ c) (hx : Rd byteS 0 w.heap.size w A n l) :
    Calls Tryd.prog 29 #[.slice A n c] w (SomeO 6 w) := by
  have HX := hid hx
  clear hx
  go_enter Tryd.func29, Tryd.ntmps29
  go_wp2_with fail
  refine (l6Open_any A n c l w hnc HX.out).mono ?_
  rintro e w1 ⟨rfl, hr1, hb1, hs1⟩
  have HR1 := hid hr1
  have HB1 := hid hb1
  have HS1 := hid hs1
  clear hr1 hb1 hs1
  go_wp2_with fail
  refine (l91Outline_any _ _ _ 6 HR1.out (by omega) (by omega)).mono ?_
  rintro e w2 ⟨B, d, o, p', rfl, hod, ho, hO, hp', hr2, hc2, hBg⟩
  have HO := hid hO
  have HC := hid hc2
  clear hO hc2 hr2
  go_wp2_with fail
  go_ret
  exact draw_out HB1.out HS1.out HO.out HC.out hod ho (by omega) hBg
set_option maxHeartbeats 400000 in
theorem DrawOutlineBack_any (A : Option Addr) (n c : Nat) (l : List UInt8) (w : World) (hnc : n ≤ c) (hx : Rd byteS 0 w.heap.size w A n l) :
    Calls Tryd.prog 31 #[.slice A n c] w (SomeO 6 w) := by
  have HX := hid hx
  clear hx
  go_enter Tryd.func31, Tryd.ntmps31
  go_wp2_with fail
  refine (l6Open_any A n c l w hnc HX.out).mono ?_
  rintro e w1 ⟨rfl, hr1, hb1, hs1⟩
  have HR1 := hid hr1
  have HB1 := hid hb1
  have HS1 := hid hs1
  clear hr1 hb1 hs1
  go_wp2_with fail
  refine (l91Outline_any _ _ _ 6 HR1.out (by omega) (by omega)).mono ?_
  rintro e w2 ⟨B, d, o, p', rfl, hod, ho, hO, hp', hr2, hc2, hBg⟩
  have HO := hid hO
  have HC := hid hc2
  clear hO hc2 hr2
  go_wp2_with fail
  go_ret
  exact draw_out HB1.out HS1.out HO.out HC.out hod ho (by omega) hBg
set_option maxHeartbeats 400000 in
theorem DrawOutlineTouches_any (A : Option Addr) (n c : Nat) (l : List UInt8) (w : World) (hnc : n ≤ c) (hx : Rd byteS 0 w.heap.size w A n l) :
    Calls Tryd.prog 18 #[.slice A n c] w (SomeO 8 w) := by
  have HX := hid hx
  clear hx
  go_enter Tryd.func18, Tryd.ntmps18
  go_wp2_with fail
  refine (l6Open_any A n c l w hnc HX.out).mono ?_
  rintro e w1 ⟨rfl, hr1, hb1, hs1⟩
  have HR1 := hid hr1
  have HB1 := hid hb1
  have HS1 := hid hs1
  clear hr1 hb1 hs1
  go_wp2_with fail
  refine (l91Outline_any _ _ _ 8 HR1.out (by omega) (by omega)).mono ?_
  rintro e w2 ⟨B, d, o, p', rfl, hod, ho, hO, hp', hr2, hc2, hBg⟩
  have HO := hid hO
  have HC := hid hc2
  clear hO hc2 hr2
  go_wp2_with fail
  go_ret
  exact draw_out HB1.out HS1.out HO.out HC.out hod ho (by omega) hBg
def SomeOK (w : World) (e : Ending) (w' : World) : Prop :=
  ∃ B d o k, e = .returned (.tuple #[.slice B (List.length o) d, .int .i64 k]) ∧ (-1 ≤ k ∧ k ≤ 8) ∧ o.length ≤ d ∧ Rd strokeS w.heap.size w'.heap.size w' B o.length o ∧ Below w.heap.size w w'
set_option maxHeartbeats 400000 in
theorem DrawOutlineTurn_any (A : Option Addr) (n c : Nat) (l : List UInt8) (w : World) (hnc : n ≤ c) (hx : Rd byteS 0 w.heap.size w A n l) :
    Calls Tryd.prog 20 #[.slice A n c] w (SomeOK w) := by
  have HX := hid hx
  clear hx
  go_enter Tryd.func20, Tryd.ntmps20
  go_wp2_with fail
  refine (l6Open_any A n c l w hnc HX.out).mono ?_
  rintro e w1 ⟨rfl, hr1, hb1, hs1⟩
  have HR1 := hid hr1
  have HB1 := hid hb1
  have HS1 := hid hs1
  clear hr1 hb1 hs1
  go_wp2_with fail
  refine (l91Outline_any _ _ _ 6 HR1.out (by omega) (by omega)).mono ?_
  rintro e w2 ⟨B, d, o, p', rfl, hod, ho, hO, hp', hr2, hc2, hBg⟩
  have HO := hid hO
  have HC := hid hc2
  have HR2 := hid hr2
  clear hO hc2 hr2
  go_wp2_with fail
  refine (pick_any _ _ p' 10 HR2.out (by omega) (by omega) (by omega)).mono ?_
  rintro e w3 ⟨v, rfl, v0, v1, hr3, hc3⟩
  have hv := v1 (by omega)
  have HC3 := hid hc3
  clear hc3 hr3 v1
  go_wp2_with fail
  go_ret2
  obtain ⟨hrd, hbb⟩ := draw_core HB1.out HS1.out HO.out HC.out (by omega)
  exact ⟨B, d, o, v - 1, rfl, by omega, hod, (hrd.chg HC3.out (Nat.le_refl _) (fun k hk => .inr (by have := HS1.out; omega))).wide (by have := HS1.out; omega) HC3.out.size, hbb.trans (HC3.out.below (by have := HB1.out.size; have := HC.out.size; have := HS1.out; omega) (fun k hk => by omega))⟩
end Go.Proofs.YtigemahbopligaaDoor
