/- Pens and chains: the program's own form of an outline. -/
import Derived.Test.YtigemahbopligaaOutline
namespace Go.Proofs.Ytigemahbopligaa
open Go.RowKit

/-- The chain at p holds l: one block a stroke, each behind the next one's. -/
def Chain (lo : Nat) (w : World) : Nat → Option Addr → List Int → Prop
  | _, p, [] => p = none
  | hi, p, x :: r => ∃ b q, p = some ⟨b, 0, none⟩ ∧ lo ≤ b ∧ b < hi ∧ w.cell? ⟨b, 0, none⟩ = some (.int .i64 x) ∧ w.cell? ⟨b, 1, none⟩ = some (.pointer q) ∧ Chain lo w b q r
theorem Chain.keep {lo : Nat} {w w' : World} : ∀ {l : List Int} {hi : Nat} {p : Option Addr}, Chain lo w hi p l → (∀ b o, lo ≤ b → b < hi → w'.cell? ⟨b, o, none⟩ = w.cell? ⟨b, o, none⟩) → Chain lo w' hi p l
  | [], _, _, h, _ => h
  | _ :: _, _, _, ⟨b, q, h1, h2, h3, h4, h5, h6⟩, hk => ⟨b, q, h1, h2, h3, (hk b 0 h2 h3).trans h4, (hk b 1 h2 h3).trans h5, h6.keep fun b' o a1 a2 => hk b' o a1 (by omega)⟩
theorem Chain.wide {lo lo' : Nat} {w : World} : ∀ {l : List Int} {hi hi' : Nat} {p : Option Addr}, Chain lo w hi p l → lo' ≤ lo → hi ≤ hi' → Chain lo' w hi' p l
  | [], _, _, _, h, _, _ => h
  | _ :: _, _, _, _, ⟨b, q, h1, h2, h3, h4, h5, h6⟩, hl, hh => ⟨b, q, h1, by omega, by omega, h4, h5, h6.wide hl (Nat.le_refl _)⟩
theorem Chain.below {lo hi B : Nat} {w w' : World} {l : List Int} {p : Option Addr} (h : Chain lo w hi p l) (hb : Below B w w') (hB : hi ≤ B) : Chain lo w' hi p l :=
  h.keep fun b o _ h2 => hb.cell (p := ⟨b, o, none⟩) (by show b < B; omega)
/-- How far a chain can go on: for a loop's measure. -/
def ptrNo : Value → Nat
  | .pointer (some a) => a.block + 1
  | _ => 0
theorem Chain.nil_iff {lo hi : Nat} {w : World} {l : List Int} {p : Option Addr} (h : Chain lo w hi p l) : l = [] ↔ p = none := by
  cases l with
  | nil => exact ⟨fun _ => h, fun _ => rfl⟩
  | cons x r =>
    obtain ⟨b, q, h1, _⟩ := h
    simp [h1]

theorem ret_pb {p : Option Addr} {a b : Bool} (h : a = b) : Ending.returned (.tuple #[.pointer p, .bool a]) = .returned (.tuple #[.pointer p, .bool b]) := by rw [h]
set_option maxHeartbeats 400000 in
theorem penOf_any (d s : Int) (w : World) (h : strokeOk (d, s) = true) :
    Calls Try.prog 67 #[.agg #[.int .i64 d, .int .i64 s]] w fun e w' => e = .returned (.int .i64 (penN (d, s))) ∧ Below w.heap.size w w' := by
  obtain ⟨h1, h2, h3, h4⟩ := strokeOk_yes.1 h
  clear h
  simp only [] at h1 h2 h3 h4
  go_enter Try.func67, Try.ntmps67
  go_wp2
  go_ret
  exact ⟨rfl, (Below.refl _ _).alloc (Nat.le_refl _) _⟩
set_option maxHeartbeats 400000 in
theorem dir_any (p : Int) (h : 0 ≤ p) (h2 : p ≤ 23) (w : World) :
    Calls Try.prog 70 #[.int .i64 p] w fun e w' => e = .returned (.int .i64 (p / 3)) ∧ w = w' := by
  go_enter Try.func70, Try.ntmps70
  go_wp2
  go_ret
  exact ⟨rfl, rfl⟩
set_option maxHeartbeats 400000 in
theorem size_any (p : Int) (h : 0 ≤ p) (h2 : p ≤ 23) (w : World) :
    Calls Try.prog 50 #[.int .i64 p] w fun e w' => e = .returned (.int .i64 (p % 3 + 1)) ∧ w = w' := by
  go_enter Try.func50, Try.ntmps50
  go_wp2
  go_ret
  exact ⟨rfl, rfl⟩
set_option maxHeartbeats 400000 in
theorem corner_any (p q : Int) (h : 0 ≤ p) (h2 : p ≤ 23) (h3 : 0 ≤ q) (h4 : q ≤ 23) (w : World) :
    Calls Try.prog 86 #[.int .i64 p, .int .i64 q] w fun e w' => e = .returned (.int .i64 (cornerN p q)) ∧ w = w' := by
  go_enter Try.func86, Try.ntmps86
  go_wp2_with fail
  refine (dir_any q h3 h4 _).mono ?_
  rintro e w' ⟨rfl, rfl⟩
  go_wp2_with fail
  refine (dir_any p h h2 _).mono ?_
  rintro e w' ⟨rfl, rfl⟩
  go_wp2
  all_goals
    go_ret
    exact ⟨ret_int (by unfold cornerN; omega), rfl⟩
set_option maxHeartbeats 400000 in
theorem canLead_any (p q : Int) (h : 0 ≤ p) (h2 : p ≤ 23) (h3 : 0 ≤ q) (h4 : q ≤ 23) (w : World) :
    Calls Try.prog 68 #[.int .i64 p, .int .i64 q] w fun e w' => e = .returned (.bool (leadB p q)) ∧ w = w' := by
  by_cases hc : cornerN p q = 0
  · have h0 : (cornerN p q != 0) = false := by simp [hc]
    have HC := hid hc; clear hc
    go_enter Try.func68, Try.ntmps68
    go_wp2_with (go_at_call 86; refine (corner_any p q h h2 h3 h4 _).mono ?_; rintro e w' ⟨rfl, rfl⟩)
    go_ret
    exact ⟨ret_bool (by simp [leadB, h0]), rfl⟩
  · have h0 : (cornerN p q != 0) = true := by simp [hc]
    have HC := hid hc; clear hc
    go_enter Try.func68, Try.ntmps68
    go_wp2_with (go_at_call 86; refine (corner_any p q h h2 h3 h4 _).mono ?_; rintro e w' ⟨rfl, rfl⟩)
    go_ret
    exact ⟨ret_bool (by simp [leadB, h0]), rfl⟩
set_option maxHeartbeats 1000000 in
theorem chainOf_any (A : Option Addr) (n c lo : Nat) (o : List (Int × Int)) (w : World) (hx : Rd strokeS lo w.heap.size w A n o) :
    Calls Try.prog 42 #[.slice A n c] w fun e w' => ∃ p, e = .returned (.tuple #[.pointer p, .bool (outOk o)]) ∧ Below w.heap.size w w' ∧ (outOk o = true → Chain w.heap.size w' w'.heap.size p (o.map penN)) := by
  obtain ⟨e1, e2, e3⟩ := hx
  have E1 := hid e1; clear e1
  have E3 := hid e3; clear e3
  by_cases h8 : n ≤ 8
  case neg =>
    have HH := hid (show outOk o = false by simp [outOk, ← E1.out]; omega)
    have h8' : (8 : Int) < (n : Int) := by omega
    go_enter Try.func42, Try.ntmps42
    go_wp2
    go_ret2
    exact ⟨none, ret_pb HH.out.symm, Below.refl _ _, fun h => by rw [HH.out] at h; cases h⟩
  case pos =>
    go_enter Try.func42, Try.ntmps42
    go_wp2
    go_loopw [4, 5, 6] (fun head i _ wr => ∃ (m : Nat) (z : Int) (p : Option Addr), m ≤ n ∧ i = .int .i64 z ∧ z = (m : Int) - 1 ∧ head = .pointer p ∧ Chain w.heap.size wr wr.heap.size p ((o.drop m).map penN) ∧ linked (o.drop m) = true ∧ Below w.heap.size w wr) (fun _ i _ _ => (intOf i + 1).toNat)
    case atStart => exact ⟨n, _, none, Nat.le_refl _, rfl, rfl, rfl, by rw [List.drop_eq_nil_of_le (by rw [E1.out]; omega)]; rfl, by rw [List.drop_eq_nil_of_le (by rw [E1.out]; omega)]; rfl, Below.refl _ _⟩
    case round =>
      obtain ⟨m, z, p, hm, rfl, hz, rfl, hC, hl, hb⟩ := hrel
      by_cases hm0 : m = 0
      · have hz0 : z < 0 := by omega
        have HM := hid hm0
        have HZ := hid hz
        clear hz hm0
        go_wp2
        go_ret2
        have hlo : outOk o = true := by
          have h1 := hl
          rw [HM.out, List.drop_zero] at h1
          simp [outOk, h1, ← E1.out, h8]
        refine ⟨p, ret_pb hlo.symm, hb, fun _ => ?_⟩
        rw [HM.out, List.drop_zero] at hC
        exact hC
      · obtain ⟨j, rfl⟩ : ∃ j, m = j + 1 := ⟨m - 1, by omega⟩
        obtain rfl : z = (j : Int) := by omega
        clear hz hm0
        have hlt : j < n := by omega
        obtain ⟨b, off, rfl, _, hbb, hcx⟩ := E3.out (by omega)
        have cx0 := (hb.cell (p := ⟨b, off + j * 2, none⟩) hbb).trans (hcx.stroke hlt).1
        have cx1 := (hb.cell (p := ⟨b, off + j * 2 + 1, none⟩) hbb).trans (hcx.stroke hlt).2
        have hbw := Nat.lt_of_lt_of_le hbb hb.size
        have hd := hid (drop_gt (l := o) (by rw [← E1.out]; exact hlt))
        have hbad : Hid (linked (o.drop j) = false → outOk o = false) := fun h => by
          cases ho : outOk o with
          | false => rfl
          | true => rw [linked_drop (outOk_yes ho).1 j] at h; cases h
        clear hcx
        have HL := hid hl; clear hl
        have HC := hid hC; clear hC
        by_cases hok : strokeOk (gt o j) = true
        case neg =>
          have hok' : strokeOk (gt o j) = false := by simpa using hok
          have HF := hid (hbad.out (by rw [hd.out, linked_cons, hok', Bool.false_and]))
          clear hok
          go_wp2_with fail
          refine (implStrokeValid_any _ _ _).mono ?_
          rintro e w1 ⟨rfl, hb1⟩
          clear cx0 cx1
          rw [show strokeOk ((gt o j).1, (gt o j).2) = false from hok']
          go_wp2
          go_ret2
          exact ⟨none, ret_pb HF.out.symm, hb.trans (hb1.mono hb.size), fun h => by rw [HF.out] at h; cases h⟩
        case pos =>
          have hpb := penN_bd hok
          obtain ⟨pb1, pb2⟩ := hpb
          go_wp2_with fail
          refine (implStrokeValid_any _ _ _).mono ?_
          rintro e w1 ⟨rfl, hb1⟩
          have cx2 := (hb1.cell (p := ⟨b, off + j * 2, none⟩) hbw).trans cx0
          have cx3 := (hb1.cell (p := ⟨b, off + j * 2 + 1, none⟩) hbw).trans cx1
          rw [show strokeOk ((gt o j).1, (gt o j).2) = true from hok]
          clear cx0 cx1
          go_wp2_with fail
          refine (penOf_any (gt o j).1 (gt o j).2 _ hok).mono ?_
          rintro e w2 ⟨rfl, hb2⟩
          rw [show ((gt o j).1, (gt o j).2) = gt o j from rfl]
          have hb12 := hb1.trans (hb2.mono hb1.size)
          have hC2 := HC.out.below hb12 (Nat.le_refl _)
          clear cx2 cx3
          cases hr : o.drop (j + 1) with
          | nil =>
            have HR := hid hr
            rw [hr] at hC2
            obtain rfl : p = none := hC2
            have HOK := hid hok
            clear hr hok
            go_wp2
            go_roundw
            case rel =>
              refine ⟨j, _, _, by omega, rfl, by omega, rfl, ?_, by rw [hd.out, HR.out]; exact HOK.out, (hb.trans (hb12.mono hb.size)).alloc (Nat.le_trans hb.size hb12.size) _⟩
              rw [hd.out, HR.out]
              exact ⟨w2.heap.size, none, rfl, Nat.le_trans hb.size hb12.size, by simp, (cell_new _ _ _ 0), (cell_new _ _ _ 1), rfl⟩
            case measure => simp [intOf]
          | cons q r =>
            have HR := hid hr
            rw [hr, List.map_cons] at hC2
            obtain ⟨g, q', rfl, g1, g2, c0, c1, hC3⟩ := hC2
            have hqok : strokeOk q = true := linked_ok HL.out q (by rw [hr]; exact List.mem_cons_self ..)
            obtain ⟨qb1, qb2⟩ := penN_bd hqok
            have hla := leadB_adj hok hqok
            have HOK := hid hok
            have HQ := hid hqok
            clear hr hok hqok
            by_cases hadj : adj (gt o j) q = true
            case neg =>
              have hadj' : adj (gt o j) q = false := by simpa using hadj
              have HF := hid (hbad.out (by rw [hd.out, HR.out]; simp [linked, hadj']))
              have hlead : leadB (penN (gt o j)) (penN q) = false := hla.trans hadj'
              clear hadj hadj' hla
              go_wp2_with fail
              refine (canLead_any _ _ pb1 pb2 qb1 qb2 _).mono ?_
              rintro e w' ⟨rfl, rfl⟩
              go_wp2
              go_ret2
              exact ⟨none, ret_pb HF.out.symm, hb.trans (hb12.mono hb.size), fun h => by rw [HF.out] at h; cases h⟩
            case pos =>
              have hlead : leadB (penN (gt o j)) (penN q) = true := hla.trans hadj
              have HA := hid hadj
              clear hadj hla
              go_wp2_with fail
              refine (canLead_any _ _ pb1 pb2 qb1 qb2 _).mono ?_
              rintro e w' ⟨rfl, rfl⟩
              go_wp2
              go_roundw
              case rel =>
                refine ⟨j, _, _, by omega, rfl, by omega, rfl, ?_, ?_, (hb.trans (hb12.mono hb.size)).alloc (Nat.le_trans hb.size hb12.size) _⟩
                · rw [hd.out, HR.out]
                  refine ⟨w2.heap.size, _, rfl, Nat.le_trans hb.size hb12.size, by simp, (cell_new _ _ _ 0), (cell_new _ _ _ 1), ?_⟩
                  have hC4 : Chain w.heap.size w2 w2.heap.size (some ⟨g, 0, none⟩) (penN q :: r.map penN) := ⟨g, q', rfl, g1, Nat.lt_of_lt_of_le g2 hb12.size, c0, c1, hC3⟩
                  exact hC4.keep fun b' o' _ h2 => World.cell?_alloc_lt w2 _ ⟨b', o', none⟩ h2
                · rw [hd.out, HR.out]
                  show (strokeOk _ && (adj _ _ && linked (q :: r))) = true
                  rw [HOK.out, HA.out, ← HR.out, HL.out]
                  rfl
              case measure => simp [intOf]
set_option maxHeartbeats 1000000 in
theorem implOutlineLength_any (A : Option Addr) (n c lo : Nat) (o : List (Int × Int)) (w : World) (hx : Rd strokeS lo w.heap.size w A n o) :
    Calls Try.prog 20 #[.slice A n c] w fun e w' => e = .returned (.int .i64 (lenOf o)) ∧ Below w.heap.size w w' := by
  have HV := hid (chainOf_any A n c lo o w hx)
  clear hx
  by_cases hok : outOk o = true
  case neg =>
    have hok' : outOk o = false := by simpa using hok
    have HH := hid (show lenOf o = -1 by simp [lenOf, hok'])
    clear hok
    go_enter Try.func20, Try.ntmps20
    go_wp2_with fail
    refine HV.out.mono ?_
    rintro e w1 ⟨p, rfl, hb1, _⟩
    go_wp2
    go_ret
    exact ⟨ret_int HH.out.symm, hb1⟩
  case pos =>
    obtain ⟨hl, h8⟩ := outOk_yes hok
    have HK := hid (linked_ok hl)
    have HH := hid (show lenOf o = 0 + sumPen (o.map penN) by rw [sumPen_eq (linked_ok hl)]; simp [lenOf, hok])
    have hbd := sumSz_bd (linked_ok hl)
    rw [← sumPen_eq (linked_ok hl)] at hbd
    clear hl
    go_enter Try.func20, Try.ntmps20
    go_wp2_with fail
    refine HV.out.mono ?_
    rintro e w1 ⟨p, rfl, hb1, hC⟩
    have hC1 := hid (hC hok)
    have HB := hid (show ∀ x ∈ o.map penN, 0 ≤ x ∧ x ≤ 23 from fun x hx => by
      obtain ⟨y, hy, rfl⟩ := List.mem_map.1 hx
      exact penN_bd (HK.out y hy))
    clear hC
    go_wp2
    clear hok
    go_loop [5, 6] (fun t q => ∃ (l : List Int) (m : Int) (hi : Nat) (a : Option Addr), q = .pointer a ∧ t = .int .i64 m ∧ Chain w.heap.size w1 hi a l ∧ (∀ x ∈ l, 0 ≤ x ∧ x ≤ 23) ∧ 0 ≤ m ∧ m + 3 * l.length ≤ 24 ∧ lenOf o = m + sumPen l) (fun _ q => ptrNo q)
    case atStart => exact ⟨_, 0, _, _, rfl, rfl, hC1.out, HB.out, by omega, by rw [List.length_map]; omega, HH.out⟩
    case round =>
      obtain ⟨l, m, hi, a, rfl, rfl, hC, hxb, hm0, hm1, hr⟩ := hrel
      have HR := hid hr; clear hr
      cases l with
      | nil =>
        obtain rfl : a = none := hC
        clear hxb
        go_wp2
        go_ret
        exact ⟨ret_int (by rw [HR.out]; simp [sumPen]), hb1⟩
      | cons x r =>
        obtain ⟨g, q', rfl, g1, g2, c0, c1, hC3⟩ := hC
        obtain ⟨x1, x2⟩ := hxb x (List.mem_cons_self ..)
        have HX := hid (show ∀ y ∈ r, 0 ≤ y ∧ y ≤ 23 from fun y hy => hxb y (List.mem_cons_of_mem _ hy))
        have HC3 := hid hC3
        have hln : (x :: r).length = r.length + 1 := rfl
        rw [hln] at hm1
        clear hC3 hxb hln
        go_wp2_with fail
        refine (size_any x x1 x2 _).mono ?_
        rintro e w' ⟨rfl, rfl⟩
        go_wp2
        go_round
        case rel => exact ⟨r, _, _, _, rfl, rfl, HC3.out, HX.out, by omega, by omega, by rw [HR.out, sumPen]; omega⟩
        case measure =>
          cases r with
          | nil => obtain rfl : q' = none := HC3.out; simp [ptrNo]
          | cons y r' => obtain ⟨g', _, rfl, _, g3, _⟩ := HC3.out; simp [ptrNo]; omega
end Go.Proofs.Ytigemahbopligaa
