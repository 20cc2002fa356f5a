/- The corners of an outline; two outlines compared: what the functions return. -/
import Derived.Test.YtigemahbopligaaDoorChain
import Derived.Test.YtigemahbopligaaDoorStrokes
import Derived.Test.YtigemahbopligaaDoorOutLaws
import Derived.Deep.LoopGhost
import Derived.IntWalk
import Derived.Laws.StructEq
namespace Go.Proofs.YtigemahbopligaaDoor
open Go.RowKit
def cornP : List Int → Int
  | [] => 0
  | _ :: [] => 0
  | a :: b :: r => cornerN a b + cornP (b :: r)
theorem cornP_pens {o : List (Int × Int)} (h : ∀ p ∈ o, strokeOk p = true) : cornP (o.map penN) = cornS o := by
  induction o with
  | nil => rfl
  | cons a r ih =>
    cases r with
    | nil => rfl
    | cons b r =>
      have := ih fun p hp => h p (List.mem_cons_of_mem _ hp)
      simp only [List.map_cons, cornP, cornS] at this ⊢
      rw [this, crn_pen (h a (List.mem_cons_self ..)) (h b (List.mem_cons_of_mem _ (List.mem_cons_self ..)))]
set_option maxRecDepth 100000 in
set_option maxHeartbeats 1000000 in
theorem implOutlineCorners_any (A : Option Addr) (n c lo : Nat) (o : List (Int × Int)) (w : World) (hx : Rd strokeS lo w.heap.size w A n o) :
    Calls Tryd.prog 25 #[.slice A n c] w fun e w' => e = .returned (.int .i64 (cornOf o)) ∧ Below w.heap.size w w' := by
  have HV := hid (chainOf_any A n c lo o w hx)
  clear hx
  by_cases hok : outOk o = true
  case neg =>
    have hok' : outOk o = false := by simpa using hok
    have HH := hid (show cornOf o = -1 by simp [cornOf, hok'])
    clear hok
    go_enter Tryd.func25, Tryd.ntmps25
    go_wp2_with fail
    refine HV.out.mono ?_
    rintro e w1 ⟨p, rfl, hb1, _⟩
    go_wp2
    go_ret
    exact ⟨ret_int HH.out.symm, hb1⟩
  case pos =>
    obtain ⟨hl, h8⟩ := outOk_yes hok
    have HK := hid (linked_ok hl)
    have HH := hid (show cornOf o = 0 + cornP (o.map penN) by rw [cornP_pens (linked_ok hl)]; simp [cornOf, hok])
    clear hl
    go_enter Tryd.func25, Tryd.ntmps25
    go_wp2_with fail
    refine HV.out.mono ?_
    rintro e w1 ⟨p, rfl, hb1, hC⟩
    have hC1 := hid (hC hok)
    have HB := hid (show ∀ x ∈ o.map penN, 0 ≤ x ∧ x ≤ 23 from fun x hx => by
      obtain ⟨y, hy, rfl⟩ := List.mem_map.1 hx
      exact penN_bd (HK.out y hy))
    clear hC
    go_wp2
    clear hok
    go_loopg [5, 6] (o.map penN).length (fun gk t q wr => ∃ (l : List Int) (m : Int) (hi : Nat) (a : Option Addr), gk = l.length ∧ q = .pointer a ∧ t = .int .i64 m ∧ Chain w.heap.size wr hi a l ∧ hi ≤ w1.heap.size ∧ (∀ x ∈ l, 0 ≤ x ∧ x ≤ 23) ∧ 0 ≤ m ∧ m + 8 * l.length ≤ 64 ∧ cornOf o = m + cornP l ∧ Below w1.heap.size w1 wr)
    case atStart => exact ⟨_, 0, _, _, rfl, rfl, rfl, hC1.out, Nat.le_refl _, HB.out, by omega, by rw [List.length_map]; omega, HH.out, Below.refl _ _⟩
    case round =>
      obtain ⟨l, m, hi, a, hgk, rfl, rfl, hC, hhi, hxb, hm0, hm1, hr, hbr⟩ := hrel
      have HR := hid hr; clear hr
      have HGK := hid hgk; clear hgk
      match l with
      | [] =>
        obtain rfl : a = none := hC
        clear hxb
        go_wp2
        go_ret
        exact ⟨ret_int (by rw [HR.out]; simp [cornP]), hb1.trans (hbr.mono hb1.size)⟩
      | [x] =>
        obtain ⟨g, q', rfl, g1, g2, c0, c1, hC3⟩ := hC
        obtain rfl : q' = none := hC3
        clear hxb
        go_wp2
        go_ret
        exact ⟨ret_int (by rw [HR.out]; simp [cornP]), hb1.trans (hbr.mono hb1.size)⟩
      | x :: y :: r =>
        have hCC := hC
        obtain ⟨g, q', rfl, g1, g2, c0, c1, hC3⟩ := hC
        have HC3 := hid hC3
        obtain ⟨h, q2, rfl, h1, h2, d0, d1, hC4⟩ := hC3
        obtain ⟨x1, x2⟩ := hxb x (List.mem_cons_self ..)
        obtain ⟨y1, y2⟩ := hxb y (List.mem_cons_of_mem _ (List.mem_cons_self ..))
        have HX := hid (show ∀ z ∈ y :: r, 0 ≤ z ∧ z ≤ 23 from fun z hz => hxb z (List.mem_cons_of_mem _ hz))
        have hln : (x :: y :: r).length = r.length + 2 := rfl
        rw [hln] at hm1
        have cb := cornerN_bd x y
        have hw1 : IntKind.i64.wrap (m + cornerN x y) = m + cornerN x y := IntWalk.i64_in _ (by omega)
        clear hCC hC4 hxb hln
        go_wp2_with fail
        go_quiet ((go_at_call 51; exact Calls.quiet_of_same ((corner_any x y x1 x2 y1 y2 _).mono fun e w' h => ⟨h.1, h.2.symm⟩)))
        go_wp2
        go_roundg (y :: r).length
        case measure => have := HGK.out; simp at this ⊢; omega
        case rel => exact ⟨y :: r, _, _, _, rfl, rfl, rfl, HC3.out.below (below_drewN (Below.refl wr.heap.size wr) _) (by have := hbr.size; omega), by omega, HX.out, by omega, by simp only [List.length_cons]; omega, by rw [HR.out, cornP]; omega, below_drewN hbr _⟩
set_option maxHeartbeats 400000 in
theorem sameStrokes_any (A A' : Option Addr) (n n' c c' lo lo' : Nat) (xs ys : List (Int × Int)) (w : World) (hx : Rd strokeS lo w.heap.size w A n xs) (hy : Rd strokeS lo' w.heap.size w A' n' ys) :
    Calls Tryd.prog 23 #[.slice A n c, .slice A' n' c'] w fun e w' => e = .returned (.bool (eqD xs ys)) ∧ Below w.heap.size w w' := by
  obtain ⟨e1, e2, e3⟩ := hx
  have E1 := hid e1; clear e1
  have E3 := hid e3; clear e3
  obtain ⟨f1, f2, f3⟩ := hy
  have F1 := hid f1; clear f1
  have F3 := hid f3; clear f3
  by_cases hne : n = n'
  · have h1 : ((n : Int) != (n' : Int)) = false := by simp [hne]
    have HE := hid hne; clear hne
    go_enter Tryd.func23, Tryd.ntmps23
    go_wp2
    go_loopg [5] n (fun gk i wr => ∃ k : Nat, k + gk = n ∧ i = .int .i64 k ∧ eqD xs ys = eqD (xs.drop k) (ys.drop k) ∧ Below w.heap.size w wr)
    case atStart => exact ⟨0, Nat.zero_add _, rfl, by simp, Below.refl _ _⟩
    case round =>
      obtain ⟨k, hkg, rfl, htk, hb⟩ := hrel
      have hk : k ≤ n := by omega
      have HKG := hid hkg; clear hkg
      have HT := hid htk; clear htk
      by_cases hlt : k < n
      · have hlt' : k < n' := by have := HE.out; omega
        obtain ⟨b, off, rfl, _, hbb, hcx⟩ := E3.out (by omega)
        obtain ⟨b', off', rfl, _, hbb', hcy⟩ := F3.out (by omega)
        have hki : (k : Int) < (n : Int) := by omega
        have hki' : (k : Int) < (n' : Int) := by omega
        have cx0 := bcl hb (hcx.stroke hlt).1
        have cx1 := bcl hb (hcx.stroke hlt).2
        have cy0 := bcl hb (hcy.stroke hlt').1
        have cy1 := bcl hb (hcy.stroke hlt').2
        have hD := hid (And.intro (drop_gt (l := xs) (by rw [← E1.out]; exact hlt)) (drop_gt (l := ys) (by rw [← F1.out]; exact hlt')))
        clear hcx hcy
        obtain ⟨p, hp⟩ : ∃ p, gt xs k = p := ⟨_, rfl⟩
        obtain ⟨q, hq⟩ : ∃ p, gt ys k = p := ⟨_, rfl⟩
        rw [hp] at cx0 cx1
        rw [hq] at cy0 cy1
        have HPQ := hid (And.intro hp hq)
        clear hp hq
        by_cases e1 : p.1 = q.1
        case neg =>
          have t1 : (p.1 == q.1) = false := by simpa using e1
          have HF := hid (show eqD xs ys = false by
            rw [HT.out, hD.out.1, hD.out.2, eqD_cons, HPQ.out.1, HPQ.out.2, eqD_no (fun e => e1 (by rw [e]))]; rfl)
          clear e1
          go_wp2_with fail
          go_quiet (fail)
          go_wp2
          go_ret
          exact ⟨ret_bool HF.out.symm, below_drewN hb _⟩
        case pos =>
          have t1 : (p.1 == q.1) = true := by simpa using e1
          by_cases e2 : p.2 = q.2
          case neg =>
            have t2 : (p.2 == q.2) = false := by simpa using e2
            have HF := hid (show eqD xs ys = false by
              rw [HT.out, hD.out.1, hD.out.2, eqD_cons, HPQ.out.1, HPQ.out.2, eqD_no (fun e => e2 (by rw [e]))]; rfl)
            clear e1 e2
            go_wp2_with fail
            go_quiet (fail)
            go_wp2
            go_ret
            exact ⟨ret_bool HF.out.symm, below_drewN hb _⟩
          case pos =>
            have t2 : (p.2 == q.2) = true := by simpa using e2
            have HF := hid (show eqD xs ys = eqD (xs.drop (k + 1)) (ys.drop (k + 1)) by
              rw [HT.out, hD.out.1, hD.out.2, eqD_cons, HPQ.out.1, HPQ.out.2, show p = q from Prod.ext e1 e2, eqD_self, Bool.true_and])
            clear e1 e2
            go_wp2_with fail
            go_quiet (fail)
            go_wp2
            go_roundg (gk - 1)
            case measure => have := HKG.out; omega
            case rel => exact ⟨k + 1, by have := HKG.out; omega, by go_num, HF.out, below_drewN hb _⟩
      · obtain rfl : k = n := by omega
        go_wp2
        go_ret
        exact ⟨ret_bool (by rw [HT.out, List.drop_eq_nil_of_le (by rw [E1.out]; omega), List.drop_eq_nil_of_le (by rw [← F1.out, ← HE.out]; omega)]; rfl), hb⟩
  · have h1 : ((n : Int) != (n' : Int)) = true := by simp; omega
    have hxy : xs ≠ ys := fun h => hne (by rw [E1.out, F1.out, h])
    have HN := hid hne; clear hne
    have HXY := hid hxy; clear hxy
    go_enter Tryd.func23, Tryd.ntmps23
    go_wp2
    go_ret
    exact ⟨ret_bool (by rw [eqD_no HXY.out]), Below.refl _ _⟩
end Go.Proofs.YtigemahbopligaaDoor
