/- Written words as they are drawn. -/
import Derived.Test.YtigemahbopligaaDrawX
import Derived.Test.YtigemahbopligaaWordPos
import Derived.Test.YtigemahbopligaaLine
import Derived.Test.YtigemahbopligaaDictS
namespace Go.Proofs.Ytigemahbopligaa
open Go.RowKit
attribute [local go_sem] Oper.semAt_some
def RetWN (w : World) (e : Ending) (w' : World) : Prop :=
  ∃ B cc q o ok, e = .returned (.tuple #[.agg #[.slice B (List.length o) cc, .int .i64 q], .bool ok]) ∧ List.length o ≤ cc ∧ List.length o ≤ 8 ∧ OwnR strokeS w.heap.size w' 64 (.slice B (List.length o) cc) o ∧ Below w.heap.size w w'
set_option maxHeartbeats 1000000 in
theorem specWrittenOf_any (A : Option Addr) (n c lo : Nat) (l : List SignT) (s : ByteArray) (w : World) (hx : Rd signS lo w.heap.size w A n l) (hs : s.size ≤ 9223372036854775807) :
    Calls Try.prog 99 #[.slice A n c, .string s] w (RetWN w) := by
  have hb1 := bnew w (.cells #[.slice none 0 0, .int .i64 0] 51)
  have hn1 := heap_alloc_new w (.cells #[.slice none 0 0, .int .i64 0] 51)
  have hz1 := World.size_alloc w (.cells #[.slice none 0 0, .int .i64 0] 51)
  obtain ⟨w1, hw1⟩ : ∃ w1, w.alloc (.cells #[.slice none 0 0, .int .i64 0] 51) = w1 := ⟨_, rfl⟩
  rw [hw1] at hb1 hn1 hz1
  have HW1 := hid hw1
  have HB1 := hid hb1
  have HN1 := hid hn1
  have hzl : w.heap.size < w1.heap.size := by omega
  have HWO := hid (specWordOutline_any A n c lo l s w1 (hx.bl hb1) hs)
  obtain ⟨o, ho⟩ : ∃ o, outW l s = o := ⟨_, rfl⟩
  rw [ho] at HWO
  have hol := outW_len ho
  clear hx hb1 hn1 hw1 hz1 ho
  go_enter Try.func99, Try.ntmps99
  go_wp2_with fail
  rw [HW1.out]
  refine HWO.out.mono ?_
  intro e w2 hres
  unfold RetO at hres
  obtain ⟨B, m, cc, rfl, hm, hO, hb2⟩ := hres
  have HB2 := hid hb2
  have hz2 := hb2.size
  obtain ⟨c0, c1, f0, f1⟩ := at_get ((hb2.block w.heap.size hzl).trans HN1.out)
  cases o with
  | none =>
    clear hm hO hb2
    go_wp2_with fail
    refine bodyPost_ret (v := .tuple #[.agg #[.slice none 0 0, .int .i64 0], .bool false]) (by simp [results, Try.results99, go_sem, c0, c1]) rfl ⟨none, 0, 0, [], false, rfl, by simp, by simp, OwnR.nil0, ?_⟩
    exact bsc (bsc (HB1.out.trans (HB2.out.mono HB1.out.size)) (Nat.le_refl _) _) (Nat.le_refl _) _
  | some o =>
    have hm' : m = o.length := hm
    have hO' : OwnR strokeS w1.heap.size w2 64 (.slice B m cc) o := hO
    subst hm'
    have hcc := own_cap2 hO'
    have HO := hid hO'
    have HWP := hid (specWordPosition_any s w2 hs)
    clear hm hO hO' hb2
    go_wp2_with fail
    refine HWP.out.mono ?_
    intro e w3 hres
    obtain ⟨q, rfl, _, _, hb3⟩ := hres
    have HB3 := hid hb3
    have HO3 := hid (HO.out.bl hb3)
    obtain ⟨d0, d1, g0, g1⟩ := at_get ((hb3.block w.heap.size (by omega)).trans ((HB2.out.block w.heap.size hzl).trans HN1.out))
    clear hb3 c0 c1 f0 f1
    go_wp2_with fail
    refine bodyPost_ret (v := .tuple #[.agg #[.slice B o.length cc, .int .i64 q], .bool true]) (by simp [results, Try.results99, go_sem, d0, d1]) rfl ⟨B, cc, q, o, true, rfl, hcc, show o.length ≤ 8 from hol, ?_, ?_⟩
    · exact (HO3.out.chg (((Chg.refl (fun k => k = w.heap.size) w3).set rfl _).set rfl _) (fun k hk => by omega)).low (by omega)
    · exact bsc (bsc (HB1.out.trans ((HB2.out.trans (HB3.out.mono hz2)).mono HB1.out.size)) (Nat.le_refl _) _) (Nat.le_refl _) _
def RetDW (m : Nat) (w : World) (e : Ending) (w' : World) : Prop :=
  ∃ A c l, e = .returned (.slice A (List.length l) c) ∧ List.length l ≤ m ∧ (∀ x ∈ l, 0 ≤ x ∧ x < (m : Int)) ∧ OwnR intS w.heap.size w' 3 (.slice A (List.length l) c) l ∧ Below w.heap.size w w'
set_option maxHeartbeats 2000000 in
theorem specDictionaryWritten_any (A B : Option Addr) (n c m d lo lo' : Nat) (sys : List SignT) (ws : List ByteArray) (w : World) (hx : Rd signS lo w.heap.size w A n sys) (hy : Rd strS lo' w.heap.size w B m ws) (hm : m ≤ 1000) :
    Calls Try.prog 97 #[.slice A n c, .slice B m d] w (RetDW m w) := by
  obtain ⟨i0, hi1, hz0, hz1, hz2⟩ := info_parts (show (Try.prog.info? 3).map (fun i => (i.zero, i.size, i.bytes)) = some (some (.int .i64 0), 1, 8) by kernel_rfl)
  have HI := hid (And.intro hi1 (And.intro hz0 (And.intro hz1 hz2)))
  clear hi1 hz0 hz1 hz2
  have HX := hid hx
  have HY := hid hy
  have F1 := hid hy.1
  clear hx hy
  have ON := hid (show OwnR intS w.heap.size (w.alloc (.cells #[] 3)) 3 (.slice (some ⟨w.heap.size, 0, none⟩) 0 0) [] from OwnR.nil (Nat.le_refl _) #[] rfl)
  have BN := hid (bnew w (.cells #[] 3))
  go_enter Try.func97, Try.ntmps97
  go_wp2_with fail
  go_loopg [5, 6, 7, 8] m (fun gk v i _ _ wr => ∃ (k : Nat) (A5 : Option Addr) (c5 : Nat) (acc : List Int), k + gk = m ∧ i = .int .i64 k ∧ v = .slice A5 acc.length c5 ∧ OwnR intS w.heap.size wr 3 (.slice A5 acc.length c5) acc ∧ acc.length ≤ k ∧ (∀ x ∈ acc, 0 ≤ x ∧ x < (m : Int)) ∧ Below w.heap.size w wr)
  case atStart => exact ⟨0, _, _, [], Nat.zero_add _, rfl, rfl, ON.out, Nat.le_refl _, fun x hx => (by cases hx), BN.out⟩
  case round =>
    clear ON BN
    obtain ⟨k, A5, c5, acc, hkg, rfl, rfl, hO, hal, hax, hb⟩ := hrel
    have HKG := hid hkg
    have HO := hid hO
    have HAX := hid hax
    have HB := hid hb
    have hk : k ≤ m := by omega
    have hbz := hb.size
    clear hkg hO hb hax
    by_cases hlt : k < m
    case neg =>
      obtain rfl : k = m := by omega
      have hni : ¬ (k : Int) < (k : Int) := by omega
      go_wp2_with fail
      go_ret
      exact ⟨A5, c5, acc, rfl, hal, HAX.out, HO.out, HB.out⟩
    case pos =>
      have hlti : (k : Int) < (m : Int) := by omega
      have HV := hid (l2Both_any A B n c m d lo lo' sys ws wr (HX.out.bl HB.out) (HY.out.bl HB.out))
      obtain ⟨so, hso⟩ : ∃ so, (sysOk sys && dictOk ws) = so := ⟨_, rfl⟩
      rw [hso] at HV
      clear hso
      obtain ⟨bb, off, hA, _, hbb, hcx⟩ := HY.out.2.2 (by omega)
      subst hA
      obtain ⟨x0, x1⟩ := hcx.str hlt
      have cx0 := bcl HB.out x0
      obtain ⟨s, hs⟩ : ∃ s, gt ws k = s := ⟨_, rfl⟩
      rw [hs] at cx0 x1
      clear hcx x0 hs
      cases so with
      | false =>
        go_wp2_with fail
        refine HV.out.mono ?_
        rintro e w1 ⟨rfl, hb1⟩
        have HO1 := hid (HO.out.bl hb1)
        have HB1 := hid (btr HB.out hb1)
        clear hb1
        go_wp2_with fail
        go_ret
        exact ⟨A5, c5, acc, rfl, by omega, HAX.out, HO1.out, HB1.out⟩
      | true =>
        go_wp2_with fail
        refine HV.out.mono ?_
        rintro e w1 ⟨rfl, hb1⟩
        have HO1 := hid (HO.out.bl hb1)
        have HB1 := hid (btr HB.out hb1)
        have cx1 := bcl hb1 cx0
        clear hb1 HV HO HB cx0
        have HWO := hid (specWordOutline_any A n c lo sys s w1 (HX.out.bl HB1.out) x1)
        obtain ⟨o, ho⟩ : ∃ o, outW sys s = o := ⟨_, rfl⟩
        rw [ho] at HWO
        clear ho
        cases o with
        | none =>
          go_wp2_with fail
          refine HWO.out.mono ?_
          intro e w4 hres
          unfold RetO at hres
          obtain ⟨B4, m4, c4, rfl, _, _, hb4⟩ := hres
          have HO4 := hid (HO1.out.bl hb4)
          have HB4 := hid (btr HB1.out hb4)
          clear hb4
          go_wp2_with fail
          go_roundg (gk - 1)
          case measure => have := HKG.out; omega
          case rel => exact ⟨k + 1, A5, c5, acc, by have := HKG.out; omega, by go_num, rfl, HO4.out, by omega, HAX.out, HB4.out⟩
        | some o =>
          go_wp2_with fail
          refine HWO.out.mono ?_
          intro e w4 hres
          unfold RetO at hres
          obtain ⟨B4, m4, c4, rfl, _, _, hb4⟩ := hres
          have HO4 := hid (HO1.out.bl hb4)
          have HB4 := hid (btr HB1.out hb4)
          have hz4 := HB4.out.size
          clear hb4
          go_wp2_with (at_builtin; go_loud (refine wpList_append_R rfl (.tmp 31) (.tmp 33) _ rfl intS Try.underlying108 HI.out rfl (by decide) (v := .slice A5 acc.length c5) rfl (HO4.out.al _) (y := (k : Int)) (cs := [.int .i64 k]) rfl (heap_alloc_new _ _) rfl (by simp [Value.oneCell']) rfl (by omega) (by omega) (by simp; omega) ?_; intro A6 c6 w6 hO6 hb6))
          have HO6 := hid hO6
          have HB6 := hid (HB4.out.trans (((bnew w4 _).mono hz4).trans hb6))
          clear hO6 hb6
          go_wp2_with fail
          go_roundg (gk - 1)
          case measure => have := HKG.out; omega
          case rel => exact ⟨k + 1, A6, c6, acc ++ [(k : Int)], by have := HKG.out; omega, by go_num, by rw [List.length_append]; rfl, by rw [List.length_append]; exact HO6.out, by rw [List.length_append]; show acc.length + 1 ≤ k + 1; omega, fun x hx => (by rcases List.mem_append.1 hx with h | h; exact HAX.out x h; rw [List.mem_singleton] at h; subst h; omega), HB6.out⟩
end Go.Proofs.Ytigemahbopligaa
