/- What the program's CopyRead returns. -/
import Derived.Test.YthijnojefeeaoaaCopy4
import Derived.Test.YthijnojefeeaoaaCopyPure
import Derived.Test.YthijnojefeeaoaaAppS
namespace Go.Proofs.Ythijnojefeeaoaa
open Go.RowKit Go.Shelf
attribute [local go_sem] Oper.semAt_some
theorem wpList_append_strs {P : Program} {ops : Array Oper} {rest : List Oper} {o : Oper} {a : Act} {w : World} {Q : Exit → Act → World → Prop} (hgd : o.guard = none) (s x : Operand) (t : TypeId)
    (ho : o.op = .call { callee := .builtin .append, args := #[s, x], argTypes := #[t, t] })
    {base : Nat} {e : TypeId} {i : TypeInfo} {z : Value} (ht : P.underlying t = some (.slice e)) (hi : P.info? e = some i ∧ i.zero = some z ∧ i.size = 1 ∧ i.bytes = 16) (hzs : z.cells.size = 1)
    {v : Value} {l : List ByteArray} (hs : a.eval s = v) (hown : OwnR strS base w e v l)
    {A : Option Addr} {m c : Nat} {ys : List ByteArray} (hx : a.eval x = .slice A m c) (hm : ys.length = m) (hy : Rd strS 0 w.heap.size w A m ys)
    (hbytes : (l.length + m) * 16 ≤ 140737488355328) (hbase : base ≤ w.heap.size)
    (h : ∀ A' c' w', OwnR strS base w' e (.slice A' (l.length + m) c') (l ++ ys) → Chg (fun k => v.ownBlock = some k) w w' → ((Value.slice A' (l.length + m) c').ownBlock = v.ownBlock ∨ (Value.slice A' (l.length + m) c').ownBlock = some w.heap.size) → wpList P ops Q rest (a.put o.dst (.slice A' (l.length + m) c')) w') :
    wpList P ops Q (o :: rest) a w :=
  wpList_plain hgd fun _ hK => wp_append_strs s x t ho ht hi hzs hs hown hx hm hy hbytes hbase fun A' c' w' h1 h2 h3 => hK _ _ (h A' c' w' h1 h2 h3)
theorem idx_find (t : ByteArray) : ∀ (bs : List BriefT) (i : Nat), (∃ j, j < bs.length ∧ idxF (fun b : BriefT => eqD b.1 t) bs (i : Int) = ((i + j : Nat) : Int) ∧ (bs.find? fun b => eqD b.1 t) = some (gt bs j)) ∨ (idxF (fun b : BriefT => eqD b.1 t) bs (i : Int) = -1 ∧ (bs.find? fun b => eqD b.1 t) = none)
  | [], _ => .inr ⟨rfl, rfl⟩
  | b :: r, i => by
    rw [idxF, List.find?_cons]
    by_cases h : eqD b.1 t = true
    · rw [if_pos h, h]
      exact .inl ⟨0, by simp, by simp, by simp [gt]⟩
    · rw [Bool.not_eq_true] at h
      rw [h, if_neg (by simp)]
      rcases idx_find t r (i + 1) with ⟨j, h1, h2, h3⟩ | ⟨h2, h3⟩
      · refine .inl ⟨j + 1, by simp; omega, ?_, ?_⟩
        · have : ((i : Int) + 1) = ((i + 1 : Nat) : Int) := by omega
          rw [this, h2]
          congr 1
          omega
        · rw [h3]; simp [gt]
      · refine .inr ⟨?_, h3⟩
        have : ((i : Int) + 1) = ((i + 1 : Nat) : Int) := by omega
        rw [this, h2]
theorem RetSB.of {w w' : World} {V : Option (List ByteArray)} {l : List ByteArray} {ok : Bool} {A : Option Addr} {n c : Nat} (h1 : V.getD [] = l) (h2 : V.isSome = ok) (hn : n = l.length) (hO : OwnR strS w.heap.size w' 9 (.slice A n c) l) (hb : Below w.heap.size w w') : RetSB w V (.returned (.tuple #[.slice A n c, .bool ok])) w' := by
  subst h1 h2 hn
  exact ⟨A, c, rfl, hO, hb⟩
set_option maxRecDepth 100000 in
set_option maxHeartbeats 1000000 in
theorem CopyRead1_any (pb : Nat) (A : Option Addr) (n c : Nat) (s t : ByteArray) (w : World) (hp : w.heap[pb]? = some (.cells #[.string t] 9 (0, 0))) :
    Calls Try.prog 78 #[.agg #[.string s, .slice A n c], .pointer (some ⟨pb, 0, none⟩)] w fun e w' => e = .returned (.bool (eqD s t)) ∧ Below w.heap.size w w' := by
  have hpl := (Array.getElem?_eq_some_iff.1 hp).1
  have hc1 := ((bnew w (.cells #[.string s, .slice A n c] 31)).block pb hpl).trans hp
  have x0 : (w.alloc (.cells #[.string s, .slice A n c] 31)).cell? ⟨pb, 0, none⟩ = some (.string t) := by rw [cell_of_row _ _ _ _ _ (0, 0) hc1]; rfl
  have HB := hid (bnew w)
  clear hp hc1
  by_cases h : s = t
  · have h1 : (s.toList == t.toList) = true := by rw [h]; exact str_eq _
    have HH := hid h; clear h
    go_enter Try.func78, Try.ntmps78
    go_wp2_with fail
    go_ret
    exact ⟨ret_bool (by rw [HH.out, eqD_self]), HB.out _⟩
  · have h1 : (s.toList == t.toList) = false := str_ne h
    have HH := hid h; clear h
    go_enter Try.func78, Try.ntmps78
    go_wp2_with fail
    go_ret
    exact ⟨ret_bool (by rw [eqD_no HH.out]), HB.out _⟩
set_option maxRecDepth 100000 in
set_option maxHeartbeats 1000000 in
theorem implCopyRead_any (A B : Option Addr) (n c m d : Nat) (bs : List BriefT) (ts : List ByteArray) (w : World) (hnc : n ≤ c) (hx : Rd briefS 0 w.heap.size w A n bs) (hy : Rd strS 0 w.heap.size w B m ts) :
    Calls Try.prog 48 #[.slice A n c, .slice B m d] w (RetSB w (readV bs ts)) := by
  have hmf : ∀ (fn : Fn) (first cap : Array Value) (w : World), (Instr.makeFunc fn first cap).run Try.prog w = .ok (.func fn first cap) w := fun _ _ _ _ => rfl
  obtain ⟨i0, hi1, hz0, hz1, hz2⟩ := info_parts (show (Try.prog.info? 9).map (fun i => (i.zero, i.size, i.bytes)) = some (some (.string ByteArray.empty), 1, 16) by kernel_rfl)
  have HI := hid (And.intro hi1 (And.intro hz0 (And.intro hz1 hz2)))
  clear hi1 hz0 hz1 hz2
  have hm63 := hy.2.1
  have HX := hid hx
  have HY := hid hy
  clear hx hy
  by_cases hbo : briefsOk bs = true
  case neg =>
    have hv : readV bs ts = none := by unfold readV; rw [if_neg hbo]
    rw [hv]
    rw [Bool.not_eq_true] at hbo
    have hbv := implBriefsValid_any A n c 0 bs w hnc HX.out
    rw [hbo] at hbv
    have HBV := hid hbv
    clear hbv hbo hv
    go_enter Try.func48, Try.ntmps48
    go_wp2_with fail
    refine HBV.out.mono ?_
    rintro e w1 ⟨rfl, hb1⟩
    go_wp2_with fail
    go_ret2
    exact ⟨none, 0, rfl, OwnR.nil0, hb1⟩
  case pos =>
    have hbv := implBriefsValid_any A n c 0 bs w hnc HX.out
    rw [hbo] at hbv
    have HBV := hid hbv
    have HV := hid (show readV bs ts = readG bs [] ts by unfold readV; rw [if_pos hbo])
    have HWD := hid (briefs_wd hbo)
    clear hbv hbo
    go_enter Try.func48, Try.ntmps48
    go_wp2_with fail
    refine HBV.out.mono ?_
    rintro e w1 ⟨rfl, hb1⟩
    have hw1 := hb1.size
    have O0 := hid (OwnR.nil (S := strS) (e := 9) (base := w.heap.size) (w := w1) hw1 #[] rfl)
    have HB0 := hid (btr hb1 (bnew w1 (.cells #[] 9)))
    clear hb1 HBV
    go_wp2_with fail
    go_loopg [6, 8, 9, 16] m (fun gk l6 l8 l9 i wr => ∃ (k : Nat) (A6 : Option Addr) (c6 : Nat) (acc : List ByteArray), k + gk = m ∧ i = .int .i64 k ∧ l6 = .slice A6 acc.length c6 ∧ OwnR strS w.heap.size wr 9 (.slice A6 acc.length c6) acc ∧ acc.length ≤ 20 ∧ readV bs ts = readG bs acc (ts.drop k) ∧ Below w.heap.size w wr)
    case atStart => exact ⟨0, _, _, [], Nat.zero_add _, rfl, rfl, O0.out, Nat.zero_le _, HV.out, HB0.out⟩
    case round =>
      clear O0 HB0 HV
      obtain ⟨k, A6, c6, acc, hkg, rfl, rfl, hO, ha20, hv, hb⟩ := hrel
      have HKG := hid hkg
      have HO := hid hO
      have HV := hid hv
      have HB := hid hb
      have hk : k ≤ m := by omega
      have hwz := hb.size
      clear hkg hO hv hb
      by_cases hlt : k < m
      case neg =>
        obtain rfl : k = m := by omega
        have hv : readV bs ts = some acc := by
          rw [HV.out, List.drop_eq_nil_of_le (by rw [← HY.out.1]; exact Nat.le_refl _), readG]
        have HVS := hid hv
        clear hv
        go_wp2_with fail
        go_ret2
        exact RetSB.of (by rw [HVS.out]; rfl) (by rw [HVS.out]; rfl) rfl HO.out HB.out
      case pos =>
        have hki : (k : Int) < (m : Int) := by omega
        have hkt : k < ts.length := by rw [← HY.out.1]; exact hlt
        obtain ⟨bB, oB, rfl, _, hbB, hcB⟩ := HY.out.2.2 (by omega)
        have y0 := bcl HB.out (hcB.str hlt).1
        have hts := (hcB.str hlt).2
        have hv := HV.out
        rw [drop_gt hkt, readG] at hv
        obtain ⟨t, ht⟩ : ∃ t, gt ts k = t := ⟨_, rfl⟩
        rw [ht] at hv y0 hts
        have HV2 := hid hv
        have hba := bnew wr (.cells #[.string t] 9)
        have hna := heap_alloc_new wr (.cells #[.string t] 9)
        have hcon := indexBrief_any 78 #[.pointer (some ⟨wr.heap.size, 0, none⟩)] (enters_of Try.func78 (by kernel_rfl) rfl) (fun a => eqD a.1 t) A n c 0 bs _ ((HX.out.bl HB.out).bl hba) (fun W s A2 n2 c2 xs hW hs hxs => CopyRead1_any wr.heap.size _ _ _ _ _ W ((hW.block wr.heap.size (by rw [World.size_alloc]; omega)).trans hna))
        have HCON := hid hcon
        have HBA := hid hba
        have HNA := hid hna
        clear hv hcB ht HV hba hna hcon
        rcases idx_find t bs 0 with ⟨j, hj, hidx, hf⟩ | ⟨hidx, hf⟩
        · rw [show ((0 : Nat) : Int) = 0 from rfl, Nat.zero_add] at hidx
          rw [hidx] at HCON
          have hv := HV2.out
          rw [show pieceOf bs t = some (gt bs j).2 by unfold pieceOf; rw [hf]] at hv
          dsimp only at hv
          have hjn : j < n := by rw [HX.out.1]; exact hj
          have hji : (j : Int) < (n : Int) := by omega
          have hj0 : (0 : Int) ≤ (j : Int) := by omega
          obtain ⟨e1, e2⟩ := HWD.out _ (gt_mem hj)
          obtain ⟨bA, oA, rfl, _, hbA, hcA⟩ := HX.out.2.2 (by omega)
          obtain ⟨A1, c1, _, x1, _, _, x4⟩ := hcA.brief hjn
          obtain ⟨B2, hB2⟩ : ∃ B2, (gt bs j).2 = B2 := ⟨_, rfl⟩
          rw [hB2] at x1 x4 hv e1 e2
          obtain ⟨u, hu⟩ : ∃ u, B2.length = u := ⟨_, rfl⟩
          rw [hu] at x1 x4 e1 e2
          have HU := hid hu
          have HV3 := hid hv
          have HX1 := hid x1
          have HX4 := hid x4
          clear hcA x1 x4 hB2 hu hv HV2 hidx hf
          go_wp2_with fail
          refine HCON.out.mono ?_
          rintro e w2 ⟨rfl, hb2⟩
          have hb3 := btr HBA.out hb2
          have x1 := bcl (btr HB.out hb3) HX1.out
          have hz2 := hb3.size
          have HB3 := hid (btr HB.out hb3)
          have HO2 := hid (HO.out.bl hb3)
          have X4 := hid (HX4.out.bl (btr HB.out hb3))
          clear hb2 hb3 HCON HX1
          by_cases h20 : acc.length + u ≤ 20
          case pos =>
            have h20i : ¬ (20 : Int) < (acc.length : Int) + (u : Int) := by omega
            have h20n : ¬ (20 : Int) < ((acc.length + u : Nat) : Int) := by omega
            have hv := HV3.out
            rw [if_pos (by rw [List.length_append, HU.out]; exact h20)] at hv
            have HV4 := hid hv
            clear hv HV3
            go_wp2_with (at_builtin; go_loud (refine wpList_append_strs rfl (.tmp 26) (.tmp 31) _ rfl Try.underlying24 HI.out rfl rfl HO2.out rfl HU.out X4.out (by omega) (by omega) ?_; intro A7 c7 w5 hO5 hc5 hv5))
            have hb5 : Below w.heap.size w2 w5 := ⟨hc5.os, hc5.tape, hc5.output, hc5.size, fun i hi => hc5.block i (by omega) (fun e => by have := (HO2.out.own_lt e).1; omega)⟩
            go_roundg (gk - 1)
            case measure => have := HKG.out; omega
            case rel => exact ⟨k + 1, A7, c7, acc ++ B2, by have := HKG.out; omega, by go_num, by rw [List.length_append, HU.out], by rw [List.length_append, HU.out]; exact hO5, by rw [List.length_append, HU.out]; exact h20, HV4.out, HB3.out.trans hb5⟩
          case neg =>
            have h20i : (20 : Int) < (acc.length : Int) + (u : Int) := by omega
            have h20n : (20 : Int) < ((acc.length + u : Nat) : Int) := by omega
            have hv := HV3.out
            rw [if_neg (by rw [List.length_append, HU.out]; exact h20)] at hv
            have HV4 := hid hv
            clear hv HV3
            go_wp2_with (at_builtin; go_loud (refine wpList_append_strs rfl (.tmp 26) (.tmp 31) _ rfl Try.underlying24 HI.out rfl rfl HO2.out rfl HU.out X4.out (by omega) (by omega) ?_; intro A7 c7 w5 hO5 hc5 hv5))
            have hb5 : Below w.heap.size w2 w5 := ⟨hc5.os, hc5.tape, hc5.output, hc5.size, fun i hi => hc5.block i (by omega) (fun e => by have := (HO2.out.own_lt e).1; omega)⟩
            go_ret2
            exact RetSB.of (l := []) (by rw [HV4.out]; rfl) (by rw [HV4.out]; rfl) rfl OwnR.nil0 (HB3.out.trans hb5)
        · rw [show ((0 : Nat) : Int) = 0 from rfl] at hidx
          rw [hidx] at HCON
          have hv := HV2.out
          by_cases hwk : wordOk t = true
          case neg =>
            rw [show pieceOf bs t = none by unfold pieceOf; rw [hf]; exact if_neg hwk] at hv
            dsimp only at hv
            rw [Bool.not_eq_true] at hwk
            have HWK := hid hwk
            have HV3 := hid hv
            clear hv HV2 hidx hf hwk
            go_wp2_with fail
            refine HCON.out.mono ?_
            rintro e w2 ⟨rfl, hb2⟩
            have z0 : w2.cell? ⟨wr.heap.size, 0, none⟩ = some (.string t) := by rw [cell_of_row w2 _ _ _ _ (0, 0) ((hb2.block wr.heap.size (by rw [World.size_alloc]; omega)).trans HNA.out)]; rfl
            have hb3 := btr HBA.out hb2
            have hz2 := hb3.size
            have HB3 := hid (btr HB.out hb3)
            have HO2 := hid (HO.out.bl hb3)
            have hwv := implWordValid_any t w2 hts
            rw [HWK.out] at hwv
            have HWV := hid hwv
            clear hb2 hb3 HCON hwv
            go_wp2_with fail
            refine HWV.out.mono ?_
            rintro e w3 ⟨rfl, rfl⟩
            go_wp2_with fail
            go_ret2
            exact RetSB.of (l := []) (by rw [HV3.out]; rfl) (by rw [HV3.out]; rfl) rfl OwnR.nil0 HB3.out
          case pos =>
            rw [show pieceOf bs t = some [t] by unfold pieceOf; rw [hf]; exact if_pos hwk] at hv
            dsimp only at hv
            have HWK := hid hwk
            have HV3 := hid hv
            clear hv HV2 hidx hf hwk
            go_wp2_with fail
            refine HCON.out.mono ?_
            rintro e w2 ⟨rfl, hb2⟩
            have z0 : w2.cell? ⟨wr.heap.size, 0, none⟩ = some (.string t) := by rw [cell_of_row w2 _ _ _ _ (0, 0) ((hb2.block wr.heap.size (by rw [World.size_alloc]; omega)).trans HNA.out)]; rfl
            have hb3 := btr HBA.out hb2
            have hz2 := hb3.size
            have HB3 := hid (btr HB.out hb3)
            have HO2 := hid (HO.out.bl hb3)
            have hwv := implWordValid_any t w2 hts
            rw [HWK.out] at hwv
            have HWV := hid hwv
            clear hb2 hb3 HCON hwv
            go_wp2_with fail
            refine HWV.out.mono ?_
            rintro e w3 ⟨rfl, rfl⟩
            by_cases h20 : acc.length + 1 ≤ 20
            case pos =>
              have h20i : ¬ (20 : Int) < (acc.length : Int) + 1 := by omega
              have hv := HV3.out
              rw [if_pos (by rw [List.length_append]; exact h20)] at hv
              have HV4 := hid hv
              clear hv HV3
              go_wp2_with (at_builtin; go_loud (refine wpList_append_R2 rfl (.tmp 36) (.tmp 38) _ rfl strS Try.underlying24 HI.out rfl (by decide) rfl (HO2.out.al _) (y := t) rfl (heap_alloc_new _ _) rfl (by simp [Value.oneCell']) ⟨rfl, hts⟩ (by omega) (by omega) (by simp; omega) ?_; intro A7 c7 w5 hO5 hc5 hv5))
              have hb5 : Below w.heap.size (w2.alloc (.cells #[.string t] 9)) w5 := ⟨hc5.os, hc5.tape, hc5.output, hc5.size, fun i hi => hc5.block i (by rw [World.size_alloc]; omega) (fun e => by have := (HO2.out.own_lt e).1; omega)⟩
              have hb6 := ((bnew w2 (.cells #[.string t] 9)).mono (B' := w.heap.size) (by omega)).trans hb5
              go_roundg (gk - 1)
              case measure => have := HKG.out; omega
              case rel => exact ⟨k + 1, A7, c7, acc ++ [t], by have := HKG.out; omega, by go_num, by rw [List.length_append]; rfl, by rw [List.length_append]; exact hO5, by rw [List.length_append]; exact h20, HV4.out, HB3.out.trans hb6⟩
            case neg =>
              have h20i : (20 : Int) < (acc.length : Int) + 1 := by omega
              have hv := HV3.out
              rw [if_neg (by rw [List.length_append]; exact h20)] at hv
              have HV4 := hid hv
              clear hv HV3
              go_wp2_with (at_builtin; go_loud (refine wpList_append_R2 rfl (.tmp 36) (.tmp 38) _ rfl strS Try.underlying24 HI.out rfl (by decide) rfl (HO2.out.al _) (y := t) rfl (heap_alloc_new _ _) rfl (by simp [Value.oneCell']) ⟨rfl, hts⟩ (by omega) (by omega) (by simp; omega) ?_; intro A7 c7 w5 hO5 hc5 hv5))
              have hb5 : Below w.heap.size (w2.alloc (.cells #[.string t] 9)) w5 := ⟨hc5.os, hc5.tape, hc5.output, hc5.size, fun i hi => hc5.block i (by rw [World.size_alloc]; omega) (fun e => by have := (HO2.out.own_lt e).1; omega)⟩
              have hb6 := ((bnew w2 (.cells #[.string t] 9)).mono (B' := w.heap.size) (by omega)).trans hb5
              go_ret2
              exact RetSB.of (l := []) (by rw [HV4.out]; rfl) (by rw [HV4.out]; rfl) rfl OwnR.nil0 (HB3.out.trans hb6)
end Go.Proofs.Ythijnojefeeaoaa
