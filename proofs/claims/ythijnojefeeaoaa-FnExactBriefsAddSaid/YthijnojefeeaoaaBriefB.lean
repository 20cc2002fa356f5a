/- Valid briefs, further: what the program's and the reference's BriefsValid return. -/
import Derived.Test.YthijnojefeeaoaaBriefV
import Derived.Test.YthijnojefeeaoaaDigits
import Derived.Shelf.Abstract
namespace Go.Proofs.Ythijnojefeeaoaa
open Go.RowKit Go.Shelf
attribute [local go_sem] Oper.semAt_some
theorem sameB_eq (a b : BriefT) : sameB a b = (eqD a.1 b.1 || eqD a.2 b.2) := rfl
set_option maxRecDepth 100000 in
set_option maxHeartbeats 1000000 in
theorem BriefsValid1_any (pb : Nat) (A A' : Option Addr) (n n' c c' lo lo' : Nat) (s t : ByteArray) (xs ys : List ByteArray) (w : World) (hx : Rd strS lo w.heap.size w A n xs) (hy : Rd strS lo' w.heap.size w A' n' ys)
    (hp : w.heap[pb]? = some (.cells #[.string t, .slice A' n' c'] 31 (0, 0))) :
    Calls Try.prog 91 #[.agg #[.string s, .slice A n c], .pointer (some ⟨pb, 0, none⟩)] w fun e w' => e = .returned (.bool (sameB (s, xs) (t, ys))) ∧ Below w.heap.size w w' := by
  have hpl := (Array.getElem?_eq_some_iff.1 hp).1
  have hc1 := ((bnew w (.cells #[.string s, .slice A n c] 31)).block pb hpl).trans hp
  obtain ⟨x0, x1, x2, x3⟩ := at_get hc1
  have HX := hid (fun o => hx.bl (bnew w o)); clear hx
  have HY := hid (fun o => hy.bl (bnew w o)); clear hy
  have HB := hid (bnew w)
  have HS := hid (sameB_eq (s, xs) (t, ys))
  clear hp hc1 x2 x3
  by_cases h : s = t
  · have h1 : (s.toList == t.toList) = true := by rw [h]; exact str_eq _
    have HH := hid h; clear h
    go_enter Try.func91, Try.ntmps91
    go_wp2_with fail
    go_ret
    exact ⟨ret_bool (by rw [HS.out]; show true = (eqD s t || _); rw [HH.out, eqD_self, Bool.true_or]), HB.out _⟩
  · have h1 : (s.toList == t.toList) = false := str_ne h
    have HH := hid h; clear h
    go_enter Try.func91, Try.ntmps91
    go_wp2_with fail
    refine (equalStrs_any _ _ _ _ _ _ _ _ _ _ _ (HX.out _) (HY.out _)).mono ?_
    rintro e w1 ⟨rfl, hb1⟩
    go_wp2_with fail
    go_ret
    exact ⟨ret_bool (by rw [HS.out]; show _ = (eqD s t || _); rw [eqD_no HH.out, Bool.false_or]), btr (HB.out _) hb1⟩
set_option maxRecDepth 100000 in
set_option maxHeartbeats 1000000 in
theorem indexBrief_any (g : Nat) (caps : Array Value) (eg : ∀ args w, (callFunc g args).run Try.prog w = .ok (.enter g args) w) (p : BriefT → Bool) (A : Option Addr) (n c lo : Nat) (bs : List BriefT) (w : World) (hx : Rd briefS lo w.heap.size w A n bs)
    (hg : ∀ W s A1 n1 c1 xs, Below w.heap.size w W → s.size ≤ 9223372036854775807 → Rd strS lo W.heap.size W A1 n1 xs → Calls Try.prog g (#[.agg #[.string s, .slice A1 n1 c1]] ++ caps) W fun e W' => e = .returned (.bool (p (s, xs))) ∧ Below W.heap.size W W') :
    Calls Try.prog 77 #[.slice A n c, .func (.func g) #[] caps] w fun e w' => e = .returned (.int .i64 (idxF p bs 0)) ∧ Below w.heap.size w w' := by
  obtain ⟨e1, e2, e3⟩ := hx
  have E1 := hid e1; clear e1
  have E3 := hid e3; clear e3
  have HG := hid hg; clear hg
  go_enter Try.func77, Try.ntmps77
  go_wp2_with fail
  go_loopg [5, 8] n (fun gk _ i wr => ∃ k : Nat, k + gk = n ∧ i = .int .i64 k ∧ idxF p bs 0 = idxF p (bs.drop k) k ∧ Below w.heap.size w wr)
  case atStart => exact ⟨0, Nat.zero_add _, rfl, rfl, Below.refl _ _⟩
  case round =>
    obtain ⟨k, hkg, rfl, hr, hb⟩ := hrel
    have HKG := hid hkg
    have HR := hid hr
    have HB := hid hb
    have hk : k ≤ n := by omega
    clear hkg hr hb
    by_cases hlt : k < n
    · have hki : (k : Int) < (n : Int) := by omega
      obtain ⟨b, off, rfl, _, hbb, hcx⟩ := E3.out (by omega)
      obtain ⟨A1, c1, y0, y1, y2, _, y4⟩ := hcx.brief hlt
      have cx0 := bcl HB.out y0
      have cx1 := bcl HB.out y1
      have hd := hid (drop_gt (l := bs) (by rw [← E1.out]; exact hlt))
      have hcall := HG.out wr _ A1 _ c1 _ HB.out y2 (y4.bl HB.out)
      clear hcx y0 y1 y2 y4
      by_cases hp : p ((gt bs k).1, (gt bs k).2) = true
      · have HP := hid hp
        rw [hp] at hcall
        clear hp
        go_wp2_with (go_at_fn g; refine hcall.mono ?_; rintro e w' ⟨rfl, hb'⟩)
        go_ret
        exact ⟨ret_int (by rw [HR.out, hd.out, idxF]; exact (if_pos HP.out).symm), btr HB.out hb'⟩
      · have HP := hid hp
        have hp' : p ((gt bs k).1, (gt bs k).2) = false := by simpa using hp
        rw [hp'] at hcall
        clear hp hp'
        go_wp2_with (go_at_fn g; refine hcall.mono ?_; rintro e w' ⟨rfl, hb'⟩)
        go_roundg (gk - 1)
        case measure => have := HKG.out; omega
        case rel => exact ⟨k + 1, by have := HKG.out; omega, by go_num, (by rw [HR.out, hd.out, idxF]; exact if_neg HP.out), btr HB.out hb'⟩
    · obtain rfl : k = n := by omega
      go_wp2_with fail
      go_ret
      exact ⟨ret_int (by rw [HR.out, List.drop_eq_nil_of_le (by rw [E1.out]; omega)]; rfl), HB.out⟩
set_option maxRecDepth 100000 in
set_option maxHeartbeats 1000000 in
theorem conBrief_any (g : Nat) (caps : Array Value) (eg : ∀ args w, (callFunc g args).run Try.prog w = .ok (.enter g args) w) (p : BriefT → Bool) (A : Option Addr) (n c lo : Nat) (bs : List BriefT) (w : World) (hx : Rd briefS lo w.heap.size w A n bs)
    (hg : ∀ W s A1 n1 c1 xs, Below w.heap.size w W → s.size ≤ 9223372036854775807 → Rd strS lo W.heap.size W A1 n1 xs → Calls Try.prog g (#[.agg #[.string s, .slice A1 n1 c1]] ++ caps) W fun e W' => e = .returned (.bool (p (s, xs))) ∧ Below W.heap.size W W') :
    Calls Try.prog 90 #[.slice A n c, .func (.func g) #[] caps] w fun e w' => e = .returned (.bool (bs.any p)) ∧ Below w.heap.size w w' := by
  have hb := idxF_any p bs 0 (by omega)
  have HB := hid hb; clear hb
  go_enter Try.func90, Try.ntmps90
  go_wp2_with (go_at_call 77; refine (indexBrief_any g caps eg p _ _ _ _ _ _ hx hg).mono ?_; rintro e w' ⟨rfl, hb'⟩)
  go_ret
  exact ⟨ret_bool HB.out, hb'⟩
theorem briefs_drop {bs : List BriefT} {k : Nat} (h : k < bs.length) : briefsFrom (bs.take k) (bs.drop k) = ((!((bs.take k).any fun a => sameB a (gt bs k)) && briefOk (gt bs k)) && briefsFrom (bs.take (k + 1)) (bs.drop (k + 1))) := by
  rw [drop_gt h, briefsFrom, take_gt h]
set_option maxRecDepth 100000 in
set_option maxHeartbeats 2000000 in
theorem implBriefsValid_any (A : Option Addr) (n c lo : Nat) (bs : List BriefT) (w : World) (hnc : n ≤ c) (hx : Rd briefS lo w.heap.size w A n bs) :
    Calls Try.prog 68 #[.slice A n c] w fun e w' => e = .returned (.bool (briefsOk bs)) ∧ Below w.heap.size w w' := by
  have hmf : ∀ (fn : Fn) (first cap : Array Value) (w : World), (Instr.makeFunc fn first cap).run Try.prog w = .ok (.func fn first cap) w := fun _ _ _ _ => rfl
  have e1 := hx.1
  have E1 := hid e1; clear e1
  have hn63 := hx.2.1
  have HX := hid hx; clear hx
  by_cases h8 : n ≤ 8
  case neg =>
    have HH := hid (show briefsOk bs = false by unfold briefsOk; rw [decide_eq_false (by rw [← E1.out]; exact h8)]; rfl)
    have hgt : (8 : Int) < (n : Int) := by omega
    go_enter Try.func68, Try.ntmps68
    go_wp2_with fail
    go_ret
    exact ⟨ret_bool HH.out.symm, Below.refl _ _⟩
  case pos =>
  have HH := hid (show briefsOk bs = briefsFrom (bs.take 0) (bs.drop 0) by unfold briefsOk; rw [decide_eq_true (by rw [← E1.out]; exact h8)]; rfl)
  go_enter Try.func68, Try.ntmps68
  go_wp2_with fail
  go_loopg [3, 4, 5, 11] n (fun gk _ _ _ i wr => ∃ k : Nat, k + gk = n ∧ i = .int .i64 k ∧ briefsOk bs = briefsFrom (bs.take k) (bs.drop k) ∧ Below w.heap.size w wr)
  case atStart => exact ⟨0, Nat.zero_add _, rfl, HH.out, Below.refl _ _⟩
  case round =>
    clear HH
    obtain ⟨k, hkg, rfl, hr, hb⟩ := hrel
    have HKG := hid hkg
    have HR := hid hr
    have HB := hid hb
    have hk : k ≤ n := by omega
    clear hkg hr hb
    by_cases hlt : k < n
    · have hki : (k : Int) < (n : Int) := by omega
      obtain ⟨b, off, rfl, _, hbb, hcx⟩ := HX.out.2.2 (by omega)
      obtain ⟨A1, c1, y0, y1, y2, _, y4⟩ := hcx.brief hlt
      have cx0 := bcl HB.out y0
      have cx1 := bcl HB.out y1
      have hd := hid (briefs_drop (bs := bs) (by rw [← E1.out]; exact hlt))
      have Y2 := hid y2
      have hba := bnew wr (.cells #[.string (gt bs k).1, .slice A1 (gt bs k).2.length c1] 31)
      have hna := heap_alloc_new wr (.cells #[.string (gt bs k).1, .slice A1 (gt bs k).2.length c1] 31)
      have Y4 := hid (y4.bl HB.out)
      have HSUB := hid (((HX.out.bl HB.out).bl hba).sub (i := 0) (j := k) (Nat.zero_le _) hk (some ⟨b, off, none⟩) (fun b' off' e _ => by injection e with e; injection e with e1 e2 _; subst e1 e2; rw [Nat.zero_mul, Nat.add_zero]))
      have HBA := hid (btr HB.out hba)
      have HNA := hid hna
      have HBW := hid hba
      clear hcx y0 y1 y2 y4 hba hna
      have hkc : k ≤ c := by omega
      have hcon := conBrief_any 91 #[.pointer (some ⟨wr.heap.size, 0, none⟩)] (enters_of Try.func91 (by kernel_rfl) rfl) (fun a => sameB a ((gt bs k).1, (gt bs k).2)) _ _ c _ _ _ HSUB.out (fun W s A2 n2 c2 xs hW hs hxs =>
        BriefsValid1_any wr.heap.size _ _ _ _ _ _ _ _ _ _ _ _ W hxs ((Y4.out.bl HBW.out).bl hW) ((hW.block wr.heap.size (by rw [World.size_alloc]; omega)).trans HNA.out))
      rw [List.drop_zero, Nat.sub_zero] at hcon
      obtain ⟨tk, htk⟩ : ∃ tk, ((bs.take k).any fun a => sameB a ((gt bs k).1, (gt bs k).2)) = tk := ⟨_, rfl⟩
      rw [htk] at hcon
      have HTK := hid htk
      have HCON := hid hcon
      clear htk hcon
      cases tk with
      | true =>
        go_wp2_with fail
        refine HCON.out.mono ?_
        rintro e w2 ⟨rfl, hb2⟩
        go_wp2_with fail
        go_ret
        exact ⟨ret_bool (by rw [HR.out, hd.out]; show false = ((!((bs.take k).any fun a => sameB a ((gt bs k).1, (gt bs k).2)) && _) && _); rw [HTK.out]; rfl), btr HBA.out hb2⟩
      | false =>
        go_wp2_with fail
        refine HCON.out.mono ?_
        rintro e w2 ⟨rfl, hb2⟩
        have y4b := (Y4.out.bl HBW.out).bl hb2
        obtain ⟨z0, z1, _, _⟩ := at_get ((hb2.block wr.heap.size (by rw [World.size_alloc]; omega)).trans HNA.out)
        have HB2 := hid (btr HBA.out hb2)
        have HV := hid (briefValid_any _ _ c1 _ _ _ w2 Y2.out y4b)
        clear y4b hb2
        by_cases hv : briefOk ((gt bs k).1, (gt bs k).2) = true
        · have HV2 := hid hv
          have hv3 := HV.out
          rw [hv] at hv3
          clear hv
          go_wp2_with (go_at_call 93; refine hv3.mono ?_; rintro e w' ⟨rfl, hb'⟩)
          go_roundg (gk - 1)
          case measure => have := HKG.out; omega
          case rel => exact ⟨k + 1, by have := HKG.out; omega, by go_num, (by rw [HR.out, hd.out]; show ((!((bs.take k).any fun a => sameB a ((gt bs k).1, (gt bs k).2)) && briefOk ((gt bs k).1, (gt bs k).2)) && _) = _; rw [HTK.out, HV2.out]; rfl), btr HB2.out hb'⟩
        · have hv' : briefOk ((gt bs k).1, (gt bs k).2) = false := by simpa using hv
          have HV2 := hid hv'
          have hv3 := HV.out
          rw [hv'] at hv3
          clear hv hv'
          go_wp2_with (go_at_call 93; refine hv3.mono ?_; rintro e w' ⟨rfl, hb'⟩)
          go_ret
          exact ⟨ret_bool (by rw [HR.out, hd.out]; show false = ((!((bs.take k).any fun a => sameB a ((gt bs k).1, (gt bs k).2)) && briefOk ((gt bs k).1, (gt bs k).2)) && _); rw [HTK.out, HV2.out]; rfl), btr HB2.out hb'⟩
    · obtain rfl : k = n := by omega
      go_wp2_with fail
      go_ret
      exact ⟨ret_bool (by rw [HR.out, List.drop_eq_nil_of_le (by rw [E1.out]; omega)]; rfl), HB.out⟩
theorem briefs_split (bs : List BriefT) : briefsOk bs = (briefsFrom (bs.take 0) (bs.drop 0) && decide (bs.length ≤ 8)) := by
  unfold briefsOk
  rw [Bool.and_comm]
  rfl
set_option maxRecDepth 100000 in
set_option maxHeartbeats 2000000 in
theorem specBriefsValid_any (A : Option Addr) (n c lo : Nat) (bs : List BriefT) (w : World) (hx : Rd briefS lo w.heap.size w A n bs) :
    Calls Try.prog 67 #[.slice A n c] w fun e w' => e = .returned (.bool (briefsOk bs)) ∧ Below w.heap.size w w' := by
  have e1 := hx.1
  have E1 := hid e1; clear e1
  have hn63 := hx.2.1
  have HX := hid hx; clear hx
  have HH := hid (briefs_split bs)
  go_enter Try.func67, Try.ntmps67
  go_wp2_with fail
  go_loopg [3, 4] n (fun gk i _ wr => ∃ k : Nat, k + gk = n ∧ i = .int .i64 k ∧ briefsOk bs = (briefsFrom (bs.take k) (bs.drop k) && decide (bs.length ≤ 8)) ∧ Below w.heap.size w wr)
  case atStart => exact ⟨0, Nat.zero_add _, rfl, HH.out, Below.refl _ _⟩
  case round =>
    clear HH
    obtain ⟨k, hkg, rfl, hr, hb⟩ := hrel
    have HKG := hid hkg
    have HR := hid hr
    have HB := hid hb
    have hk : k ≤ n := by omega
    clear hkg hr hb
    by_cases hlt : k < n
    · have hki : (k : Int) < (n : Int) := by omega
      obtain ⟨b, off, rfl, _, hbb, hcx⟩ := HX.out.2.2 (by omega)
      obtain ⟨A1, c1, y0, y1, y2, _, y4⟩ := hcx.brief hlt
      have cx0 := bcl HB.out y0
      have cx1 := bcl HB.out y1
      have hd := hid (briefs_drop (bs := bs) (by rw [← E1.out]; exact hlt))
      have Y2 := hid y2
      have Y4 := hid y4
      have Y0 := hid y0
      have Y1 := hid y1
      have hbk : briefOk (gt bs k) = (markOk (gt bs k).1 && (inB (gt bs k).2.length 1 3 && wordsOk (gt bs k).2)) := rfl
      have HBK := hid hbk
      have hm1 := l4Mark_any (gt bs k).1 wr Y2.out
      have hw1 := l4Words_any _ _ c1 _ 1 3 _ wr (Y4.out.bl HB.out)
      clear y0 y1 y2 y4 hbk
      obtain ⟨mk, hmk⟩ : ∃ mk, markOk (gt bs k).1 = mk := ⟨_, rfl⟩
      obtain ⟨wk, hwk⟩ : ∃ wk, (inB (gt bs k).2.length 1 3 && wordsOk (gt bs k).2) = wk := ⟨_, rfl⟩
      rw [hmk] at hm1
      rw [hwk] at hw1
      have HMK := hid hmk
      have HWK := hid hwk
      have HM1 := hid hm1
      have HW1 := hid hw1
      clear hmk hwk hm1 hw1
      cases mk with
      | false =>
        go_wp2_with fail
        refine HM1.out.mono ?_
        rintro e w2 ⟨rfl, rfl⟩
        go_wp2_with fail
        go_ret
        exact ⟨ret_bool (by rw [HR.out, hd.out, HBK.out, HMK.out, Bool.false_and, Bool.and_false, Bool.false_and, Bool.false_and]), HB.out⟩
      | true =>
      cases wk with
      | false =>
        go_wp2_with (first | (go_at_call 87; refine HM1.out.mono ?_; rintro e w2 ⟨rfl, rfl⟩) | (go_at_call 88; refine HW1.out.mono ?_; rintro e w2 ⟨rfl, rfl⟩))
        go_ret
        exact ⟨ret_bool (by rw [HR.out, hd.out, HBK.out, HMK.out, HWK.out, Bool.and_false, Bool.and_false, Bool.false_and, Bool.false_and]), HB.out⟩
      | true =>
        go_wp2_with (first | (go_at_call 87; refine HM1.out.mono ?_; rintro e w2 ⟨rfl, rfl⟩) | (go_at_call 88; refine HW1.out.mono ?_; rintro e w2 ⟨rfl, rfl⟩))
        have HBO := hid (show briefOk (gt bs k) = true by rw [HBK.out, HMK.out, HWK.out]; rfl)
        clear HM1 HW1 cx0 cx1 HMK HWK HBK
        obtain ⟨wo, hwo⟩ : ∃ x : World, x = wr := ⟨_, rfl⟩
        subst hwo
        obtain ⟨go, hgo⟩ : ∃ x : Nat, x = gk := ⟨_, rfl⟩
        subst hgo
        go_loopg [4] k (fun gk i wr => ∃ j : Nat, j + gk = k ∧ i = .int .i64 j ∧ ((bs.take k).any fun a => sameB a (gt bs k)) = (((bs.take k).drop j).any fun a => sameB a (gt bs k)) ∧ Below w.heap.size w wr)
        case atStart => exact ⟨0, Nat.zero_add _, rfl, rfl, HB.out⟩
        case round =>
          obtain ⟨j, hjg, rfl, hjr, hb⟩ := hrel
          have HJG := hid hjg
          have HJR := hid hjr
          have hj : j ≤ k := by omega
          clear hjg hjr HB
          by_cases hjl : j < k
          · have hji : (j : Int) < (k : Int) := by omega
            have hjn : (j : Int) < (n : Int) := by omega
            have hjN : j < n := by omega
            obtain ⟨A2, c2, u0, u1, _, _, u4⟩ := hcx.brief hjN
            have cx0 := aft_cell hbb Y0.out
            have cx1 := aft_cell hbb Y1.out
            have cy0 := aft_cell hbb u0
            have cy1 := aft_cell hbb u1
            have HJD := hid (show (bs.take k).drop j = gt bs j :: (bs.take k).drop (j + 1) by
              have hlen : j < (bs.take k).length := by rw [List.length_take]; have := E1.out; omega
              rw [drop_gt hlen]
              congr 1
              simp [gt, hjl])
            have call : ∀ p : Aft w.heap.size w, Calls Try.prog 89 #[.slice A2 (gt bs j).2.length c2, .slice A1 (gt bs k).2.length c1] p.val fun e w'' => e = .returned (.bool (eqD (gt bs j).2 (gt bs k).2)) ∧ ∃ q : Aft w.heap.size w, w'' = q.val :=
              fun p => aft_call (l4Same_any _ _ _ _ _ _ lo lo _ _ _ ((u4.below p.prop (Nat.le_refl _)).wide (Nat.le_refl _) p.prop.size) ((Y4.out.below p.prop (Nat.le_refl _)).wide (Nat.le_refl _) p.prop.size)) (Nat.le_refl _)
            have Hcall := hid call
            clear call u0 u1 u4
            by_cases hs : (gt bs j).1 = (gt bs k).1
            · have hs1 : ((gt bs j).1.toList == (gt bs k).1.toList) = true := by rw [hs]; exact str_eq _
              have HS := hid hs
              clear hs
              go_wp2_with fail
              refine wp_region_aft hb (by kernel_rfl) (by kernel_rfl) ?_
              repeat (go_big_quiet_step ((go_at_call 89; exact Hcall.out _)))
              refine wpQuiet_nil ?_
              rintro _ ⟨⟨w2, hb2⟩, rfl⟩
              clear cx0 cx1 cy0 cy1 hb
              go_wp2_with fail
              go_ret
              exact ⟨ret_bool (by rw [HR.out, hd.out, HJR.out, HJD.out, List.any_cons, sameB_eq, HS.out, eqD_self]; rfl), hb2⟩
            · have hs1 : ((gt bs j).1.toList == (gt bs k).1.toList) = false := str_ne hs
              have HS := hid hs
              clear hs
              go_wp2_with fail
              refine wp_region_aft hb (by kernel_rfl) (by kernel_rfl) ?_
              repeat (go_big_quiet_step ((go_at_call 89; exact Hcall.out _)))
              refine wpQuiet_nil ?_
              rintro _ ⟨⟨w2, hb2⟩, rfl⟩
              clear cx0 cx1 cy0 cy1 hb
              obtain ⟨tk, htk⟩ : ∃ tk, eqD (gt bs j).2 (gt bs k).2 = tk := ⟨_, rfl⟩
              rw [htk]
              have HTK := hid htk
              clear htk
              have HSB := hid (show sameB (gt bs j) (gt bs k) = tk by rw [sameB_eq, eqD_no HS.out, HTK.out, Bool.false_or])
              cases tk with
              | true =>
                go_wp2_with fail
                go_ret
                exact ⟨ret_bool (by rw [HR.out, hd.out, HJR.out, HJD.out, List.any_cons, HSB.out]; rfl), hb2⟩
              | false =>
                go_wp2_with fail
                go_roundg (gk - 1)
                case measure => have := HJG.out; omega
                case rel => exact ⟨j + 1, by have := HJG.out; omega, by go_num, by rw [HJR.out, HJD.out, List.any_cons, HSB.out, Bool.false_or], hb2⟩
          · obtain rfl : j = k := by omega
            go_wp2_with fail
            go_roundg (go - 1)
            case measure => have := HKG.out; omega
            case rel => exact ⟨j + 1, by have := HKG.out; omega, by go_num, by rw [HR.out, hd.out, HJR.out, List.drop_eq_nil_of_le (by rw [List.length_take]; omega), HBO.out]; rfl, hb⟩
    · obtain rfl : k = n := by omega
      by_cases h8 : k ≤ 8
      · have hle : ((k : Int) ≤ 8) := by omega
        go_wp2_with fail
        go_ret
        exact ⟨ret_bool (by rw [HR.out, List.drop_eq_nil_of_le (by rw [E1.out]; omega), decide_eq_true (by rw [← E1.out]; exact h8)]; rfl), HB.out⟩
      · have hle : ¬ ((k : Int) ≤ 8) := by omega
        go_wp2_with fail
        go_ret
        exact ⟨ret_bool (by rw [HR.out, decide_eq_false (p := bs.length ≤ 8) (by rw [← E1.out]; exact h8), Bool.and_false]), HB.out⟩
end Go.Proofs.Ythijnojefeeaoaa
