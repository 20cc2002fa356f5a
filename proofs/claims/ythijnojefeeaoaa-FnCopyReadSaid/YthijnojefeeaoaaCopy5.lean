/- What the reference's CopyBest returns. -/
import Derived.Test.YthijnojefeeaoaaCopy4
namespace Go.Proofs.Ythijnojefeeaoaa
open Go.RowKit Go.Shelf
attribute [local go_sem] Oper.semAt_some
theorem costs_drops {a c : Int} {bs : List BriefT} : ∀ {ws : List ByteArray} {k : Nat}, k ≤ ws.length → (costs a c bs ws).drop k = costs a c bs (ws.drop k)
  | _, 0, _ => rfl
  | [], k + 1, h => by simp at h
  | w :: ws, k + 1, h => by
    rw [costs, List.drop_succ_cons, List.drop_succ_cons]
    exact costs_drops (by simpa using h)
theorem costs_gt {a c : Int} {bs : List BriefT} {ws : List ByteArray} {p q : Nat} (h : p ≤ ws.length) : gt (costs a c bs (ws.drop p)) q = gt (costs a c bs ws) (p + q) := by rw [← costs_drops h, gt_drop]
/-- The reference's test of a brief at a place. -/
def qB (bs : List BriefT) (ws : List ByteArray) (p : Nat) (b : BriefT) : Bool := ahead b (ws.drop p) && (gt (costs 1 0 bs ws) (p + b.2.length) + (b.1.size : Int) == gt (costs 1 0 bs ws) p)
theorem pick_qB {bs : List BriefT} {ws : List ByteArray} {p : Nat} (h : p ≤ ws.length) : bs.find? (qB bs ws p) = pickB 1 0 bs (ws.drop p) := by
  unfold pickB
  refine find_congr fun b _ => ?_
  unfold qB
  rw [costs_gt h, costs_gt h, Nat.add_zero, Int.one_mul, Int.add_zero]
def wayT (w : ByteArray) : WayT → ByteArray
  | none => w
  | some b => b.1
theorem best_step {bs : List BriefT} (hb : ∀ b ∈ bs, 1 ≤ b.2.length) {ws : List ByteArray} {p : Nat} (hp : p < ws.length) :
    cpT (bestP 1 0 bs (ws.drop p)) (ws.drop p) = wayT (gt ws p) (bs.find? (qB bs ws p)) :: cpT (bestP 1 0 bs (ws.drop (p + wayN (bs.find? (qB bs ws p))))) (ws.drop (p + wayN (bs.find? (qB bs ws p)))) ∧
    1 ≤ wayN (bs.find? (qB bs ws p)) ∧ p + wayN (bs.find? (qB bs ws p)) ≤ ws.length := by
  rw [pick_qB (Nat.le_of_lt hp)]
  have hd := drop_gt hp
  have hl : (ws.drop p).length = ws.length - p := List.length_drop ..
  cases hk : pickB 1 0 bs (ws.drop p) with
  | none =>
    refine ⟨?_, Nat.le_refl _, hp⟩
    rw [hd] at hk ⊢
    rw [bestP_cons, hk]
    rfl
  | some b =>
    obtain ⟨h4, h5, _⟩ := pick_some hk
    have h6 := hb b h4
    have h7 := ahead_len h5
    refine ⟨?_, h6, by show p + b.2.length ≤ _; omega⟩
    rw [hd] at hk ⊢
    rw [bestP_cons, hk]
    show b.1 :: cpT (bestP 1 0 bs ((ws.drop (p + 1)).drop (b.2.length - 1))) ((gt ws p :: ws.drop (p + 1)).drop b.2.length) = b.1 :: cpT (bestP 1 0 bs (ws.drop (p + b.2.length))) (ws.drop (p + b.2.length))
    rw [drop_pred _ _ h6, List.drop_drop, show p + 1 + (b.2.length - 1) = p + b.2.length by omega]
theorem bestO_len (bs : List BriefT) (ws : List ByteArray) : ((bestO bs ws).getD []).length ≤ 1048576 := by
  unfold bestO
  cases h : deskOk bs ws with
  | false => exact Nat.zero_le _
  | true =>
    obtain ⟨_, hm, hwd, _, _⟩ := desk_len h
    have h1 := (short_law ws hwd).2.1
    show (bestV bs ws).length ≤ _
    omega
set_option maxRecDepth 100000 in
set_option maxHeartbeats 4000000 in
theorem specCopyBest_any (A B : Option Addr) (n c m d : Nat) (bs : List BriefT) (ws : List ByteArray) (w : World) (hmd : m ≤ d) (hd63 : d ≤ 9223372036854775807) (hx : Rd briefS 0 w.heap.size w A n bs) (hy : Rd strS 0 w.heap.size w B m ws) :
    Calls Try.prog 45 #[.slice A n c, .slice B m d] w (RetSB w (bestO bs ws)) := by
  obtain ⟨i0, hi1, hz0, hz1, hz2⟩ := info_parts (show (Try.prog.info? 9).map (fun i => (i.zero, i.size, i.bytes)) = some (some (.string ByteArray.empty), 1, 16) by kernel_rfl)
  have HI := hid (And.intro hi1 (And.intro hz0 (And.intro hz1 hz2)))
  have bl := bnew w (.cells #[] 9)
  have zl := World.size_alloc w (.cells #[] 9)
  have hol := OwnR.nil (S := strS) (e := 9) (base := w.heap.size) (w := w) (Nat.le_refl _) #[] rfl
  have HX := hid hx
  have HY := hid hy
  have E1 := hid hx.1
  have F1 := hid hy.1
  have hbo := l4Both_any A B n c m d 0 bs ws _ (hx.bl bl) (hy.bl bl)
  clear hx hy hi1 hz0 hz1 hz2
  obtain ⟨x, hx1⟩ : ∃ x, deskOk bs ws = x := ⟨_, rfl⟩
  rw [hx1] at hbo
  have HX1 := hid hx1
  have HBO := hid hbo
  have HBL := hid bl
  have HZL := hid zl
  have HOL := hid hol
  clear hx1 hbo bl zl hol
  cases x with
  | false =>
    have HV := hid (show bestO bs ws = none by unfold bestO; rw [HX1.out])
    go_enter Try.func45, Try.ntmps45
    go_wp2_with fail
    refine HBO.out.mono ?_
    rintro e w1 ⟨rfl, hb1⟩
    have HB1 := hid hb1
    clear hb1
    go_wp2_with fail
    go_ret2
    rw [HV.out]
    exact ⟨_, 0, rfl, HOL.out.bl HB1.out, btr HBL.out HB1.out⟩
  | true =>
    obtain ⟨hn8, hm20, hwd, hms, hws⟩ := desk_len HX1.out
    have hb : ∀ b ∈ bs, 1 ≤ b.2.length := fun b hb => (hwd b hb).1
    have HBB := hid hb
    have HWD := hid hwd
    have HMS := hid hms
    have HWS := hid hws
    have HV := hid (show bestO bs ws = some (bestV bs ws) by unfold bestO; rw [HX1.out])
    have hm20' : m ≤ 20 := by rw [F1.out]; exact hm20
    have HN8 := hid (show n ≤ 8 by rw [E1.out]; exact hn8)
    clear hwd hms hws hb hn8 hm20
    go_enter Try.func45, Try.ntmps45
    go_wp2_with fail
    refine HBO.out.mono ?_
    rintro e w1 ⟨rfl, hb1⟩
    have HO1 := hid (HOL.out.bl hb1)
    have HB1 := hid (btr HBL.out hb1)
    have hz1 := hb1.size
    clear hb1
    go_wp2_with fail
    refine (l4Costs_any A B n c m d 1 0 bs ws _ hmd hd63 (HX.out.bl HB1.out) (HY.out.bl HB1.out) (by omega) (by omega) HX1.out).mono ?_
    rintro r w2 ⟨G, rfl, hG, hb2⟩
    obtain ⟨cs, hcs⟩ : ∃ cs, costs 1 0 bs ws = cs := ⟨_, rfl⟩
    rw [hcs] at hG
    have HCS := hid hcs
    have HCB := hid (show ∀ k, k ≤ m → 0 ≤ gt cs k ∧ gt cs k ≤ 1000 from fun k hk => by
      have hk' : k ≤ ws.length := by rw [← F1.out]; exact hk
      rw [← hcs, costs_drop hk']
      refine ⟨costs_nn 1 0 (by omega) (by omega) HBB.out _, ?_⟩
      have := costs_ub (a := 1) (c := 0) (by omega) (by omega) (bs := bs) (ws := ws.drop k) (fun s hs => HWS.out s (List.mem_of_mem_drop hs))
      rw [List.length_drop, ← F1.out] at this
      omega)
    obtain ⟨b', off', he, hGl, hGu, hcg⟩ := hG.2.2 (by omega)
    injection he with he
    injection he with he1 he2 _
    subst he1 he2
    have HCG := hid (show ∀ k, k ≤ m → w2.cell? ⟨G, k, none⟩ = some (.int .i64 (gt cs k)) from fun k hk => by
      have := hcg.int (k := k) (by omega)
      rw [Nat.zero_add] at this
      exact this)
    have HO2 := hid (HO1.out.bl hb2)
    have HB2 := hid (btr HB1.out hb2)
    have hz2 := hb2.size
    have hz3 := hz1
    rw [HZL.out] at hz3
    clear hG hb2 hcs hcg HO1
    go_wp2_with fail
    go_loopg [6, 8, 9, 10, 11, 12] m (fun gk l6 i _ _ _ _ wr => ∃ (p : Nat) (A5 : Option Addr) (c5 : Nat) (l : List ByteArray), p + gk = m ∧ i = .int .i64 p ∧ l6 = .slice A5 l.length c5 ∧ OwnR strS w.heap.size wr 9 (.slice A5 l.length c5) l ∧ l ++ cpT (bestP 1 0 bs (ws.drop p)) (ws.drop p) = bestV bs ws ∧ l.length ≤ p ∧
      Chg (fun k => k = w.heap.size) w2 wr ∧ (∀ k, (Value.slice A5 l.length c5).ownBlock = some k → k = w.heap.size ∨ w2.heap.size ≤ k))
    case atStart => exact ⟨0, _, _, [], Nat.zero_add _, rfl, rfl, HO2.out, rfl, Nat.le_refl _, Chg.refl _ _, fun k hk => .inl (by injection hk with hk; exact hk.symm)⟩
    case round =>
      clear HO2
      obtain ⟨p, A5, c5, l, hpg, rfl, rfl, hO, hl, hll, hch, hov⟩ := hrel
      have HPG := hid hpg
      have HO := hid hO
      have HL := hid hl
      have HCH := hid hch
      have HOV := hid hov
      have hpm : p ≤ m := by omega
      have hwz := hch.size
      have hbel := HB2.out.trans (hch.below (B := w.heap.size) (by omega) (fun q hq => by omega))
      have HBE := hid hbel
      have HCG5 := hid (fun k (hk : k ≤ m) => hch.cell (show ¬ G = w.heap.size by omega) (HCG.out k hk))
      clear hpg hO hl hch hov hbel
      by_cases hlt : p < m
      · have hpi : (p : Int) < (m : Int) := by omega
        have hpw : p < ws.length := by rw [← F1.out]; exact hlt
        obtain ⟨bb, ob, hB, _, hbb, hcx⟩ := HY.out.2.2 (by omega)
        subst hB
        obtain ⟨y0, y1⟩ := hcx.str hlt
        have c0 := bcl HBE.out y0
        have hbs := best_step HBB.out hpw
        obtain ⟨q, hq⟩ : ∃ q, qB bs ws p = q := ⟨_, rfl⟩
        rw [hq] at hbs
        have HBS := hid hbs
        have HQ := hid hq
        obtain ⟨s0, hs0⟩ : ∃ s0, gt ws p = s0 := ⟨_, rfl⟩
        rw [hs0] at c0 y1 HBS
        have HN8o := HN8.out
        clear hcx y0 hbs hq hs0
        go_wp2_with fail
        obtain ⟨wo, hwo⟩ : ∃ x : World, x = wr := ⟨_, rfl⟩
        subst hwo
        obtain ⟨go2, hgo2⟩ : ∃ x : Nat, x = gk := ⟨_, rfl⟩
        subst hgo2
        go_loopg [9, 10, 11, 12] n (fun gk a b i _ wr => ∃ (j : Nat) (t : ByteArray) (k : Nat), j = gk ∧ j ≤ n ∧ i = .int .i64 ((j : Int) - 1) ∧ a = .string t ∧ b = .int .i64 k ∧ (t = wayT s0 ((bs.drop j).find? q) ∧ k = wayN ((bs.drop j).find? q)) ∧ Below wo.heap.size wo wr)
        case atStart => exact ⟨n, s0, 1, rfl, Nat.le_refl _, rfl, rfl, rfl, by rw [show bs.drop n = [] from List.drop_eq_nil_of_le (by rw [← E1.out]; exact Nat.le_refl _)]; exact ⟨rfl, rfl⟩, Below.refl _ _⟩
        case round =>
          obtain ⟨j, t, k, hjg, hjn, rfl, rfl, rfl, htk, hb⟩ := hrel
          have HJG := hid hjg
          have HTK := hid htk
          have HBI := hid hb
          have hwzi := hb.size
          clear hjg htk hb
          cases j with
          | zero =>
            have htk := HTK.out
            rw [List.drop_zero] at htk
            obtain ⟨ht, hk⟩ := htk
            obtain ⟨b1, b2, b3⟩ := HBS.out
            rw [← ht, ← hk] at b1
            rw [← hk] at b2 b3
            rw [← F1.out] at b3
            have hts : t.size ≤ 9223372036854775807 := by
              rw [ht]
              cases hf : bs.find? q with
              | none => exact y1
              | some b =>
                have := HMS.out b (List.mem_of_find?_eq_some hf)
                show b.1.size ≤ _
                omega
            have hwp : IntKind.i64.wrap ((p : Int) + (k : Int)) = ((p + k : Nat) : Int) := by
              rw [show (p : Int) + (k : Int) = ((p + k : Nat) : Int) by omega]
              exact IntWalk.i64_in _ (by omega)
            have HB1' := hid b1
            clear ht hk b1 HTK HBS
            go_wp2_with (at_builtin; refine wpList_append_R2 rfl (.tmp 76) (.tmp 78) _ rfl strS Try.underlying24 HI.out rfl (by decide) rfl ((HO.out.bl HBI.out).al _) (y := t) rfl (heap_alloc_new _ _) rfl (by simp [Value.oneCell']) ⟨rfl, hts⟩ (by omega) (by omega) (by simp; omega) ?_; intro A6 c6 w5 hO5 hc5 hv5; have hwp5 := hwp)
            go_roundg (go2 - k)
            case measure => have := HPG.out; omega
            case rel =>
              refine ⟨p + k, A6, c6, l ++ [t], by have := HPG.out; omega, rfl, by rw [List.length_append]; rfl, by rw [List.length_append]; exact hO5, ?_, by rw [List.length_append, List.length_singleton]; omega, ?_, ?_⟩
              · rw [← HL.out, HB1'.out, List.append_assoc]
                rfl
              · exact chg_step ((HCH.out.trans (chgB HBI.out)).trans (chg_new wr _ _)) hc5 HOV.out
              · rw [List.length_append, List.length_singleton]
                exact own_step HOV.out hv5 (by simp; omega)
          | succ j =>
            have e0 : (((j + 1 : Nat) : Int) - 1) = (j : Int) := by omega
            rw [e0]
            clear e0
            have hjn' : j < n := by omega
            have hji : (j : Int) < (n : Int) := by omega
            have hjb : j < bs.length := by rw [← E1.out]; exact hjn'
            obtain ⟨ba, oa, hA, _, hbal, hca⟩ := HX.out.2.2 (by omega)
            subst hA
            obtain ⟨A1, c1, q0, q1, q2, q3, q4⟩ := hca.brief hjn'
            have HBW := hid (btr HBE.out HBI.out)
            have cx0 := bcl HBW.out q0
            have cx1 := bcl HBW.out q1
            have Q4 := hid (q4.bl HBW.out)
            have hmem := gt_mem hjb
            have hw13 := HWD.out _ hmem
            have hms3 := HMS.out _ hmem
            have HD := hid (drop_gt hjb)
            obtain ⟨B1, hB1⟩ : ∃ B1, gt bs j = B1 := ⟨_, rfl⟩
            rw [hB1] at cx0 cx1 Q4 HD hw13 hms3 q2 q3
            obtain ⟨s1, xs⟩ := B1
            obtain ⟨u, hu⟩ : ∃ u, xs.length = u := ⟨_, rfl⟩
            obtain ⟨sm, hsm⟩ : ∃ sm, s1.size = sm := ⟨_, rfl⟩
            have HU := hid (And.intro hu hsm)
            dsimp only at cx0 cx1 Q4 hw13 hms3 q2 q3
            rw [hu] at cx1 Q4 hw13 q3
            rw [hsm] at hms3 q2
            clear q0 q1 q4 hca hmem hB1 hu hbal hbb
            have hcall0 := fun (pp : Aft wr.heap.size wr) => aft_call (p := pp) (l4At_any A1 u c1 bb ob m d p 0 s1 xs ws pp.val ((Q4.out.below pp.prop (Nat.le_refl _)).wide (Nat.le_refl _) pp.prop.size) (((HY.out.bl HBW.out).below pp.prop (Nat.le_refl _)).wide (Nat.le_refl _) pp.prop.size) hlt (by omega) hmd hd63 (by omega)) (Nat.le_refl _)
            obtain ⟨ah, hah⟩ : ∃ ah, ahead (s1, xs) (ws.drop p) = ah := ⟨_, rfl⟩
            rw [hah] at hcall0
            have Hcall := hid hcall0
            have HAH := hid hah
            have ax0 := aft_cell (B := wr.heap.size) (w0 := wr) (block_lt_of_cell cx0) cx0
            have ax1 := aft_cell (B := wr.heap.size) (w0 := wr) (block_lt_of_cell cx1) cx1
            clear hcall0 hah
            cases ah with
            | false =>
              have HQF := hid (show q (s1, xs) = false by rw [← HQ.out]; unfold qB; rw [HAH.out, Bool.false_and])
              go_wp2_with fail
              refine wp_region_aft (B := wr.heap.size) (w0 := wr) (Below.refl _ _) (by kernel_rfl) (by kernel_rfl) ?_
              repeat (go_big_quiet_step ((go_at_call 73; exact Hcall.out _)))
              refine wpQuiet_nil ?_
              rintro w3 ⟨⟨w4, hb4⟩, hw4⟩
              have hw5 : w3 = w4 := hw4
              clear hw4
              subst hw5
              have HB4 := hid hb4
              clear hb4 ax0 ax1 cx0 cx1
              go_wp2_with fail
              go_roundg j
              case measure => have := HJG.out; omega
              case rel =>
                refine ⟨j, t, k, rfl, by omega, by go_num, rfl, rfl, ?_, btr HBI.out HB4.out⟩
                rw [HD.out, List.find?_cons, HQF.out]
                exact HTK.out
            | true =>
              have hal := ahead_len HAH.out
              rw [List.length_drop, ← F1.out] at hal
              have hqm : u ≤ m - p := by have := HU.out.1; dsimp only at hal; omega
              obtain ⟨tt, htt⟩ : ∃ tt, p + u = tt := ⟨_, rfl⟩
              have hwp1 : IntKind.i64.wrap ((p : Int) + (u : Int)) = (tt : Int) := by
                rw [show (p : Int) + (u : Int) = (tt : Int) by omega]
                exact IntWalk.i64_in _ (by omega)
              have htm : tt < m + 1 := by omega
              have htmi : (tt : Int) < (m : Int) + 1 := by omega
              have hpm3 : p < m + 1 := by omega
              have hpm3i : (p : Int) < (m : Int) + 1 := by omega
              have hb1 := HCB.out tt (by omega)
              have g1 := bcl HBI.out (HCG5.out tt (by omega))
              have g0 := bcl HBI.out (HCG5.out p (by omega))
              obtain ⟨r1, hr1⟩ : ∃ r1, gt cs tt = r1 := ⟨_, rfl⟩
              obtain ⟨r0, hr0⟩ : ∃ r0, gt cs p = r0 := ⟨_, rfl⟩
              rw [hr1] at g1 hb1
              rw [hr0] at g0
              have ag1 := aft_cell (B := wr.heap.size) (w0 := wr) (block_lt_of_cell g1) g1
              have ag0 := aft_cell (B := wr.heap.size) (w0 := wr) (block_lt_of_cell g0) g0
              have hwr : IntKind.i64.wrap (r1 + (sm : Int)) = r1 + sm := IntWalk.i64_in _ (by omega)
              have HQE := hid (show q (s1, xs) = (r1 + (sm : Int) == r0) by
                rw [← HQ.out]
                unfold qB
                rw [HAH.out, Bool.true_and]
                show (gt (costs 1 0 bs ws) (p + xs.length) + (s1.size : Int) == gt (costs 1 0 bs ws) p) = _
                rw [HCS.out, HU.out.1, HU.out.2, htt, hr1, hr0])
              clear hr1 hr0 htt hal g1 g0
              obtain ⟨cc, hcc⟩ : ∃ cc, (r1 + (sm : Int) == r0) = cc := ⟨_, rfl⟩
              have HCC := hid hcc
              cases cc with
              | false =>
                go_wp2_with fail
                refine wp_region_aft (B := wr.heap.size) (w0 := wr) (Below.refl _ _) (by kernel_rfl) (by kernel_rfl) ?_
                repeat (go_big_quiet_step ((go_at_call 73; exact Hcall.out _)))
                refine wpQuiet_nil ?_
                rintro w3 ⟨⟨w4, hb4⟩, hw4⟩
                have hw5 : w3 = w4 := hw4
                clear hw4
                subst hw5
                have HB4 := hid hb4
                clear hb4 ax0 ax1 cx0 cx1 ag1 ag0
                go_wp2_with fail
                go_roundg j
                case measure => have := HJG.out; omega
                case rel =>
                  refine ⟨j, t, k, rfl, by omega, by go_num, rfl, rfl, ?_, btr HBI.out HB4.out⟩
                  rw [HD.out, List.find?_cons, HQE.out, HCC.out]
                  exact HTK.out
              | true =>
                go_wp2_with fail
                refine wp_region_aft (B := wr.heap.size) (w0 := wr) (Below.refl _ _) (by kernel_rfl) (by kernel_rfl) ?_
                repeat (go_big_quiet_step ((go_at_call 73; exact Hcall.out _)))
                refine wpQuiet_nil ?_
                rintro w3 ⟨⟨w4, hb4⟩, hw4⟩
                have hw5 : w3 = w4 := hw4
                clear hw4
                subst hw5
                have HB4 := hid hb4
                have dx0 := bcl hb4 cx0
                clear hb4 ax0 ax1 cx0 cx1 ag1 ag0
                go_wp2_with fail
                go_roundg j
                case measure => have := HJG.out; omega
                case rel =>
                  refine ⟨j, s1, u, rfl, by omega, by go_num, rfl, rfl, ?_, btr HBI.out HB4.out⟩
                  rw [HD.out, List.find?_cons, HQE.out, HCC.out]
                  exact ⟨rfl, HU.out.1.symm⟩
      · obtain rfl : p = m := by omega
        have hfin := HL.out
        rw [show ws.drop p = [] from List.drop_eq_nil_of_le (by rw [← F1.out]; exact Nat.le_refl _), bestP, cpT, List.append_nil] at hfin
        have HFI := hid hfin
        clear hfin
        go_wp2_with fail
        go_ret2
        rw [HV.out]
        show ∃ A c, _ = Ending.returned (.tuple #[.slice A (bestV bs ws).length c, .bool true]) ∧ OwnR strS w.heap.size _ 9 (.slice A (bestV bs ws).length c) (bestV bs ws) ∧ _
        rw [← HFI.out]
        exact ⟨A5, c5, rfl, HO.out, HBE.out⟩
end Go.Proofs.Ythijnojefeeaoaa
