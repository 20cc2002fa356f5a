/- Bare words: what the program's WordBare returns. -/
import Derived.Test.YtigemahbopligaaWords2
import Derived.Laws.BytesArg
namespace Go.Proofs.Ytigemahbopligaa
open Go.RowKit
attribute [local go_sem] Oper.semAt_some
theorem OwnR.addr {α : Type} [Inhabited α] {S : Shape α} {base : Nat} {w : World} {e : TypeId} {A : Option Addr} {n c : Nat} {l : List α} (h : OwnR S base w e (.slice A n c) l) : (A = none ∧ n = 0) ∨ ∃ g, A = some ⟨g, 0, none⟩ := by
  obtain ⟨xs, ⟨hl, h2⟩, hx⟩ := h
  rcases h2 with ⟨h3, h0⟩ | ⟨g, cap, cur, h3, _⟩
  · injection h3 with a1 a2 a3
    exact .inl ⟨a1, a2⟩
  · injection h3 with a1 a2 a3
    exact .inr ⟨g, a1⟩
theorem byteS_flat : Shape.flat byteS := fun _ _ _ _ _ _ h => h
theorem conv_own {base n c : Nat} {w : World} {A : Option Addr} {acc : List UInt8} (h : OwnR byteS base w 5 (.slice A n c) acc) (hm : acc.length ≤ 9223372036854775807) :
    (convert 33 9 (.slice A n c)).run Try.prog w = .ok (.string ⟨acc.toArray⟩) w := by
  obtain ⟨hn, hr⟩ := h.rd hm
  rcases h.addr with ⟨rfl, h0⟩ | ⟨g, rfl⟩
  · subst h0
    have : acc = [] := List.length_eq_zero_iff.1 hn.symm
    subst this
    exact run_convert_bytes_nil w 33 5 Try.underlying33 Try.underlying5 0 c 9 Try.underlying9
  · have e : strOfNums (acc.map fun x => (x.toNat : Int)) = ⟨acc.toArray⟩ := by
      unfold strOfNums
      congr 2
      rw [List.map_map]
      conv => rhs; rw [← List.map_id acc]
      apply List.map_congr_left
      intro x _
      simp
    rw [← e]
    refine run_convert_bytes_arg w 33 5 Try.underlying33 Try.underlying5 g 0 n c _ (by rw [List.length_map]; exact hn.symm) (fun i hi => ?_) 9 Try.underlying9
    obtain ⟨b, off, hA, _, _, hc⟩ := hr.2.2 (by omega)
    injection hA with hA
    injection hA with h1 h2 _
    subst h1 h2
    rw [hc.byte hi]
    congr 2
    have hil : i < acc.length := by omega
    rw [gt_eq hil, List.getD_eq_getElem?_getD, List.getElem?_map, List.getElem?_eq_getElem hil]
    rfl
set_option maxRecDepth 100000 in
set_option maxHeartbeats 2000000 in
theorem implWordBare_any (s : ByteArray) (w : World) (hs : s.size ≤ 9223372036854775807) :
    Calls Try.prog 95 #[.string s] w fun e w' => e = .returned (.string (bareV s)) ∧ Below w.heap.size w w' := by
  obtain ⟨i0, hi1, hz0, hz1, hz2⟩ := info_parts (show (Try.prog.info? 5).map (fun i => (i.zero, i.size, i.bytes)) = some (some (.int .u8 0), 1, 1) by kernel_rfl)
  have HI := hid (And.intro hi1 (And.intro hz0 (And.intro hz1 hz2)))
  clear hi1 hz0 hz1 hz2
  have HWV := fun w => implWordValid_any s w hs
  obtain ⟨ok, hok⟩ : ∃ ok, wordOk s = ok := ⟨_, rfl⟩
  rw [hok] at HWV
  have HW := hid HWV
  have HOK := hid hok
  clear HWV
  cases ok with
  | false =>
    have HV := hid (bareV_no hok)
    clear hok
    go_enter Try.func95, Try.ntmps95
    go_wp2_with fail
    refine (HW.out _).mono ?_
    rintro e w1 ⟨rfl, rfl⟩
    go_wp2_with fail
    go_ret
    exact ⟨by rw [HV.out]; rfl, Below.refl _ _⟩
  | true =>
    have HBL := hid (bareL_ok hok)
    have hsz := wordOk_size hok
    clear hok
    go_enter Try.func95, Try.ntmps95
    go_wp2_with fail
    refine (HW.out _).mono ?_
    rintro e w1 ⟨rfl, rfl⟩
    have ON := hid (show OwnR byteS w.heap.size (w.alloc (.cells #[] 5)) 5 (.slice (some ⟨w.heap.size, 0, none⟩) 0 0) [] from OwnR.nil (Nat.le_refl _) #[] rfl)
    go_wp2_with fail
    go_loopg [3, 4, 11] s.size (fun gk v _ i wr => ∃ (k : Nat) (A5 : Option Addr) (c5 : Nat) (acc : List UInt8), k + gk = s.size ∧ i = .int .i64 k ∧ v = .slice A5 acc.length c5 ∧ OwnR byteS w.heap.size wr 5 (.slice A5 acc.length c5) acc ∧ bareL s = acc ++ bareFrom (prevB s.data.toList k) (s.data.toList.drop k) ∧ acc.length ≤ k ∧ Below w.heap.size w wr)
    case atStart => exact ⟨0, _, _, [], Nat.zero_add _, rfl, rfl, ON.out, by rw [HBL.out]; rfl, Nat.zero_le _, bnew w _⟩
    case round =>
      clear ON
      obtain ⟨k, A5, c5, acc, hkg, rfl, rfl, hO, hbl, hac, hb⟩ := hrel
      have HKG := hid hkg
      have HB := hid hb
      have HA := hid hbl
      have HO := hid hO
      have hk : k ≤ s.size := by omega
      clear hkg hb hbl hO
      by_cases hlt : k < s.size
      · have hlti : (k : Int) < (s.size : Int) := by omega
        have HST := hid (bare_step hlt)
        have hgb := gt_byte hlt
        obtain ⟨c, hc⟩ : ∃ c, gt s.data.toList k = c := ⟨_, rfl⟩
        rw [hc] at hgb HST
        have hvc := fun w1 => isVowel_any c w1
        rw [hgb] at hvc
        obtain ⟨v, hv⟩ : ∃ v, vowB c = v := ⟨_, rfl⟩
        have hv2 : vowB (s[k]'hlt) = v := by rw [← hgb]; exact hv
        rw [hv2] at hvc
        have Hcall := hid (fun pp : Aft wr.heap.size wr => aft_same (hvc pp.val))
        have HC := hid hc
        have HG := hid hgb
        have HVW := hid hv
        clear hc hgb hv hvc hv2
        cases v with
        | true =>
          have HSK := hid (show skipB s k = true by unfold skipB; rw [HC.out, HVW.out, Bool.true_or])
          go_wp2_with fail
          refine wp_region_aft (B := wr.heap.size) (w0 := wr) (Below.refl _ _) (by kernel_rfl) (by kernel_rfl) ?_
          repeat (go_big_quiet_step ((go_at_call 100; exact Hcall.out _)))
          refine wpQuiet_nil ?_
          rintro w3 ⟨⟨w4, hb4⟩, hw4⟩
          have hw5 : w3 = w4 := hw4
          clear hw4
          subst hw5
          have HB4 := hid (btr HB.out hb4)
          have HO4 := hid (HO.out.bl hb4)
          have hbz4 := HB4.out.size
          clear hb4
          go_wp2_with fail
          go_roundg (gk - 1)
          case measure => have := HKG.out; omega
          case rel => exact ⟨k + 1, A5, c5, acc, by have := HKG.out; omega, by go_num, rfl, HO4.out, by rw [HA.out, HST.out, HSK.out]; rfl, by omega, HB4.out⟩
        | false =>
          rcases Nat.eq_zero_or_pos k with hk0 | hkp
          · have HSK := hid (show skipB s k = false by subst hk0; unfold skipB; rw [HC.out, HVW.out]; rfl)
            have hk0i : ¬ (0 : Int) < (k : Int) := by omega
            have hkd : decide (0 < k) = false := decide_eq_false (by omega)
            clear hk0
            go_wp2_with fail
            refine wp_region_aft (B := wr.heap.size) (w0 := wr) (Below.refl _ _) (by kernel_rfl) (by kernel_rfl) ?_
            repeat (go_big_quiet_step ((go_at_call 100; exact Hcall.out _)))
            refine wpQuiet_nil ?_
            rintro w3 ⟨⟨w4, hb4⟩, hw4⟩
            have hw5 : w3 = w4 := hw4
            clear hw4
            subst hw5
            have HB4 := hid (btr HB.out hb4)
            have HO4 := hid (HO.out.bl hb4)
            have hbz4 := HB4.out.size
            clear hb4
            go_wp2_with (at_builtin; go_loud (refine wpList_append_R rfl (.tmp 32) (.tmp 36) _ rfl byteS Try.underlying33 HI.out rfl (by decide) rfl (HO4.out.al _) (y := c) rfl (heap_alloc_new _ _) rfl (by simp [Value.oneCell']) (by show Value.int .u8 _ = Value.int .u8 _; rw [HG.out]) (by omega) (by omega) (by simp; omega) ?_; intro A6 c6 w6 hO6 hb6))
            have HO6 := hid hO6
            have HB6 := hid (HB4.out.trans (((bnew w3 _).mono hbz4).trans hb6))
            clear hO6 hb6
            go_wp2_with fail
            go_roundg (gk - 1)
            case measure => have := HKG.out; omega
            case rel => exact ⟨k + 1, A6, c6, acc ++ [c], by have := HKG.out; omega, by go_num, by rw [List.length_append]; rfl, by rw [List.length_append]; exact HO6.out, by rw [HA.out, HST.out, HSK.out, List.append_assoc]; rfl, by rw [List.length_append]; show acc.length + 1 ≤ k + 1; omega, HB6.out⟩
          · obtain ⟨j, hkj⟩ : ∃ j, k = j + 1 := ⟨k - 1, by omega⟩
            have hpk : prevB s.data.toList k = some (gt s.data.toList j) := by rw [hkj]; rfl
            have hkd : decide (0 < k) = true := decide_eq_true hkp
            have hwj : IntKind.i64.wrap ((k : Int) - 1) = (j : Int) := by rw [show (k : Int) - 1 = (j : Int) by omega]; exact IntWalk.i64_in _ (by omega)
            have hjl : j < s.size := by omega
            have hgj := gt_byte hjl
            by_cases hp : s[j]'hjl = c
            · have HSK := hid (show skipB s k = true by
                unfold skipB
                rw [hpk, HC.out, hgj, hp]
                simp)
              have hnq : (((s[k]'hlt).toNat : Int) == ((s[j]'hjl).toNat : Int)) = true := by rw [← HG.out, hp]; simp
              clear hp hgj hkp hkj hpk
              go_wp2_with fail
              refine wp_region_aft (B := wr.heap.size) (w0 := wr) (Below.refl _ _) (by kernel_rfl) (by kernel_rfl) ?_
              repeat (go_big_quiet_step ((go_at_call 100; exact Hcall.out _)))
              refine wpQuiet_nil ?_
              rintro w3 ⟨⟨w4, hb4⟩, hw4⟩
              have hw5 : w3 = w4 := hw4
              clear hw4
              subst hw5
              have HB4 := hid (btr HB.out hb4)
              have HO4 := hid (HO.out.bl hb4)
              have hbz4 := HB4.out.size
              clear hb4
              go_wp2_with fail
              go_roundg (gk - 1)
              case measure => have := HKG.out; omega
              case rel => exact ⟨k + 1, A5, c5, acc, by have := HKG.out; omega, by go_num, rfl, HO4.out, by rw [HA.out, HST.out, HSK.out]; rfl, by omega, HB4.out⟩
            · have HSK := hid (show skipB s k = false by
                unfold skipB
                rw [hpk, HC.out, hgj, HVW.out]
                simp only [Option.some.injEq, Bool.false_or, decide_eq_false_iff_not]
                exact hp)
              have hnq : (((s[k]'hlt).toNat : Int) == ((s[j]'hjl).toNat : Int)) = false := by
                rw [← HG.out]
                simp only [beq_eq_false_iff_ne, ne_eq]
                intro e
                exact hp (UInt8.toNat_inj.1 (by omega))
              clear hp hgj hkp hkj hpk
              go_wp2_with fail
              refine wp_region_aft (B := wr.heap.size) (w0 := wr) (Below.refl _ _) (by kernel_rfl) (by kernel_rfl) ?_
              repeat (go_big_quiet_step ((go_at_call 100; exact Hcall.out _)))
              refine wpQuiet_nil ?_
              rintro w3 ⟨⟨w4, hb4⟩, hw4⟩
              have hw5 : w3 = w4 := hw4
              clear hw4
              subst hw5
              have HB4 := hid (btr HB.out hb4)
              have HO4 := hid (HO.out.bl hb4)
              have hbz4 := HB4.out.size
              clear hb4
              go_wp2_with (at_builtin; go_loud (refine wpList_append_R rfl (.tmp 32) (.tmp 36) _ rfl byteS Try.underlying33 HI.out rfl (by decide) rfl (HO4.out.al _) (y := c) rfl (heap_alloc_new _ _) rfl (by simp [Value.oneCell']) (by show Value.int .u8 _ = Value.int .u8 _; rw [HG.out]) (by omega) (by omega) (by simp; omega) ?_; intro A6 c6 w6 hO6 hb6))
              have HO6 := hid hO6
              have HB6 := hid (HB4.out.trans (((bnew w3 _).mono hbz4).trans hb6))
              clear hO6 hb6
              go_wp2_with fail
              go_roundg (gk - 1)
              case measure => have := HKG.out; omega
              case rel => exact ⟨k + 1, A6, c6, acc ++ [c], by have := HKG.out; omega, by go_num, by rw [List.length_append]; rfl, by rw [List.length_append]; exact HO6.out, by rw [HA.out, HST.out, HSK.out, List.append_assoc]; rfl, by rw [List.length_append]; show acc.length + 1 ≤ k + 1; omega, HB6.out⟩
      · obtain rfl : k = s.size := by omega
        have hni : ¬ (s.size : Int) < (s.size : Int) := by omega
        have hcv := conv_own HO.out (by omega)
        have h1 := HA.out
        rw [size_len, List.drop_length] at h1
        have HF := hid (show bareV s = ⟨acc.toArray⟩ by unfold bareV; rw [h1]; simp [bareFrom])
        clear h1
        go_wp2_with fail
        go_ret
        exact ⟨by rw [HF.out]; rfl, HB.out⟩
end Go.Proofs.Ytigemahbopligaa
