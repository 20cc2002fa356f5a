/- The tokens of the best copy; what the program's CopyBest returns. -/
import Derived.Test.YthijnojefeeaoaaCopy2
namespace Go.Proofs.Ythijnojefeeaoaa
open Go.RowKit Go.Shelf
attribute [local go_sem] Oper.semAt_some
/-- The first token of each place goes on within the speech. -/
theorem first_fit {a c : Int} {wt : Tok → Int} (hw : ∀ t : Tok, wt t = a * t.co + c) {bs : List BriefT} (hb : ∀ b ∈ bs, 1 ≤ b.2.length) {ws : List ByteArray} {p : Nat} (hp : p < ws.length) :
    1 ≤ (gt (least wt bs ws).1 p).wd ∧ p + (gt (least wt bs ws).1 p).wd ≤ ws.length := by
  have h1 : gt (least wt bs ws).1 p = gt (least wt bs (ws.drop p)).1 0 := by rw [← least_drop, gt_drop, Nat.add_zero]
  have h2 := drop_gt hp
  have h3 := first_way hw hb (gt ws p) (ws.drop (p + 1))
  rw [← h2] at h3
  have hl : (ws.drop p).length = ws.length - p := List.length_drop ..
  rw [h1]
  cases hk : pickB a c bs (ws.drop p) with
  | none =>
    rw [hk] at h3
    dsimp only at h3
    rw [h3]
    show 1 ≤ 1 ∧ p + 1 ≤ _
    omega
  | some b =>
    rw [hk] at h3
    dsimp only at h3
    obtain ⟨j, _, _, h4⟩ := h3
    obtain ⟨h5, h6, _⟩ := pick_some hk
    have h7 := hb b h5
    have h8 := ahead_len h6
    rw [h4]
    show 1 ≤ b.2.length ∧ p + b.2.length ≤ _
    omega
theorem follow_step {fs : List Tok} {p : Nat} (hp : p < fs.length) (hw : 1 ≤ (gt fs p).wd) : follow (fs.drop p) = gt fs p :: follow (fs.drop (p + (gt fs p).wd)) := by
  rw [drop_gt hp, follow, List.drop_drop]
  congr 3
  omega
theorem follow_nil {fs : List Tok} {p : Nat} (hp : fs.length ≤ p) : follow (fs.drop p) = [] := by rw [List.drop_eq_nil_of_le hp, follow]
set_option maxRecDepth 100000 in
set_option maxHeartbeats 2000000 in
theorem best_any (A B : Option Addr) (n c m d : Nat) (bs : List BriefT) (ws : List ByteArray) (w : World) (hmd : m ≤ d) (hd63 : d ≤ 9223372036854775807) (hx : Rd briefS 0 w.heap.size w A n bs) (hy : Rd strS 0 w.heap.size w B m ws) (hdo : deskOk bs ws = true) :
    Calls Try.prog 61 #[.agg #[.slice A n c, .slice B m d]] w fun e w' => ∃ A' c', e = .returned (.slice A' (copyT coT bs ws).length c') ∧ OwnR tokS w.heap.size w' 68 (.slice A' (copyT coT bs ws).length c') (copyT coT bs ws) ∧ Below w.heap.size w w' := by
  obtain ⟨i0, hi1, hz0, hz1, hz2⟩ := info_parts (show (Try.prog.info? 68).map (fun i => (i.zero, i.size, i.bytes)) = some (some (.agg #[.int .i64 0, .int .i64 0, .int .i64 0]), 3, 24) by kernel_rfl)
  have HI := hid (And.intro hi1 (And.intro hz0 (And.intro hz1 hz2)))
  obtain ⟨hn8, hm20, hwd, hms, hws⟩ := desk_len hdo
  have hb : ∀ b ∈ bs, 1 ≤ b.2.length := fun b hb => (hwd b hb).1
  have E1 := hid hx.1
  have F1 := hid hy.1
  rw [← E1.out] at hn8
  rw [← F1.out] at hm20
  have hwt : ∀ p, p < m → ∀ t ∈ toks 0 bs (ws.drop p), 0 ≤ coT t ∧ coT t ≤ 12 := fun p hp t ht => by
    have := toks_co 0 bs (ws.drop p) hms (by rw [gt_drop, Nat.add_zero]; exact hws _ (gt_mem (by rw [← F1.out]; exact hp))) t ht
    unfold coT
    omega
  have HX := hid hx
  have HY := hid hy
  have HcoT := hid hwt
  have HBB := hid hb
  have hb0 := bnew w (.cells #[.slice A n c, .slice B m d] 62)
  have hn0 := heap_alloc_new w (.cells #[.slice A n c, .slice B m d] 62)
  have z0 := World.size_alloc w (.cells #[.slice A n c, .slice B m d] 62)
  obtain ⟨k0, k1, _, _⟩ := at_get hn0
  have HB0 := hid hb0
  have HN0 := hid hn0
  have Z0 := hid z0
  have HLL := hid ((least_len coT bs ws).1)
  clear hx hy hi1 hz0 hz1 hz2 hwd hms hws hwt hb hdo hb0 hn0 z0
  go_enter Try.func61, Try.ntmps61
  go_wp2_with fail
  refine (least_any (wf := 65) (wt := coT) (enters_of Try.func65 (by kernel_rfl) rfl) A B n c m d bs ws _ (HX.out.bl HB0.out) (HY.out.bl HB0.out) hmd hd63 hn8 hm20 HBB.out HcoT.out (fun t W' => tokenCost_any t W')).mono ?_
  rintro e w2 ⟨F, G, rfl, hF, hG, hb2⟩
  obtain ⟨fs, hfs⟩ : ∃ fs, (least coT bs ws).1 = fs := ⟨_, rfl⟩
  have HFIT := hid (show ∀ p, p < m → 1 ≤ (gt fs p).wd ∧ p + (gt fs p).wd ≤ m from fun p hp => by
    rw [← hfs, F1.out]
    exact first_fit coT_is HBB.out (by rw [← F1.out]; exact hp))
  have HV := hid (show copyT coT bs ws = follow fs by unfold copyT; rw [hfs])
  have HFL := hid (show fs.length = m by rw [← hfs, HLL.out, F1.out])
  rw [hfs] at hF
  have HN2 := hid ((hb2.block w.heap.size (by rw [Z0.out]; omega)).trans HN0.out)
  have HF := hid hF
  have hz2 := hb2.size
  rw [World.size_alloc] at hz2
  have HB2 := hid (btr HB0.out hb2)
  have HO0 := hid (OwnR.nil (S := tokS) (e := 68) (base := w2.heap.size) (w := w2) (Nat.le_refl _) #[] rfl)
  have HBN := hid (bnew w2 (.cells #[] 68))
  clear k0 k1 hF hG hb2 hfs HLL
  go_wp2_with fail
  go_loopg [5, 6] m (fun gk l5 i wr => ∃ (p : Nat) (A5 : Option Addr) (c5 : Nat) (l : List Tok), p + gk = m ∧ i = .int .i64 p ∧ l5 = .slice A5 l.length c5 ∧ OwnR tokS w2.heap.size wr 68 (.slice A5 l.length c5) l ∧ l ++ follow (fs.drop p) = follow fs ∧ l.length ≤ p ∧ Below w2.heap.size w2 wr)
  case atStart => exact ⟨0, _, _, [], Nat.zero_add _, rfl, rfl, HO0.out, rfl, Nat.le_refl _, HBN.out⟩
  case round =>
    clear HO0
    obtain ⟨p, A5, c5, l, hpg, rfl, rfl, hO, hl, hll, hbr⟩ := hrel
    have HPG := hid hpg
    have HO := hid hO
    have HL := hid hl
    have HB5 := hid hbr
    have hp : p ≤ m := by omega
    have hwz := hbr.size
    have hbox := (hbr.block w.heap.size (by omega)).trans HN2.out
    obtain ⟨k0, k1, _, _⟩ := at_get hbox
    have HF5 := hid (HF.out.bl hbr)
    clear hpg hO hl hbr hbox
    by_cases hlt : p < m
    · have hpi : (p : Int) < (m : Int) := by omega
      obtain ⟨bb, ob, he, _, hbb, hcx⟩ := HF5.out.2.2 (by omega)
      injection he with he
      injection he with he1 he2 _
      subst he1 he2
      obtain ⟨t0, t1, t2⟩ := hcx.tok hlt
      obtain ⟨hf1, hf2⟩ := HFIT.out p hlt
      have HST := hid (follow_step (fs := fs) (p := p) (by rw [HFL.out]; exact hlt) hf1)
      obtain ⟨t, ht⟩ : ∃ t, gt fs p = t := ⟨_, rfl⟩
      rw [ht] at t0 t1 t2 hf1 hf2 HST
      rw [Nat.zero_add] at t0 t1 t2
      have hFl : F < w2.heap.size := by
        obtain ⟨b', o', he, _, h, _⟩ := HF.out.2.2 (by omega)
        injection he with he
        injection he with he1 _ _
        rw [he1]
        exact h
      clear hcx ht
      have hwp : IntKind.i64.wrap ((p : Int) + (t.wd : Int)) = ((p + t.wd : Nat) : Int) := by
        rw [show (p : Int) + (t.wd : Int) = ((p + t.wd : Nat) : Int) by omega]
        exact IntWalk.i64_in _ (by omega)
      have HWP := hid hwp
      have HT1 := hid t1
      clear hwp
      go_wp2_with (at_builtin; refine wpList_append_R rfl (.tmp 25) (.tmp 30) _ rfl tokS Try.underlying65 HI.out rfl (by decide) rfl (HO.out.al _) (y := t) rfl (heap_alloc_new _ _) rfl (by simp [Value.oneCell']) ⟨rfl, rfl, rfl⟩ (by omega) (by omega) (by simp; omega) ?_; intro A6 c6 w3 hO3 hb3; have t3 := (hb3.cell (p := ⟨F, p * 3 + 1, none⟩) hFl).trans (((bnew wr (.cells #[.int .i64 t.k, .int .i64 t.wd, .int .i64 t.co] 68)).cell (p := ⟨F, p * 3 + 1, none⟩) hbb).trans HT1.out); have hwp := HWP.out)
      go_roundg (gk - t.wd)
      case measure => have := HPG.out; omega
      case rel =>
        refine ⟨p + t.wd, A6, c6, l ++ [t], by have := HPG.out; omega, rfl, by rw [List.length_append]; rfl, by rw [List.length_append]; exact hO3, ?_, by rw [List.length_append, List.length_singleton]; omega, ?_⟩
        · rw [← HL.out, HST.out, List.append_assoc]
          rfl
        · exact HB5.out.trans ((bnew wr _).mono hwz |>.trans (hb3.mono (by omega)))
    · obtain rfl : p = m := by omega
      have hfin := HL.out
      rw [follow_nil (by rw [HFL.out]; exact Nat.le_refl _), List.append_nil] at hfin
      have HFI := hid hfin
      clear hfin
      go_wp2_with fail
      go_ret
      rw [HV.out, ← HFI.out]
      exact ⟨A5, c5, rfl, HO.out.low (by omega), btr HB2.out HB5.out⟩
end Go.Proofs.Ythijnojefeeaoaa
