/- Tokens in memory; what tokensAt returns. -/
import Derived.Test.YthijnojefeeaoaaBriefB
import Derived.Test.YthijnojefeeaoaaBriefPure3
namespace Go.Proofs.Ythijnojefeeaoaa
open Go.RowKit Go.Shelf
attribute [local go_sem] Oper.semAt_some
def tokS : Shape Tok where
  sz := 3
  E := fun _ _ x f => f 0 = .int .i64 x.k ∧ f 1 = .int .i64 x.wd ∧ f 2 = .int .i64 x.co
  keep := fun _ _ _ _ _ _ h => h
  wide := fun _ _ _ _ _ _ h => h
  same := fun _ _ _ _ _ h e => ⟨by rw [← h 0 (by omega)]; exact e.1, by rw [← h 1 (by omega)]; exact e.2.1, by rw [← h 2 (by omega)]; exact e.2.2⟩
theorem tokS_flat : Shape.flat tokS := fun _ _ _ _ _ _ h => h
theorem eqD_comm {α : Type} [BEq α] [LawfulBEq α] (x y : α) : eqD x y = eqD y x := by
  by_cases h : x = y
  · rw [h]
  · rw [eqD_no h, eqD_no (Ne.symm h)]
theorem toks_cons_yes {k : Nat} {b : BriefT} {r : List BriefT} {ws : List ByteArray} (h : ahead b ws = true) : toks k (b :: r) ws = ⟨k, b.2.length, b.1.size⟩ :: toks (k + 1) r ws := by rw [toks, if_pos h]
theorem toks_cons_no {k : Nat} {b : BriefT} {r : List BriefT} {ws : List ByteArray} (h : ahead b ws = false) : toks k (b :: r) ws = toks (k + 1) r ws := by rw [toks, if_neg (by rw [h]; simp)]
theorem RdAt.tok {D : Nat → Prop} {w : World} {b off n : Nat} {l : List Tok} (h : RdAt tokS D w b off n l) {k : Nat} (hk : k < n) :
    w.cell? ⟨b, off + k * 3, none⟩ = some (.int .i64 (gt l k).k) ∧ w.cell? ⟨b, off + k * 3 + 1, none⟩ = some (.int .i64 (gt l k).wd) ∧ w.cell? ⟨b, off + k * 3 + 2, none⟩ = some (.int .i64 (gt l k).co) := by
  obtain ⟨f, hf, h0, h1, h2⟩ := h k hk
  have g0 := hf 0 (by show 0 < 3; omega)
  have g1 := hf 1 (by show 1 < 3; omega)
  have g2 := hf 2 (by show 2 < 3; omega)
  rw [h0] at g0
  rw [h1] at g1
  rw [h2] at g2
  exact ⟨g0, g1, g2⟩
set_option maxRecDepth 100000 in
set_option maxHeartbeats 2000000 in
theorem tokensAt_any (A : Option Addr) (n c b0 off0 m d p lo : Nat) (bs : List BriefT) (ws : List ByteArray) (w : World) (hx : Rd briefS lo w.heap.size w A n bs) (hy : Rd strS lo w.heap.size w (some ⟨b0, off0, none⟩) m ws) (hp : p < m) (hmd : m ≤ d) (hd63 : d ≤ 9223372036854775807) (hn8 : n ≤ 8) :
    Calls Try.prog 96 #[.agg #[.slice A n c, .slice (some ⟨b0, off0, none⟩) m d], .int .i64 p] w fun e w' => ∃ A' c', e = .returned (.slice A' (toks 0 bs (ws.drop p)).length c') ∧ OwnR tokS w.heap.size w' 68 (.slice A' (toks 0 bs (ws.drop p)).length c') (toks 0 bs (ws.drop p)) ∧ Below w.heap.size w w' := by
  obtain ⟨i0, hi1, hz0, hz1, hz2⟩ := info_parts (show (Try.prog.info? 68).map (fun i => (i.zero, i.size, i.bytes)) = some (some (.agg #[.int .i64 0, .int .i64 0, .int .i64 0]), 3, 24) by kernel_rfl)
  have HI := hid (And.intro hi1 (And.intro hz0 (And.intro hz1 hz2)))
  clear hi1 hz0 hz1 hz2
  have hc0 := heap_alloc_new w (.cells #[.slice A n c, .slice (some ⟨b0, off0, none⟩) m d] 62)
  have hb0 := bnew w (.cells #[.slice A n c, .slice (some ⟨b0, off0, none⟩) m d] 62)
  have HX := hid hx
  have HY := hid hy
  have E1 := hid hx.1
  have F1 := hid hy.1
  have hn63 := hx.2.1
  obtain ⟨R, hR⟩ : ∃ R, ws.drop p = R := ⟨_, rfl⟩
  rw [hR]
  have hRl : R.length = m - p := by rw [← hR, List.length_drop, ← F1.out]
  have HR := hid hR
  have HRL := hid hRl
  have hrr := hy.sub (i := p) (j := m) (by omega) (Nat.le_refl _) (some ⟨b0, off0 + p, none⟩) (fun b off e _ => by injection e with e; injection e with e1 e2 _; subst e1 e2; rw [show strS.sz = 1 from rfl, Nat.mul_one])
  rw [show ws.take m = ws by rw [F1.out]; exact List.take_length, hR] at hrr
  have HRR := hid hrr
  clear hx hy hR hRl hrr
  have HC0 := hid hc0
  have HB0 := hid hb0
  have ho0 := (((OwnR.nil (S := tokS) (e := 68) (base := w.heap.size + 1) (w := w.alloc (.cells #[.slice A n c, .slice (some ⟨b0, off0, none⟩) m d] 62)) (by simp) #[] rfl)))
  rw [World.size_alloc] at ho0
  have HO0 := hid ho0
  clear hc0 hb0 ho0
  go_enter Try.func96, Try.ntmps96
  go_wp2_with fail
  go_loopg [5, 7, 8, 9, 18] n (fun gk l5 _ _ _ i wr => ∃ (k : Nat) (A5 : Option Addr) (c5 : Nat) (l : List Tok), k + gk = n ∧ i = .int .i64 k ∧ l5 = .slice A5 l.length c5 ∧ OwnR tokS (w.heap.size + 1) wr 68 (.slice A5 l.length c5) l ∧ l ++ toks k (bs.drop k) R = toks 0 bs R ∧ l.length ≤ k ∧
    Below (w.heap.size + 1) (w.alloc (.cells #[.slice A n c, .slice (some ⟨b0, off0, none⟩) m d] 62)) wr)
  case atStart => exact ⟨0, _, _, [], Nat.zero_add _, rfl, rfl, HO0.out, rfl, Nat.le_refl _, by have := bnew (w.alloc (.cells #[.slice A n c, .slice (some ⟨b0, off0, none⟩) m d] 62)) (.cells #[] 68); rw [World.size_alloc] at this; exact this⟩
  case round =>
    clear HO0
    obtain ⟨k, A5, c5, l, hkg, rfl, rfl, hO, hl, hll, hb⟩ := hrel
    have HKG := hid hkg
    have HO := hid hO
    have HL := hid hl
    have HLL := hid hll
    have HB := hid hb
    have hk : k ≤ n := by omega
    have hwz := hb.size
    rw [World.size_alloc] at hwz
    have hbox := (hb.block w.heap.size (by omega)).trans HC0.out
    have HBOX := hid hbox
    have HBW := hid (HB0.out.trans (hb.mono (by omega)))
    clear hkg hO hl hll hb hbox
    by_cases hlt : k < n
    · have hki : (k : Int) < (n : Int) := by omega
      obtain ⟨b, off, rfl, _, hbb, hcx⟩ := HX.out.2.2 (by omega)
      obtain ⟨A1, c1, y0, y1, y2, _, y4⟩ := hcx.brief hlt
      have cx0 := bcl HBW.out y0
      have cx1 := bcl HBW.out y1
      have Y2 := hid y2
      have Y4 := hid (y4.bl HBW.out)
      have HD := hid (drop_gt (l := bs) (by rw [← E1.out]; exact hlt))
      obtain ⟨B1, hB1⟩ : ∃ B1, gt bs k = B1 := ⟨_, rfl⟩
      have hsz1 : B1.2.length ≤ 9223372036854775807 := by rw [← hB1]; exact y4.2.1
      rw [hB1] at cx0 cx1 Y2 Y4 HD
      have hba := bnew wr (.cells #[.string B1.1, .slice A1 B1.2.length c1] 31)
      have hna := heap_alloc_new wr (.cells #[.string B1.1, .slice A1 B1.2.length c1] 31)
      have HBA := hid hba
      have HNA := hid hna
      have Z1 := hid (World.size_alloc wr (.cells #[.string B1.1, .slice A1 B1.2.length c1] 31))
      obtain ⟨W1, hW1⟩ : ∃ W1, wr.alloc (.cells #[.string B1.1, .slice A1 B1.2.length c1] 31) = W1 := ⟨_, rfl⟩
      have z1 := World.size_alloc wr (.cells #[.string B1.1, .slice A1 B1.2.length c1] 31)
      rw [hW1] at hba hna z1
      have HBA := hid hba
      have HNA := hid hna
      have Z1 := hid z1
      have HW1 := hid hW1
      obtain ⟨q0, q1, _, _⟩ := at_get hna
      have Q0 := hid q0
      have Q1 := hid q1
      clear hcx y0 y1 y2 y4 hba hna hB1 hW1 z1 q0 q1
      by_cases hle : B1.2.length ≤ m - p
      case neg =>
        have hle2 : ¬ ((B1.2.length : Int) ≤ ((m - p : Nat) : Int)) := by omega
        have hah : ahead B1 R = false := by
          unfold ahead
          rw [decide_eq_false (by rw [HRL.out]; exact hle), Bool.false_and]
        have HAH := hid hah
        clear hah
        go_wp2_with fail
        rw [HW1.out]
        refine wp_region_aft (B := W1.heap.size) (w0 := W1) (Below.refl _ _) (by kernel_rfl) (by kernel_rfl) ?_
        repeat (go_big_quiet_step (fail))
        refine wpQuiet_nil ?_
        rintro _ ⟨⟨w2, hb2⟩, rfl⟩
        have HB2 := hid hb2
        clear hb2
        go_wp2_with fail
        go_roundg (gk - 1)
        case measure => have := HKG.out; omega
        case rel =>
          refine ⟨k + 1, A5, c5, l, by have := HKG.out; omega, by go_num, rfl, (HO.out.bl HBA.out).bl HB2.out, ?_, by have := HLL.out; omega, ?_⟩
          · rw [← HL.out, HD.out, toks_cons_no HAH.out]
          · exact HB.out.trans ((HBA.out.mono (by omega)).trans (HB2.out.mono (by have := Z1.out; omega)))
      case pos =>
        have hle2 : ((B1.2.length : Int) ≤ ((m - p : Nat) : Int)) := by omega
        have hsub := ((HRR.out.bl HBW.out).bl HBA.out).sub (i := 0) (j := B1.2.length) (Nat.zero_le _) hle (some ⟨b0, off0 + p, none⟩) (fun b off e _ => by injection e with e; injection e with e1 e2 _; subst e1 e2; rw [Nat.zero_mul, Nat.add_zero])
        rw [List.drop_zero, Nat.sub_zero] at hsub
        have hy4 := Y4.out.bl HBA.out
        have cy1 := aft_cell (B := W1.heap.size) (w0 := W1) (by have := Z1.out; omega) Q1.out
        have call : ∀ p1 : Aft W1.heap.size W1, Calls Try.prog 92 #[.slice A1 B1.2.length c1, .slice (some ⟨b0, off0 + p, none⟩) B1.2.length (d - p)] p1.val fun e w'' => e = .returned (.bool (eqD B1.2 (R.take B1.2.length))) ∧ ∃ q : Aft W1.heap.size W1, w'' = q.val :=
          fun p1 => aft_call (equalStrs_any _ _ _ _ _ _ lo lo _ _ _ ((hy4.below p1.prop (Nat.le_refl _)).wide (Nat.le_refl _) p1.prop.size) ((hsub.below p1.prop (Nat.le_refl _)).wide (Nat.le_refl _) p1.prop.size)) (Nat.le_refl _)
        have Hcall := hid call
        clear call hsub hy4
        have hah : ahead B1 R = eqD B1.2 (R.take B1.2.length) := by
          unfold ahead
          rw [decide_eq_true (by rw [HRL.out]; exact hle), Bool.true_and, eqD_comm]
        have HAH := hid hah
        clear hah
        go_wp2_with fail
        rw [HW1.out]
        refine wp_region_aft (B := W1.heap.size) (w0 := W1) (Below.refl _ _) (by kernel_rfl) (by kernel_rfl) ?_
        repeat (go_big_quiet_step ((go_at_call 92; exact Hcall.out _)))
        refine wpQuiet_nil ?_
        rintro _ ⟨⟨w2, hb2⟩, rfl⟩
        have HB2 := hid hb2
        have q0 := (hb2.cell (p := ⟨wr.heap.size, 0, none⟩) (by have := Z1.out; show wr.heap.size < _; omega)).trans Q0.out
        clear hb2 cy1
        obtain ⟨tk, htk⟩ : ∃ tk, eqD B1.2 (R.take B1.2.length) = tk := ⟨_, rfl⟩
        rw [htk]
        have hah := HAH.out
        rw [htk] at hah
        have HA2 := hid hah
        clear htk hah
        have HO2 := hid ((HO.out.bl HBA.out).bl HB2.out)
        have HB3 := hid (HB.out.trans ((HBA.out.mono (B' := w.heap.size + 1) (by omega)).trans (HB2.out.mono (B' := w.heap.size + 1) (by have := Z1.out; omega))))
        cases tk with
        | false =>
          go_wp2_with fail
          go_roundg (gk - 1)
          case measure => have := HKG.out; omega
          case rel => exact ⟨k + 1, A5, c5, l, by have := HKG.out; omega, by go_num, rfl, HO2.out, by rw [← HL.out, HD.out, toks_cons_no HA2.out], by have := HLL.out; omega, HB3.out⟩
        | true =>
          have hw2z := HB3.out.size
          rw [World.size_alloc] at hw2z
          go_wp2_with (at_builtin; refine wpList_append_R rfl (.tmp 38) (.tmp 45) _ rfl tokS Try.underlying65 HI.out rfl (by decide) rfl (HO2.out.al _) (y := ⟨k, B1.2.length, B1.1.size⟩) rfl (heap_alloc_new _ _) rfl (by simp [Value.oneCell']) ⟨rfl, rfl, rfl⟩ (by have := HLL.out; omega) (by have := HLL.out; omega) (by simp; omega) ?_; intro A6 c6 w3 hO3 hb3)
          go_roundg (gk - 1)
          case measure => have := HKG.out; omega
          case rel =>
            refine ⟨k + 1, A6, c6, l ++ [⟨k, B1.2.length, B1.1.size⟩], by have := HKG.out; omega, by go_num, by rw [List.length_append]; rfl, by rw [List.length_append]; exact hO3, ?_, by have := HLL.out; rw [List.length_append, List.length_singleton]; omega, ?_⟩
            · rw [← HL.out, HD.out, toks_cons_yes HA2.out, List.append_assoc]
              rfl
            · exact HB3.out.trans (((bnew _ _).mono hw2z).trans hb3)
    · obtain rfl : k = n := by omega
      have hr0 : 0 < R.length := by rw [HRL.out]; omega
      obtain ⟨b1, o1, he1, _, hbl1, hcy⟩ := (HRR.out.bl HBW.out).2.2 (by omega)
      injection he1 with he1
      injection he1 with he1 he2 _
      subst he1 he2
      obtain ⟨u0, u9⟩ := hcy.str (k := 0) (by omega)
      rw [Nat.add_zero] at u0
      have hl2 := HL.out
      rw [List.drop_eq_nil_of_le (by rw [← E1.out]; exact Nat.le_refl _), toks] at hl2
      have HL2 := hid hl2
      clear hcy hl2 hr0
      go_wp2_with (at_builtin; refine wpList_append_R rfl (.tmp 48) (.tmp 54) _ rfl tokS Try.underlying65 HI.out rfl (by decide) rfl (HO.out.al _) (y := ⟨-1, 1, (gt R 0).size⟩) rfl (heap_alloc_new _ _) rfl (by simp [Value.oneCell']) ⟨rfl, rfl, rfl⟩ (by have := HLL.out; omega) (by have := HLL.out; omega) (by simp; omega) ?_; intro A6 c6 w3 hO3 hb3)
      go_ret
      rw [← HL2.out, List.length_append]
      exact ⟨A6, c6, rfl, hO3.low (by omega), HBW.out.trans (((bnew wr _).mono (by omega)).trans (hb3.mono (by omega)))⟩
end Go.Proofs.Ythijnojefeeaoaa
