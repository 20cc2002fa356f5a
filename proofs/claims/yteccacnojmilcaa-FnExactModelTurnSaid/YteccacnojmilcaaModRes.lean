/- Models that a call returns, perhaps none; their marks. -/
import Derived.Test.YteccacnojmilcaaModNest
import Derived.Test.YteccacnojmilcaaTurnFns
namespace Go.Proofs.Yteccacnojmilcaa
open Go.RowKit
def RowN (lo K : Nat) (w : World) (A : Option Addr) (c : Nat) (l : List Int) : Prop :=
  (A = none ∧ c = 0 ∧ l = []) ∨ ∃ g, A = some ⟨g, 0, none⟩ ∧ RowAt w 3 (g, c, l) ∧ lo ≤ g ∧ g < K
/-- The model, in blocks from lo on and below hi. -/
structure ResM (lo K hi : Nat) (w : World) (A1 : Option Addr) (c1 : Nat) (A2 : Option Addr) (m c2 : Nat) (l : List Int) (rs : List RowD) : Prop where
  row : RowN lo K w A1 c1 l
  nest : NestR K hi w 34 3 (.slice A2 m c2) rs
  k1 : lo ≤ K
  k2 : K ≤ hi
  len : m = rs.length
  own : ∀ k, (Value.slice A2 m c2).ownBlock = some k → k < hi
def xsV (V : Option (List Int × List (List Int))) : List Int := (V.map (·.1)).getD []
def ysV (V : Option (List Int × List (List Int))) : List (List Int) := (V.map (·.2)).getD []
def okV (V : Option (List Int × List (List Int))) : Bool := V.isSome
theorem retM_res {w w' : World} {V : Option (List Int × List (List Int))} {e : Ending} (h : RetM w V e w') :
    ∃ A1 c1 A2 c2 rs K, e = .returned (.tuple #[.agg #[.slice A1 (xsV V).length c1, .slice A2 (ysV V).length c2], .bool (okV V)]) ∧ ResM w.heap.size K w'.heap.size w' A1 c1 A2 (ysV V).length c2 (xsV V) rs ∧ rs.map (·.2.2) = ysV V ∧ Below w.heap.size w w' := by
  cases V with
  | none =>
    obtain ⟨rfl, hb⟩ := h
    exact ⟨none, 0, none, 0, [], w.heap.size, rfl, ⟨.inl ⟨rfl, rfl, rfl⟩, NestR.nil0, Nat.le_refl _, hb.size, rfl, fun k hk => by cases hk⟩, rfl, hb⟩
  | some p =>
    obtain ⟨l, r⟩ := p
    obtain ⟨g, c, A, d, rs, rfl, h1, h2, h3, h4, hb⟩ := h
    have hl : rs.length = r.length := by rw [← h4, List.length_map]
    have hg := h1.lt
    exact ⟨_, c, A, d, rs, g + 1, rfl, ⟨.inr ⟨g, rfl, h1, h2, by omega⟩, h3, by omega, by omega, hl.symm, fun k hk => (h3.own.own_lt hk).2⟩, h4, hb⟩
section
variable {lo K hi m c1 c2 : Nat} {w w' : World} {A1 A2 : Option Addr} {l : List Int} {rs : List RowD}
theorem ResM.chg (h : ResM lo K hi w A1 c1 A2 m c2 l rs) {D : Nat → Prop} (hc : Chg D w w') (hd : ∀ k, D k → k < lo ∨ hi ≤ k) : ResM lo K hi w' A1 c1 A2 m c2 l rs := by
  have h1 := h.k1
  have h2 := h.k2
  refine ⟨?_, h.nest.keep hc (fun k hk hD => ?_) (fun r hr hD => ?_), h1, h2, h.len, h.own⟩
  · rcases h.row with e | ⟨g, e1, e2, e3, e4⟩
    · exact .inl e
    · exact .inr ⟨g, e1, e2.chg hc (fun hD => by have := hd g hD; omega), e3, e4⟩
  · have := (h.nest.own.own_lt hk).1
    have := h.own k hk
    have := hd k hD
    omega
  · have := h.nest.row r hr
    have := hd _ hD
    omega
theorem ResM.bl (h : ResM lo K hi w A1 c1 A2 m c2 l rs) (hb : Below w.heap.size w w') (hh : hi ≤ w.heap.size) : ResM lo K hi w' A1 c1 A2 m c2 l rs :=
  h.chg (chg_below hb) (fun k hk => by omega)
theorem ResM.rd1 (h : ResM lo K hi w A1 c1 A2 m c2 l rs) : Rd intS 0 w.heap.size w A1 l.length l := by
  rcases h.row with ⟨rfl, rfl, rfl⟩ | ⟨g, rfl, e2, _, _⟩
  · exact ⟨rfl, Nat.zero_le _, fun h0 => absurd h0 (by simp)⟩
  · exact e2.rd0 rfl
theorem ResM.rd2 (h : ResM lo K hi w A1 c1 A2 m c2 l rs) {r : List (List Int)} (hr : rs.map (·.2.2) = r) (hm : r.length ≤ 9223372036854775807) : Rd (sliceS intS) 0 w.heap.size w A2 m r := h.nest.rd0 hr hm
theorem ResM.rdm {k j : Int} {n : Nat} (h : ResM lo K hi w A1 c1 A2 m c2 (marksI k n) (markR j rs)) (hrs : rs.length ≤ 1048576) : Rd intS 0 w.heap.size w A1 n (marksI k n) ∧ Rd (sliceS intS) 0 w.heap.size w A2 m (marksSS j (lensR rs)) := by
  have h1 := h.rd1
  rw [marksI_len] at h1
  exact ⟨h1, h.rd2 (markR_lists _ _) (by rw [marksSS_length]; simp only [lensR, List.length_map]; omega)⟩
theorem turnV_bd (l : List Int) (r : List (List Int)) (x y : Int) : (xsV (turnV l r x y)).length ≤ 1048576 ∧ (ysV (turnV l r x y)).length ≤ 1048576 ∧ (∀ q ∈ ysV (turnV l r x y), q.length ≤ 1048576) ∧ sumLen ((ysV (turnV l r x y)).map List.length) ≤ 1048576 := by
  unfold turnV
  split
  · rename_i h
    rw [Bool.and_eq_true, Bool.and_eq_true, inB_yes, inB_yes] at h
    obtain ⟨h1, h2, h3, h4, h5⟩ := modelOk_yes h.1
    have hok := turn_ok (a := x.toNat) (b := y.toNat) h.1 (by omega) (by omega)
    obtain ⟨g1, g2, g3, g4, g5⟩ := modelOk_yes hok
    have hs : ∀ (q : List (List Int)), (∀ a ∈ q, a.length ≤ 6) → sumLen (q.map List.length) ≤ 6 * q.length := by
      intro q
      induction q with
      | nil => intro _; exact Nat.le_refl _
      | cons a q ih =>
        intro h
        have i1 := ih fun b hb => h b (List.mem_cons_of_mem _ hb)
        have i2 := h a (by simp)
        rw [List.map_cons, sumLen, List.length_cons]
        omega
    have g6 : ∀ a ∈ turnM x.toNat y.toNat r, a.length ≤ 6 := fun a ha => by
      have := (g5 a ha).1
      omega
    have g7 := hs _ g6
    refine ⟨?_, ?_, fun q hq => ?_, ?_⟩
    · show (turnI _ _ l).length ≤ _
      omega
    · show (turnM _ _ r).length ≤ _
      omega
    · have := g6 q hq
      omega
    · show sumLen ((turnM _ _ r).map List.length) ≤ _
      omega
  · exact ⟨Nat.zero_le _, Nat.zero_le _, (fun q hq => by cases hq), Nat.zero_le _⟩
end
set_option maxHeartbeats 1000000 in
theorem markRow_any (lo K c : Nat) (A : Option Addr) (l : List Int) (k0 : Int) (w : World) (h : RowN lo K w A c l) (hn : l.length ≤ 1048576) (h0 : 0 ≤ k0) (h1 : k0 ≤ 1099511627776) :
    Calls Try.prog 36 #[.slice A l.length c, .int .i64 k0] w fun r w' => r = .returned (.int .i64 (k0 + l.length)) ∧ RowN lo K w' A c (marksI k0 l.length) ∧ Chg (rng lo K) w w' := by
  rcases h with ⟨rfl, rfl, rfl⟩ | ⟨g, rfl, e2, e3, e4⟩
  · show Calls Try.prog 36 #[.slice none 0 0, .int .i64 k0] w _
    go_enter Try.func36, Try.ntmps36
    go_wp2_with fail
    go_loopg [1, 5] 0 (fun gk k i wr => i = .int .i64 0 ∧ k = .int .i64 k0 ∧ w = wr)
    case atStart => exact ⟨rfl, rfl, rfl⟩
    case round =>
      obtain ⟨rfl, rfl, rfl⟩ := hrel
      go_wp2_with fail
      go_ret
      exact ⟨ret_int (by simp), .inl ⟨rfl, rfl, rfl⟩, Chg.refl _ _⟩
  · refine (markIntS_row g l.length c _ l k0 w e2 rfl hn h0 h1).mono ?_
    rintro e w' ⟨rfl, hr, hc⟩
    exact ⟨rfl, .inr ⟨g, rfl, hr, e3, e4⟩, hc.wide fun k hk => by subst hk; exact ⟨e3, e4⟩⟩
set_option maxHeartbeats 1000000 in
theorem markModel_res (lo K hi m c1 c2 : Nat) (A1 A2 : Option Addr) (l : List Int) (rs : List RowD) (k0 : Int) (w : World) (h : ResM lo K hi w A1 c1 A2 m c2 l rs) (hh : hi ≤ w.heap.size) (hn : l.length ≤ 1048576) (hrs : rs.length ≤ 1048576) (hs : sumLen (lensR rs) ≤ 4194304) (hns : ∀ r ∈ rs, r.2.2.length ≤ 1048576) (h0 : 0 ≤ k0) (h1 : k0 ≤ 2097152) :
    Calls Try.prog 26 #[.agg #[.slice A1 l.length c1, .slice A2 m c2], .int .i64 k0] w fun r w' => r = .returned (.int .i64 (k0 + l.length + sumLen (lensR rs))) ∧ ResM lo K hi w' A1 c1 A2 m c2 (marksI k0 l.length) (markR (k0 + l.length) rs) ∧ Chg (rng lo hi) w w' := by
  have b0 := bnew w (.cells #[.slice A1 l.length c1, .slice A2 m c2] 41)
  have c0 := heap_alloc_new w (.cells #[.slice A1 l.length c1, .slice A2 m c2] 41)
  have h2 := h.bl b0 hh
  have HC0 := hid (chg_new w (.cells #[.slice A1 l.length c1, .slice A2 m c2] 41) (rng lo hi))
  have HNS := hid hns
  have hk1 := h.k1
  have hk2 := h.k2
  have HML := hid h.len
  have HOW := hid h.own
  have HR := hid h2.row
  have HN := hid h2.nest
  clear h h2 hns b0
  obtain ⟨n, hnn⟩ : ∃ n, l.length = n := ⟨_, rfl⟩
  have HNN := hid hnn
  rw [hnn] at hn ⊢ c0 HC0 HR HN
  clear hnn
  go_enter Try.func26, Try.ntmps26
  go_wp2_with fail
  generalize w.alloc (.cells #[.slice A1 n c1, .slice A2 m c2] 41) = w1 at *
  have hm1 := markRow_any lo K c1 A1 l k0 w1 HR.out (by rw [HNN.out]; exact hn) h0 (by omega)
  rw [HNN.out] at hm1
  refine hm1.mono ?_
  rintro e w2 ⟨rfl, hr2, hc2⟩
  clear hm1
  have cc := (hc2.block w.heap.size (Array.getElem?_eq_some_iff.1 c0).1 (fun hk => by have := hk.2; omega)).trans c0
  obtain ⟨k1, k2, _, _⟩ := at_get' cc
  have HN2 := hid (HN.out.keep hc2 (fun k hk hD => by have := (HN.out.own.own_lt hk).1; have := hD.2; omega) (fun r hr hD => by have := (HN.out.row r hr).1; have := hD.2; omega))
  have HC2 := hid (HC0.out.trans (hc2.wide fun b hb => ⟨hb.1, by have := hb.2; omega⟩))
  have HR2 := hid hr2
  have hs1 : IntKind.i64.wrap (k0 + (n : Int)) = k0 + n := IntWalk.i64_in _ (by omega)
  clear hc2 c0 cc hr2
  go_wp2_with fail
  refine (markIntSS_any _ _ _ _ _ _ _ rs (k0 + n) w2 HN2.out hrs hs HNS.out (by omega) (by omega)).mono ?_
  rintro e w3 ⟨rfl, hN3, hc3⟩
  go_wp2_with fail
  go_ret
  refine ⟨rfl, ⟨?_, hN3, hk1, hk2, by rw [markR_len]; exact HML.out, HOW.out⟩, HC2.out.trans (hc3.wide fun b hb => ⟨by have := hb.1; omega, hb.2⟩)⟩
  rcases HR2.out with e | ⟨g, e1, e2, e3, e4⟩
  · exact .inl e
  · exact .inr ⟨g, e1, e2.chg hc3 (fun hD => by have := hD.1; omega), e3, e4⟩
set_option maxHeartbeats 1000000 in
theorem heldModel_any (A1 A2 : Option Addr) (n m c1 c2 : Nat) (ns : List Nat) (k0 : Int) (w : World) (h1 : Rd intS 0 w.heap.size w A1 n (marksI k0 n)) (h2 : Rd (sliceS intS) 0 w.heap.size w A2 m (marksSS (k0 + n) ns)) (hn : n ≤ 1048576) (hs : sumLen ns ≤ 4194304) (hns : ∀ x ∈ ns, x ≤ 1048576) (h0 : 0 ≤ k0) (hk : k0 ≤ 2097152) :
    Calls Try.prog 27 #[.agg #[.slice A1 n c1, .slice A2 m c2], .int .i64 k0] w fun r w' => r = .returned (.int .i64 (k0 + n + sumLen ns)) ∧ Below w.heap.size w w' := by
  have b0 := bnew w (.cells #[.slice A1 n c1, .slice A2 m c2] 41)
  have c0 := heap_alloc_new w (.cells #[.slice A1 n c1, .slice A2 m c2] 41)
  have H1 := hid (h1.bl b0)
  have H2 := hid (h2.bl b0)
  have HNS := hid hns
  have HB0 := hid b0
  obtain ⟨k1, k2, _, _⟩ := at_get' c0
  clear h1 h2 hns b0 c0
  have hs1 : IntKind.i64.wrap (k0 + (n : Int)) = k0 + n := IntWalk.i64_in _ (by omega)
  have hg1 : ¬ (k0 + (n : Int) < 0) := by omega
  have hg2 : ¬ (k0 + (n : Int) + (sumLen ns : Int) < 0) := by omega
  go_enter Try.func27, Try.ntmps27
  go_wp2_with fail
  refine (heldIntS_any A1 n c1 0 k0 _ H1.out hn h0 (by omega)).mono ?_
  rintro e w' ⟨rfl, rfl⟩
  go_wp2_with fail
  refine (heldIntSS_any A2 m c2 0 ns (k0 + n) _ H2.out hs HNS.out (by omega) (by omega)).mono ?_
  rintro e w' ⟨rfl, rfl⟩
  go_wp2_with fail
  go_ret
  exact ⟨rfl, HB0.out⟩
end Go.Proofs.Yteccacnojmilcaa
