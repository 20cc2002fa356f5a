/- Lists of texts and of briefs: what the laws' helpers on them do. -/
import Derived.Test.YtigemahbopligaaLib
import Derived.Test.YtigemahbopligaaOwn
import Derived.Test.YtigemahbopligaaBriefPure
import Derived.Test.YtigemahbopligaaProg
namespace Go.Proofs.Ytigemahbopligaa
open Go.RowKit
theorem RdAt.brief {lo hi : Nat} {w : World} {b off n : Nat} {l : List BriefT} (h : RdAt briefS (rng lo hi) w b off n l) {k : Nat} (hk : k < n) :
    ∃ A c, w.cell? ⟨b, off + k * 2, none⟩ = some (.string (gt l k).1) ∧ w.cell? ⟨b, off + k * 2 + 1, none⟩ = some (.slice A (gt l k).2.length c) ∧ (gt l k).1.size ≤ 9223372036854775807 ∧ (gt l k).2.length ≤ c ∧ Rd strS lo hi w A (gt l k).2.length (gt l k).2 := by
  obtain ⟨f, hf, ⟨h1, h2⟩, A, c, h3, h4, h5⟩ := h k hk
  have h0 := hf 0 (by show 0 < 2; omega)
  have h6 := hf 1 (by show 1 < 2; omega)
  rw [h1] at h0
  rw [show f 1 = _ from h3] at h6
  exact ⟨A, c, h0, h6, h2, h4, Rd_iff.2 h5⟩
def szT : List ByteArray → Int → Int
  | [], l => l
  | s :: r, l => if l - s.size < 0 then -1 else szT r (l - s.size)
def szStr (ws : List ByteArray) (left : Int) : Int := if left - ws.length < 0 then -1 else szT ws (left - ws.length)
def szB (b : BriefT) (left : Int) : Int := if left - b.1.size < 0 then -1 else szStr b.2 (left - b.1.size)
def szBG : List BriefT → Int → Int
  | [], l => l
  | b :: r, l => if szB b l < 0 then -1 else szBG r (szB b l)
def szBS (bs : List BriefT) (left : Int) : Int := if left - bs.length < 0 then -1 else szBG bs (left - bs.length)
theorem szT_ub : ∀ (ws : List ByteArray) (l : Int), 0 ≤ l → szT ws l ≤ l ∧ -1 ≤ szT ws l
  | [], l, h => ⟨Int.le_refl _, by show -1 ≤ l; omega⟩
  | s :: r, l, h => by
    rw [szT]
    split
    · omega
    · have := szT_ub r (l - s.size) (by omega)
      omega
theorem szStr_ub {ws : List ByteArray} {l : Int} (h : 0 ≤ l) : szStr ws l ≤ l ∧ -1 ≤ szStr ws l := by
  unfold szStr
  split
  · omega
  · have := szT_ub ws (l - ws.length) (by omega)
    omega
theorem szB_ub {b : BriefT} {l : Int} (h : 0 ≤ l) : szB b l ≤ l ∧ -1 ≤ szB b l := by
  unfold szB
  split
  · omega
  · have := szStr_ub (ws := b.2) (l := l - b.1.size) (by omega)
    omega
theorem szBG_ub : ∀ (bs : List BriefT) (l : Int), 0 ≤ l → szBG bs l ≤ l ∧ -1 ≤ szBG bs l
  | [], l, h => ⟨Int.le_refl _, by show -1 ≤ l; omega⟩
  | b :: r, l, h => by
    rw [szBG]
    have h1 := szB_ub (b := b) h
    split
    · omega
    · have := szBG_ub r (szB b l) (by omega)
      omega
theorem szBS_ub {bs : List BriefT} {l : Int} (h : 0 ≤ l) : szBS bs l ≤ l ∧ -1 ≤ szBS bs l := by
  unfold szBS
  split
  · omega
  · have := szBG_ub bs (l - bs.length) (by omega)
    omega
/-! What a size that is allowed says. -/
theorem szStr_len {ws : List ByteArray} {l : Int} (_h0 : 0 ≤ l) (h : 0 ≤ szStr ws l) : (ws.length : Int) ≤ l := by
  unfold szStr at h
  split at h
  · omega
  · omega
theorem szBG_len : ∀ (bs : List BriefT) (l : Int), 0 ≤ l → 0 ≤ szBG bs l → ∀ b ∈ bs, (b.2.length : Int) ≤ l
  | [], l, _, _, b, hb => by cases hb
  | x :: r, l, h0, h, b, hb => by
    rw [szBG] at h
    split at h
    · omega
    · rename_i h1
      have h2 := szB_ub (b := x) h0
      rcases List.mem_cons.1 hb with rfl | hb
      · unfold szB at h1
        split at h1
        · omega
        · have := szStr_len (ws := b.2) (l := l - b.1.size) (by omega) (by omega)
          omega
      · have := szBG_len r (szB x l) (by omega) h b hb
        omega
theorem szBS_len {bs : List BriefT} {l : Int} (_h0 : 0 ≤ l) (h : 0 ≤ szBS bs l) : (bs.length : Int) ≤ l ∧ ∀ b ∈ bs, (b.2.length : Int) ≤ l := by
  unfold szBS at h
  split at h
  · omega
  · refine ⟨by omega, fun b hb => ?_⟩
    have := szBG_len bs _ (by omega) h b hb
    omega
set_option maxHeartbeats 400000 in
theorem toStringS_any (A : Option Addr) (n c lo : Nat) (xs : List ByteArray) (w : World) (hx : Rd strS lo w.heap.size w A n xs) (hn : n ≤ 1048576) :
    Calls Try.prog 35 #[.slice A n c] w fun e w' => ∃ g, e = .returned (.slice (some ⟨g, 0, none⟩) n n) ∧ Rd strS w.heap.size w'.heap.size w' (some ⟨g, 0, none⟩) n xs ∧ Below w.heap.size w w' := by
  obtain ⟨i0, hi, hz0, hz1, hz2⟩ := info_parts (show (Try.prog.info? 9).map (fun i => (i.zero, i.size, i.bytes)) = some (some (.string ByteArray.empty), 1, 16) by kernel_rfl)
  have hmk := fun w => make_rule (P := Try.prog) Try.underlying45 hi hz0 hz1 hz2 (n := n) (by omega) (by omega) w
  have F0 := fun w => Filled.new strS w.heap.size w.heap.size w 9 (madeCells #[Value.string ByteArray.empty] n) xs (by rw [size_madeCells, ← hx.1]; show n = n * 1; omega) (by have := hx.1; omega)
  obtain ⟨e1, e2, e3⟩ := hx
  have E1 := hid e1; clear e1
  have E3 := hid e3; clear e3
  clear hi hz0 hz1 hz2
  go_enter Try.func35, Try.ntmps35
  go_wp2
  clear hmk
  go_loopw [4] (fun i wr => ∃ k : Nat, k ≤ n ∧ i = .int .i64 k ∧ Filled strS w.heap.size w.heap.size wr w.heap.size 9 n k xs ∧ Below w.heap.size w wr) (fun i _ => n - (intOf i).toNat)
  case atStart => exact ⟨0, Nat.zero_le _, rfl, by have := F0 w; rw [← E1.out] at this; exact this, (Below.refl _ _).alloc (Nat.le_refl _) _⟩
  case round =>
    obtain ⟨k, hk, rfl, hF, hb⟩ := hrel
    clear F0
    by_cases hlt : k < n
    · obtain ⟨b, off, rfl, _, hbb, hcx⟩ := E3.out (by omega)
      obtain ⟨cx0, cx9⟩ := hcx.str hlt
      have cx := (hb.cell (p := ⟨b, off + k, none⟩) hbb).trans cx0
      obtain ⟨⟨v, c1⟩, f1⟩ := hF.at_ (i := k) (by show k < n * 1; omega)
      clear hcx
      go_wp2
      go_roundw
      case rel => exact ⟨k + 1, by omega, by go_num, hF.set1 rfl hlt ⟨rfl, cx9⟩ (by omega), hb.setCell (by simp) _⟩
      case measure => simp [intOf]; omega
    · obtain rfl : k = n := by omega
      go_wp2
      go_ret
      exact ⟨_, rfl, hF.done (by omega) hF.lt (by omega) hb.size, hb⟩
set_option maxHeartbeats 400000 in
theorem szStringS_any (A : Option Addr) (n c lo : Nat) (left : Int) (xs : List ByteArray) (w : World) (hx : Rd strS lo w.heap.size w A n xs) (h0 : 0 ≤ left) (h1 : left ≤ 1048576) :
    Calls Try.prog 33 #[.slice A n c, .int .i64 left] w fun e w' => e = .returned (.int .i64 (szStr xs left)) ∧ w = w' := by
  obtain ⟨e1, e2, e3⟩ := hx
  have E1 := hid e1; clear e1
  have E3 := hid e3; clear e3
  by_cases h : left - n < 0
  · have HH := hid (show szStr xs left = -1 by simp [szStr, ← E1.out, h])
    go_enter Try.func33, Try.ntmps33
    go_wp2_with fail
    go_ret
    exact ⟨ret_int HH.out.symm, rfl⟩
  · have HH := hid (show szStr xs left = szT (xs.drop 0) (left - n) by simp only [szStr, ← E1.out, if_neg h, List.drop_zero])
    go_enter Try.func33, Try.ntmps33
    go_wp2_with fail
    go_loop [1, 5] (fun l i => ∃ (k : Nat) (m : Int), k ≤ n ∧ i = .int .i64 k ∧ l = .int .i64 m ∧ 0 ≤ m ∧ m ≤ 1048576 ∧ szStr xs left = szT (xs.drop k) m) (fun _ i => n - (intOf i).toNat)
    case atStart => exact ⟨0, _, Nat.zero_le _, rfl, rfl, by omega, by omega, HH.out⟩
    case round =>
      obtain ⟨k, m, hk, rfl, rfl, hm0, hm1, hr⟩ := hrel
      have HR := hid hr; clear hr
      clear HH
      by_cases hlt : k < n
      · obtain ⟨b, off, rfl, _, hbb, hcx⟩ := E3.out (by omega)
        obtain ⟨cx, cx9⟩ := hcx.str hlt
        have HD := hid (drop_gt (l := xs) (by rw [← E1.out]; exact hlt))
        clear hcx
        by_cases hs : m - (gt xs k).size < 0
        · go_wp2_with fail
          go_ret
          exact ⟨ret_int (by rw [HR.out, HD.out, szT, if_pos hs]), rfl⟩
        · go_wp2_with fail
          go_round
          case rel => exact ⟨k + 1, _, by omega, by go_num, rfl, by omega, by omega, by rw [HR.out, HD.out, szT, if_neg hs]⟩
          case measure => simp [intOf]; omega
      · obtain rfl : k = n := by omega
        go_wp2
        go_ret
        exact ⟨ret_int (by rw [HR.out, List.drop_eq_nil_of_le (by rw [E1.out]; omega)]; rfl), rfl⟩
end Go.Proofs.Ytigemahbopligaa
