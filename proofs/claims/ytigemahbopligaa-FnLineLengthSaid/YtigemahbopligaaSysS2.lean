/- Systems: what the reference's SystemStroke and WordOutline return. -/
import Derived.Test.YtigemahbopligaaSysS
namespace Go.Proofs.Ytigemahbopligaa
open Go.RowKit
attribute [local go_sem] Oper.semAt_some
/-- A stroke and whether there is one. -/
def strokeR (o : Option (Int × Int)) : Value := .tuple #[.agg #[.int .i64 (o.getD (0, 0)).1, .int .i64 (o.getD (0, 0)).2], .bool o.isSome]
theorem key_is {x : SignT} {key : ByteArray} {ch : UInt8} (hk : key.data.toList = [ch]) : x.1.data.toList = [ch] ↔ x.1 = key := by
  constructor
  · intro h
    exact str_ext (h.trans hk.symm)
  · intro h
    rw [h, hk]
set_option maxRecDepth 100000 in
set_option maxHeartbeats 2000000 in
theorem specSystemStroke_any (A : Option Addr) (n c lo : Nat) (l : List SignT) (key : ByteArray) (ch : UInt8) (w : World) (hx : Rd signS lo w.heap.size w A n l) (hok : sysOk l = true) (hk : key.data.toList = [ch]) :
    Calls Try.prog 84 #[.slice A n c, .string key] w fun e w' => e = .returned (strokeR (strokeAt l ch)) ∧ Below w.heap.size w w' := by
  have hb1 := bnew w (.cells #[.int .i64 0, .int .i64 0] 64)
  have hn1 := heap_alloc_new w (.cells #[.int .i64 0, .int .i64 0] 64)
  have hz1 := World.size_alloc w (.cells #[.int .i64 0, .int .i64 0] 64)
  obtain ⟨w1, hw1⟩ : ∃ w1, w.alloc (.cells #[.int .i64 0, .int .i64 0] 64) = w1 := ⟨_, rfl⟩
  rw [hw1] at hb1 hn1 hz1
  have HW1 := hid hw1
  have HB1 := hid hb1
  have HN1 := hid hn1
  have hzl : w.heap.size < w1.heap.size := by omega
  have HX := hid (hx.bl hb1)
  have E1 := hid hx.1
  have h63 := hx.2.1
  have HK := hid hk
  have HSV := hid (fun (wr : World) (hb : Below w1.heap.size w1 wr) => (specSystemValid_any A n c lo l wr ((hx.bl hb1).bl hb)))
  have HOK := hid hok
  clear hx hb1 hn1 hw1 hz1 hk hok
  go_enter Try.func84, Try.ntmps84
  go_wp2_with fail
  rw [HW1.out]
  go_loopg [6] n (fun gk i wr => ∃ k : Nat, k + gk = n ∧ i = .int .i64 k ∧ strokeAt l ch = strokeAt (l.drop k) ch ∧ Below w1.heap.size w1 wr)
  case atStart => exact ⟨0, Nat.zero_add _, rfl, rfl, Below.refl _ _⟩
  case round =>
    obtain ⟨k, hkg, rfl, hs, hb⟩ := hrel
    have HKG := hid hkg
    have HS := hid hs
    have HB := hid hb
    have hk : k ≤ n := by omega
    clear hkg hs hb
    by_cases hlt : k < n
    case neg =>
      obtain rfl : k = n := by omega
      have hni : ¬ (k : Int) < (k : Int) := by omega
      have HF := hid (show strokeAt l ch = none by
        rw [HS.out, List.drop_eq_nil_of_le (by rw [E1.out]; exact Nat.le_refl _)]
        rfl)
      obtain ⟨c0, c1, f0, f1⟩ := at_get ((HB.out.block w.heap.size hzl).trans HN1.out)
      go_wp2_with fail
      refine bodyPost_ret (v := .tuple #[.agg #[.int .i64 0, .int .i64 0], .bool false]) (by simp [results, Try.results84, go_sem, c0, c1]) rfl ⟨?_, ?_⟩
      · rw [HF.out]; rfl
      · exact bsc (bsc (HB1.out.trans (HB.out.mono HB1.out.size)) (Nat.le_refl _) _) (Nat.le_refl _) _
    case pos =>
      have hlti : (k : Int) < (n : Int) := by omega
      have hkl : k < l.length := by rw [← E1.out]; exact hlt
      have HD := hid (strokeAt_drop (c := ch) hkl)
      obtain ⟨b, off, hA, _, hbb, hcx⟩ := HX.out.2.2 (by omega)
      subst hA
      obtain ⟨x0, x1, x2, x3⟩ := hcx.sign hlt
      obtain ⟨x, hx⟩ : ∃ x, gt l k = x := ⟨_, rfl⟩
      rw [hx] at x0 x1 x2 x3 HD
      obtain ⟨s, d, z⟩ := x
      dsimp only at x0 x1 x2 x3
      have hki := key_is (x := (s, d, z)) HK.out
      have HKI := hid hki
      have HSV1 := hid (HSV.out wr HB.out)
      have HXC := hid (And.intro x0 (And.intro x1 x2))
      clear hcx x0 x1 x2 hx hkl hki
      go_wp2_with fail
      refine HSV1.out.mono ?_
      rintro e w2 ⟨rfl, hb2⟩
      rw [HOK.out]
      have HB2 := hid (btr HB.out hb2)
      clear hb2
      have v0 := bcl HB2.out HXC.out.1
      have v1 := bcl HB2.out HXC.out.2.1
      have v2 := bcl HB2.out HXC.out.2.2
      by_cases hse : s = key
      · have hcmp : (s.toList == key.toList) = true := by rw [hse]; exact str_eq _
        have HF := hid (show strokeAt l ch = some (d, z) by rw [HS.out, HD.out, if_pos (HKI.out.2 hse)])
        clear hse
        obtain ⟨c0, c1, f0, f1⟩ := at_get ((HB2.out.block w.heap.size hzl).trans HN1.out)
        go_wp2_with fail
        refine bodyPost_ret (v := .tuple #[.agg #[.int .i64 d, .int .i64 z], .bool true]) (by simp [results, Try.results84, go_sem, c0, c1]) rfl ⟨?_, ?_⟩
        · rw [HF.out]; rfl
        · exact bsc (bsc (HB1.out.trans (HB2.out.mono HB1.out.size)) (Nat.le_refl _) _) (Nat.le_refl _) _
      · have hcmp : (s.toList == key.toList) = false := str_ne hse
        have HF := hid (show strokeAt l ch = strokeAt (l.drop (k + 1)) ch by rw [HS.out, HD.out, if_neg (fun h => hse (HKI.out.1 h))])
        clear hse
        go_wp2_with fail
        go_roundg (gk - 1)
        case measure => have := HKG.out; omega
        case rel => exact ⟨k + 1, by have := HKG.out; omega, by go_num, HF.out, HB2.out⟩
end Go.Proofs.Ytigemahbopligaa
