/- A region that draws its order, by an invariant: whatever order its edges allow, each operation keeps the invariant; no order is gone through. General; nothing here names the program. As RegInv, with operations that are guarded: each step shows that its operation is wanted. General; nothing here names the program. As RegInvG, where edges that do not bind may lead on. General; nothing here names the program. -/
import Derived.Test.YtigemahbopligaaLib
import Derived.Orders
namespace Go.Proofs.Ytigemahbopligaa
open Go.RowKit
/-- i is done besides. -/
def updL (L : Nat → Bool) (i : Nat) : Nat → Bool := fun j => if j = i then true else L j
/-- What binds the operation is done. -/
def depsL (o : Oper) (L : Nat → Bool) : Prop := ∀ e ∈ o.after.toList, Region.binds .any e = true → L e.on = true
/-- Each operation, when its turn has come, keeps the invariant. -/
def stepsL (P : Program) (Q : Exit → Act → World → Prop) (I : (Nat → Bool) → Act → World → Prop) : Nat → List Oper → Prop
  | _, [] => True
  | i, o :: r => (∀ L a w (K : Act → World → Prop), I L a w → L i = false → depsL o L → (∀ a' w', I (updL L i) a' w' → K a' w') → o.wp P a w K Q) ∧ stepsL P Q I (i + 1) r
theorem stepsL_get {P : Program} {Q : Exit → Act → World → Prop} {I : (Nat → Bool) → Act → World → Prop} {l : List Oper} {n : Nat} (h : stepsL P Q I n l) {i : Nat} {o : Oper} (hi : l[i]? = some o) :
    ∀ L a w (K : Act → World → Prop), I L a w → L (n + i) = false → depsL o L → (∀ a' w', I (updL L (n + i)) a' w' → K a' w') → o.wp P a w K Q := by
  induction l generalizing n i with
  | nil => simp at hi
  | cons x r ih =>
    cases i with
    | zero =>
      simp at hi
      subst hi
      simpa using h.1
    | succ i =>
      have := ih h.2 (i := i) (by simpa using hi)
      rw [show n + 1 + i = n + (i + 1) by omega] at this
      exact this
/-- The edges lead back. -/
def backL (l : List Oper) : Bool := (List.range l.length).all fun i => ((l[i]?).map fun o => o.guard.isNone && o.after.all fun e => decide (e.on < i)).getD false
theorem wpAny_inv {P : Program} {Q : Exit → Act → World → Prop} {I : (Nat → Bool) → Act → World → Prop} {l : List Oper} (hb : backL l = true) (hs : stepsL P Q I 0 l)
    (hend : ∀ L a w, (∀ i, i < l.length → L i = true) → I L a w → Q .normal a w) :
    ∀ (fuel : Nat) (listed : Array Bool) (a : Act) (w : World), listed.size = l.length → (listed.toList.filter (!·)).length ≤ fuel → I (fun i => listed.getD i true) a w → wpAny P .any l.toArray Q fuel listed a w := by
  have hready : ∀ listed : Array Bool, listed.size = l.length → Region.ready .any l.toArray listed = [] → ∀ i, i < l.length → listed.getD i true = true := by
    intro listed hsz hr i
    induction i using Nat.strongRecOn with
    | _ i ih =>
      intro hi
      by_cases h : listed.getD i true = true
      · exact h
      · exfalso
        have hm : i ∈ Region.ready .any l.toArray listed := by
          unfold Region.ready
          rw [List.mem_filter]
          refine ⟨by simpa using hi, ?_⟩
          have hbi := List.all_eq_true.1 hb i (by simpa using hi)
          rw [List.getElem?_eq_getElem hi] at hbi
          simp only [Option.map_some, Option.getD_some, Bool.and_eq_true] at hbi
          have hget : l.toArray[i]? = some l[i] := by simp [hi]
          rw [hget]
          simp only [Option.map_some, Option.getD_some, Bool.and_eq_true]
          refine ⟨by simpa using h, ?_⟩
          rw [Array.all_eq_true']
          intro e he
          have he1 := Array.all_eq_true'.1 hbi.2 e he
          have he2 : e.on < i := by simpa using he1
          have := ih e.on he2 (by omega)
          rw [Bool.or_eq_true]
          right
          have hlt : e.on < listed.size := by omega
          simpa [Array.getD, hlt] using this
        rw [hr] at hm
        cases hm
  intro fuel
  induction fuel with
  | zero =>
    intro listed a w hsz hc hI
    have hall : ∀ i, i < l.length → listed.getD i true = true := by
      intro i hi
      have hlt : i < listed.size := by omega
      by_cases h : listed.getD i true = true
      · exact h
      · exfalso
        have h' : listed[i] = false := by simpa [Array.getD, hlt] using h
        have hm : false ∈ listed.toList.filter (!·) := List.mem_filter.2 ⟨by rw [← h']; simp, rfl⟩
        have := List.length_pos_of_mem hm
        omega
    have hr : Region.ready .any l.toArray listed = [] := by
      unfold Region.ready
      rw [List.filter_eq_nil_iff]
      intro i hi
      have hi' : i < l.length := by simpa using hi
      simp [hall i hi']
    exact ⟨hr, hend _ a w hall hI⟩
  | succ fuel ih =>
    intro listed a w hsz hc hI
    refine ⟨fun hr => hend _ a w (hready listed hsz hr) hI, fun i hi => ?_⟩
    unfold Region.ready at hi
    rw [List.mem_filter] at hi
    obtain ⟨h1, h2⟩ := hi
    have hil : i < l.length := by simpa using h1
    have hget : l.toArray[i]? = some l[i] := by simp [hil]
    rw [hget] at h2
    simp only [Option.map_some, Option.getD_some, Bool.and_eq_true] at h2
    have hbi := List.all_eq_true.1 hb i (by simpa using hil)
    rw [List.getElem?_eq_getElem hil] at hbi
    simp only [Option.map_some, Option.getD_some, Bool.and_eq_true] at hbi
    have hgn : (l[i]).guard = none := by simpa using hbi.1
    have hLi : listed.getD i true = false := by simpa using h2.1
    have hlt : i < listed.size := by omega
    unfold wpOp
    rw [hget]
    have hw : Region.wanted l[i] (yielded l.toArray a.tmps) = true := by simp [Region.wanted, hgn]
    simp only [hw, if_true]
    left
    have hst := stepsL_get hs (i := i) (o := l[i]) (List.getElem?_eq_getElem hil)
    rw [Nat.zero_add] at hst
    refine hst (fun i => listed.getD i true) a w _ hI hLi (fun e he hbn => ?_) (fun a' w' hI' => ?_)
    · have := Array.all_eq_true'.1 h2.2 e (by simpa using he)
      rw [hbn] at this
      have hef : listed.getD e.on false = true := by simpa using this
      have hlt2 : e.on < listed.size := by
        by_cases hh : e.on < listed.size
        · exact hh
        · simp [Array.getD, hh] at hef
      simpa [Array.getD, hlt2] using hef
    · refine ih _ a' w' (by simpa using hsz) ?_ ?_
      · have hLi' : listed[i] = false := by simpa [Array.getD, hlt] using hLi
        have h0 : listed.toList.length = listed.size := by simp
        have e1 : (listed.setIfInBounds i true).toList = listed.toList.set i true := by simp
        rw [e1, List.set_eq_take_append_cons_drop, if_pos (by simpa using hlt)]
        have e2 : listed.toList = listed.toList.take i ++ false :: listed.toList.drop (i + 1) := by
          conv => lhs; rw [← List.take_append_drop i listed.toList, List.drop_eq_getElem_cons (by simpa using hlt)]
          simp [hLi']
        rw [e2] at hc
        simp only [List.filter_append, List.length_append] at hc ⊢
        simp at hc ⊢
        omega
      · have : (fun j => (listed.setIfInBounds i true).getD j true) = updL (fun j => listed.getD j true) i := by
          funext j
          unfold updL
          by_cases hj : j = i
          · subst hj
            simp [Array.getD, hlt]
          · rw [if_neg hj]
            by_cases hj2 : j < listed.size
            · simp [Array.getD, hj2, Ne.symm hj]
            · simp [Array.getD, hj2]
        rw [this]
        exact hI'
theorem wp_region_inv {P : Program} {id : Nat} {Q : Exit → Act → World → Prop} {a : Act} {w : World} {l : List Oper} (hm : P.follows .mixedOrders = true) (hb : backL l = true) (I : (Nat → Bool) → Act → World → Prop)
    (h0 : I (fun _ => false) a w.drew) (hs : stepsL P Q I 0 l) (hend : ∀ L a w, (∀ i, i < l.length → L i = true) → I L a w → Q .normal a w) : (Code.region id l.toArray true).wp P Q a w := by
  refine wp_region_any hm (wpAny_inv (I := fun L a w => ∃ L', (∀ i, i < l.length → L' i = L i) ∧ I L' a w) hb ?_ ?_ _ _ _ _ (by simp) ?_ ?_)
  · have mono : ∀ (r : List Oper) (n : Nat), n + r.length ≤ l.length → (∀ i o, r[i]? = some o → ∀ e ∈ o.after.toList, e.on < n + i) → stepsL P Q I n r → stepsL P Q (fun L a w => ∃ L', (∀ i, i < l.length → L' i = L i) ∧ I L' a w) n r := by
      intro r
      induction r with
      | nil => intro _ _ _ _; trivial
      | cons o r ih =>
        intro n hn hd h
        refine ⟨?_, ih (n + 1) (by simp at hn; omega) (fun i o' hi e he => by have := hd (i + 1) o' (by simpa using hi) e he; omega) h.2⟩
        rintro L a w K ⟨L', hL, hI⟩ hLn hdep hK
        refine h.1 L' a w K hI ((hL n (by simp at hn; omega)).trans hLn) (fun e he hbn => ?_) (fun a' w' hI' => hK a' w' ⟨updL L' n, fun i hi => ?_, hI'⟩)
        · have h1 := hd 0 o (by simp) e he
          rw [hL e.on (by simp at hn; omega)]
          exact hdep e he hbn
        · unfold updL
          split
          · rfl
          · exact hL i hi
    refine mono l 0 (by omega) (fun i o hi e he => ?_) hs
    have hil := (List.getElem?_eq_some_iff.1 hi).1
    have hbi := List.all_eq_true.1 hb i (by simpa using hil)
    rw [hi] at hbi
    simp only [Option.map_some, Option.getD_some, Bool.and_eq_true] at hbi
    have := Array.all_eq_true'.1 hbi.2 e (by simpa using he)
    have : e.on < i := by simpa using this
    omega
  · rintro L a w hL ⟨L', hL', hI⟩
    exact hend L' a w (fun i hi => (hL' i hi).trans (hL i hi)) hI
  · simp
  · exact ⟨fun _ => false, fun i hi => by simp [Array.getD, hi], h0⟩
end Go.Proofs.Ytigemahbopligaa
namespace Go.Proofs.Ytigemahbopligaa
open Go.RowKit
/-- Each operation, when its turn has come, keeps the invariant. -/
def stepsG (P : Program) (ops : Array Oper) (Q : Exit → Act → World → Prop) (I : (Nat → Bool) → Act → World → Prop) : Nat → List Oper → Prop
  | _, [] => True
  | i, o :: r => (∀ L a w (K : Act → World → Prop), I L a w → L i = false → depsL o L → (∀ a' w', I (updL L i) a' w' → K a' w') → Region.wanted o (yielded ops a.tmps) = true ∧ o.wp P a w K Q) ∧ stepsG P ops Q I (i + 1) r
theorem stepsG_get {P : Program} {ops : Array Oper} {Q : Exit → Act → World → Prop} {I : (Nat → Bool) → Act → World → Prop} {l : List Oper} {n : Nat} (h : stepsG P ops Q I n l) {i : Nat} {o : Oper} (hi : l[i]? = some o) :
    ∀ L a w (K : Act → World → Prop), I L a w → L (n + i) = false → depsL o L → (∀ a' w', I (updL L (n + i)) a' w' → K a' w') → Region.wanted o (yielded ops a.tmps) = true ∧ o.wp P a w K Q := by
  induction l generalizing n i with
  | nil => simp at hi
  | cons x r ih =>
    cases i with
    | zero =>
      simp at hi
      subst hi
      simpa using h.1
    | succ i =>
      have := ih h.2 (i := i) (by simpa using hi)
      rw [show n + 1 + i = n + (i + 1) by omega] at this
      exact this
/-- The edges lead back. -/
def backG (l : List Oper) : Bool := (List.range l.length).all fun i => ((l[i]?).map fun o => o.after.all fun e => decide (e.on < i)).getD false
theorem wpAny_invG {P : Program} {Q : Exit → Act → World → Prop} {I : (Nat → Bool) → Act → World → Prop} {l : List Oper} (hb : backG l = true) (hs : stepsG P l.toArray Q I 0 l)
    (hend : ∀ L a w, (∀ i, i < l.length → L i = true) → I L a w → Q .normal a w) :
    ∀ (fuel : Nat) (listed : Array Bool) (a : Act) (w : World), listed.size = l.length → (listed.toList.filter (!·)).length ≤ fuel → I (fun i => listed.getD i true) a w → wpAny P .any l.toArray Q fuel listed a w := by
  have hready : ∀ listed : Array Bool, listed.size = l.length → Region.ready .any l.toArray listed = [] → ∀ i, i < l.length → listed.getD i true = true := by
    intro listed hsz hr i
    induction i using Nat.strongRecOn with
    | _ i ih =>
      intro hi
      by_cases h : listed.getD i true = true
      · exact h
      · exfalso
        have hm : i ∈ Region.ready .any l.toArray listed := by
          unfold Region.ready
          rw [List.mem_filter]
          refine ⟨by simpa using hi, ?_⟩
          have hbi := List.all_eq_true.1 hb i (by simpa using hi)
          rw [List.getElem?_eq_getElem hi] at hbi
          simp only [Option.map_some, Option.getD_some] at hbi
          have hget : l.toArray[i]? = some l[i] := by simp [hi]
          rw [hget]
          simp only [Option.map_some, Option.getD_some, Bool.and_eq_true]
          refine ⟨by simpa using h, ?_⟩
          rw [Array.all_eq_true']
          intro e he
          have he1 := Array.all_eq_true'.1 hbi e he
          have he2 : e.on < i := by simpa using he1
          have := ih e.on he2 (by omega)
          rw [Bool.or_eq_true]
          right
          have hlt : e.on < listed.size := by omega
          simpa [Array.getD, hlt] using this
        rw [hr] at hm
        cases hm
  intro fuel
  induction fuel with
  | zero =>
    intro listed a w hsz hc hI
    have hall : ∀ i, i < l.length → listed.getD i true = true := by
      intro i hi
      have hlt : i < listed.size := by omega
      by_cases h : listed.getD i true = true
      · exact h
      · exfalso
        have h' : listed[i] = false := by simpa [Array.getD, hlt] using h
        have hm : false ∈ listed.toList.filter (!·) := List.mem_filter.2 ⟨by rw [← h']; simp, rfl⟩
        have := List.length_pos_of_mem hm
        omega
    have hr : Region.ready .any l.toArray listed = [] := by
      unfold Region.ready
      rw [List.filter_eq_nil_iff]
      intro i hi
      have hi' : i < l.length := by simpa using hi
      simp [hall i hi']
    exact ⟨hr, hend _ a w hall hI⟩
  | succ fuel ih =>
    intro listed a w hsz hc hI
    refine ⟨fun hr => hend _ a w (hready listed hsz hr) hI, fun i hi => ?_⟩
    unfold Region.ready at hi
    rw [List.mem_filter] at hi
    obtain ⟨h1, h2⟩ := hi
    have hil : i < l.length := by simpa using h1
    have hget : l.toArray[i]? = some l[i] := by simp [hil]
    rw [hget] at h2
    simp only [Option.map_some, Option.getD_some, Bool.and_eq_true] at h2
    have hbi := List.all_eq_true.1 hb i (by simpa using hil)
    rw [List.getElem?_eq_getElem hil] at hbi
    simp only [Option.map_some, Option.getD_some] at hbi
    have hLi : listed.getD i true = false := by simpa using h2.1
    have hlt : i < listed.size := by omega
    unfold wpOp
    rw [hget]
    have hst := stepsG_get hs (i := i) (o := l[i]) (List.getElem?_eq_getElem hil)
    rw [Nat.zero_add] at hst
    have hdep : depsL l[i] (fun i => listed.getD i true) := fun e he hbn => by
      have := Array.all_eq_true'.1 h2.2 e (by simpa using he)
      rw [hbn] at this
      have hef : listed.getD e.on false = true := by simpa using this
      have hlt2 : e.on < listed.size := by
        by_cases hh : e.on < listed.size
        · exact hh
        · simp [Array.getD, hh] at hef
      simpa [Array.getD, hlt2] using hef
    have hnext : ∀ a' w', I (updL (fun i => listed.getD i true) i) a' w' → wpAny P .any l.toArray Q fuel (listed.setIfInBounds i true) a' w' := fun a' w' hI' => by
      refine ih _ a' w' (by simpa using hsz) ?_ ?_
      · have hLi' : listed[i] = false := by simpa [Array.getD, hlt] using hLi
        have h0 : listed.toList.length = listed.size := by simp
        have e1 : (listed.setIfInBounds i true).toList = listed.toList.set i true := by simp
        rw [e1, List.set_eq_take_append_cons_drop, if_pos (by simpa using hlt)]
        have e2 : listed.toList = listed.toList.take i ++ false :: listed.toList.drop (i + 1) := by
          conv => lhs; rw [← List.take_append_drop i listed.toList, List.drop_eq_getElem_cons (by simpa using hlt)]
          simp [hLi']
        rw [e2] at hc
        simp only [List.filter_append, List.length_append] at hc ⊢
        simp at hc ⊢
        omega
      · have : (fun j => (listed.setIfInBounds i true).getD j true) = updL (fun j => listed.getD j true) i := by
          funext j
          unfold updL
          by_cases hj : j = i
          · subst hj
            simp [Array.getD, hlt]
          · rw [if_neg hj]
            by_cases hj2 : j < listed.size
            · simp [Array.getD, hj2, Ne.symm hj]
            · simp [Array.getD, hj2]
        rw [this]
        exact hI'
    obtain ⟨hw, hst⟩ := hst (fun i => listed.getD i true) a w (wpAny P .any l.toArray Q fuel (listed.setIfInBounds i true)) hI hLi hdep hnext
    simp only [hw, if_true]
    exact .inl hst
theorem wp_region_invG {P : Program} {id : Nat} {Q : Exit → Act → World → Prop} {a : Act} {w : World} {l : List Oper} (hm : P.follows .mixedOrders = true) (hb : backG l = true) (I : (Nat → Bool) → Act → World → Prop)
    (h0 : I (fun _ => false) a w.drew) (hs : stepsG P l.toArray Q I 0 l) (hend : ∀ L a w, (∀ i, i < l.length → L i = true) → I L a w → Q .normal a w) : (Code.region id l.toArray true).wp P Q a w := by
  refine wp_region_any hm (wpAny_invG (I := fun L a w => ∃ L', (∀ i, i < l.length → L' i = L i) ∧ I L' a w) hb ?_ ?_ _ _ _ _ (by simp) ?_ ?_)
  · have mono : ∀ (r : List Oper) (n : Nat), n + r.length ≤ l.length → (∀ i o, r[i]? = some o → ∀ e ∈ o.after.toList, e.on < n + i) → stepsG P l.toArray Q I n r → stepsG P l.toArray Q (fun L a w => ∃ L', (∀ i, i < l.length → L' i = L i) ∧ I L' a w) n r := by
      intro r
      induction r with
      | nil => intro _ _ _ _; trivial
      | cons o r ih =>
        intro n hn hd h
        refine ⟨?_, ih (n + 1) (by simp at hn; omega) (fun i o' hi e he => by have := hd (i + 1) o' (by simpa using hi) e he; omega) h.2⟩
        rintro L a w K ⟨L', hL, hI⟩ hLn hdep hK
        refine h.1 L' a w K hI ((hL n (by simp at hn; omega)).trans hLn) (fun e he hbn => ?_) (fun a' w' hI' => hK a' w' ⟨updL L' n, fun i hi => ?_, hI'⟩)
        · have h1 := hd 0 o (by simp) e he
          rw [hL e.on (by simp at hn; omega)]
          exact hdep e he hbn
        · unfold updL
          split
          · rfl
          · exact hL i hi
    refine mono l 0 (by omega) (fun i o hi e he => ?_) hs
    have hil := (List.getElem?_eq_some_iff.1 hi).1
    have hbi := List.all_eq_true.1 hb i (by simpa using hil)
    rw [hi] at hbi
    simp only [Option.map_some, Option.getD_some] at hbi
    have := Array.all_eq_true'.1 hbi e (by simpa using he)
    have : e.on < i := by simpa using this
    omega
  · rintro L a w hL ⟨L', hL', hI⟩
    exact hend L' a w (fun i hi => (hL' i hi).trans (hL i hi)) hI
  · simp
  · exact ⟨fun _ => false, fun i hi => by simp [Array.getD, hi], h0⟩
end Go.Proofs.Ytigemahbopligaa
namespace Go.Proofs.Ytigemahbopligaa
open Go.RowKit
/-- The edges that bind lead back. -/
def backH (l : List Oper) : Bool := (List.range l.length).all fun i => ((l[i]?).map fun o => o.after.all fun e => !Region.binds .any e || decide (e.on < i)).getD false
theorem wpAny_invH {P : Program} {Q : Exit → Act → World → Prop} {I : (Nat → Bool) → Act → World → Prop} {l : List Oper} (hb : backH l = true) (hs : stepsG P l.toArray Q I 0 l)
    (hend : ∀ L a w, (∀ i, i < l.length → L i = true) → I L a w → Q .normal a w) :
    ∀ (fuel : Nat) (listed : Array Bool) (a : Act) (w : World), listed.size = l.length → (listed.toList.filter (!·)).length ≤ fuel → I (fun i => listed.getD i true) a w → wpAny P .any l.toArray Q fuel listed a w := by
  have hready : ∀ listed : Array Bool, listed.size = l.length → Region.ready .any l.toArray listed = [] → ∀ i, i < l.length → listed.getD i true = true := by
    intro listed hsz hr i
    induction i using Nat.strongRecOn with
    | _ i ih =>
      intro hi
      by_cases h : listed.getD i true = true
      · exact h
      · exfalso
        have hm : i ∈ Region.ready .any l.toArray listed := by
          unfold Region.ready
          rw [List.mem_filter]
          refine ⟨by simpa using hi, ?_⟩
          have hbi := List.all_eq_true.1 hb i (by simpa using hi)
          rw [List.getElem?_eq_getElem hi] at hbi
          simp only [Option.map_some, Option.getD_some] at hbi
          have hget : l.toArray[i]? = some l[i] := by simp [hi]
          rw [hget]
          simp only [Option.map_some, Option.getD_some, Bool.and_eq_true]
          refine ⟨by simpa using h, ?_⟩
          rw [Array.all_eq_true']
          intro e he
          have he1 := Array.all_eq_true'.1 hbi e he
          cases hbn : Region.binds .any e with
          | false => rfl
          | true =>
          have he2 : e.on < i := by simpa [hbn] using he1
          have := ih e.on he2 (by omega)
          rw [Bool.or_eq_true]
          right
          have hlt : e.on < listed.size := by omega
          simpa [Array.getD, hlt] using this
        rw [hr] at hm
        cases hm
  intro fuel
  induction fuel with
  | zero =>
    intro listed a w hsz hc hI
    have hall : ∀ i, i < l.length → listed.getD i true = true := by
      intro i hi
      have hlt : i < listed.size := by omega
      by_cases h : listed.getD i true = true
      · exact h
      · exfalso
        have h' : listed[i] = false := by simpa [Array.getD, hlt] using h
        have hm : false ∈ listed.toList.filter (!·) := List.mem_filter.2 ⟨by rw [← h']; simp, rfl⟩
        have := List.length_pos_of_mem hm
        omega
    have hr : Region.ready .any l.toArray listed = [] := by
      unfold Region.ready
      rw [List.filter_eq_nil_iff]
      intro i hi
      have hi' : i < l.length := by simpa using hi
      simp [hall i hi']
    exact ⟨hr, hend _ a w hall hI⟩
  | succ fuel ih =>
    intro listed a w hsz hc hI
    refine ⟨fun hr => hend _ a w (hready listed hsz hr) hI, fun i hi => ?_⟩
    unfold Region.ready at hi
    rw [List.mem_filter] at hi
    obtain ⟨h1, h2⟩ := hi
    have hil : i < l.length := by simpa using h1
    have hget : l.toArray[i]? = some l[i] := by simp [hil]
    rw [hget] at h2
    simp only [Option.map_some, Option.getD_some, Bool.and_eq_true] at h2
    have hbi := List.all_eq_true.1 hb i (by simpa using hil)
    rw [List.getElem?_eq_getElem hil] at hbi
    simp only [Option.map_some, Option.getD_some] at hbi
    have hLi : listed.getD i true = false := by simpa using h2.1
    have hlt : i < listed.size := by omega
    unfold wpOp
    rw [hget]
    have hst := stepsG_get hs (i := i) (o := l[i]) (List.getElem?_eq_getElem hil)
    rw [Nat.zero_add] at hst
    have hdep : depsL l[i] (fun i => listed.getD i true) := fun e he hbn => by
      have := Array.all_eq_true'.1 h2.2 e (by simpa using he)
      rw [hbn] at this
      have hef : listed.getD e.on false = true := by simpa using this
      have hlt2 : e.on < listed.size := by
        by_cases hh : e.on < listed.size
        · exact hh
        · simp [Array.getD, hh] at hef
      simpa [Array.getD, hlt2] using hef
    have hnext : ∀ a' w', I (updL (fun i => listed.getD i true) i) a' w' → wpAny P .any l.toArray Q fuel (listed.setIfInBounds i true) a' w' := fun a' w' hI' => by
      refine ih _ a' w' (by simpa using hsz) ?_ ?_
      · have hLi' : listed[i] = false := by simpa [Array.getD, hlt] using hLi
        have h0 : listed.toList.length = listed.size := by simp
        have e1 : (listed.setIfInBounds i true).toList = listed.toList.set i true := by simp
        rw [e1, List.set_eq_take_append_cons_drop, if_pos (by simpa using hlt)]
        have e2 : listed.toList = listed.toList.take i ++ false :: listed.toList.drop (i + 1) := by
          conv => lhs; rw [← List.take_append_drop i listed.toList, List.drop_eq_getElem_cons (by simpa using hlt)]
          simp [hLi']
        rw [e2] at hc
        simp only [List.filter_append, List.length_append] at hc ⊢
        simp at hc ⊢
        omega
      · have : (fun j => (listed.setIfInBounds i true).getD j true) = updL (fun j => listed.getD j true) i := by
          funext j
          unfold updL
          by_cases hj : j = i
          · subst hj
            simp [Array.getD, hlt]
          · rw [if_neg hj]
            by_cases hj2 : j < listed.size
            · simp [Array.getD, hj2, Ne.symm hj]
            · simp [Array.getD, hj2]
        rw [this]
        exact hI'
    obtain ⟨hw, hst⟩ := hst (fun i => listed.getD i true) a w (wpAny P .any l.toArray Q fuel (listed.setIfInBounds i true)) hI hLi hdep hnext
    simp only [hw, if_true]
    exact .inl hst
theorem wp_region_invH {P : Program} {id : Nat} {Q : Exit → Act → World → Prop} {a : Act} {w : World} {l : List Oper} (hm : P.follows .mixedOrders = true) (hb : backH l = true) (I : (Nat → Bool) → Act → World → Prop)
    (h0 : I (fun _ => false) a w.drew) (hs : stepsG P l.toArray Q I 0 l) (hend : ∀ L a w, (∀ i, i < l.length → L i = true) → I L a w → Q .normal a w) : (Code.region id l.toArray true).wp P Q a w := by
  refine wp_region_any hm (wpAny_invH (I := fun L a w => ∃ L', (∀ i, i < l.length → L' i = L i) ∧ I L' a w) hb ?_ ?_ _ _ _ _ (by simp) ?_ ?_)
  · have mono : ∀ (r : List Oper) (n : Nat), n + r.length ≤ l.length → (∀ i o, r[i]? = some o → ∀ e ∈ o.after.toList, Region.binds .any e = true → e.on < n + i) → stepsG P l.toArray Q I n r → stepsG P l.toArray Q (fun L a w => ∃ L', (∀ i, i < l.length → L' i = L i) ∧ I L' a w) n r := by
      intro r
      induction r with
      | nil => intro _ _ _ _; trivial
      | cons o r ih =>
        intro n hn hd h
        refine ⟨?_, ih (n + 1) (by simp at hn; omega) (fun i o' hi e he hbn => by have := hd (i + 1) o' (by simpa using hi) e he hbn; omega) h.2⟩
        rintro L a w K ⟨L', hL, hI⟩ hLn hdep hK
        refine h.1 L' a w K hI ((hL n (by simp at hn; omega)).trans hLn) (fun e he hbn => ?_) (fun a' w' hI' => hK a' w' ⟨updL L' n, fun i hi => ?_, hI'⟩)
        · have h1 := hd 0 o (by simp) e he hbn
          rw [hL e.on (by simp at hn; omega)]
          exact hdep e he hbn
        · unfold updL
          split
          · rfl
          · exact hL i hi
    refine mono l 0 (by omega) (fun i o hi e he hbn => ?_) hs
    have hil := (List.getElem?_eq_some_iff.1 hi).1
    have hbi := List.all_eq_true.1 hb i (by simpa using hil)
    rw [hi] at hbi
    simp only [Option.map_some, Option.getD_some] at hbi
    have := Array.all_eq_true'.1 hbi e (by simpa using he)
    have : e.on < i := by simpa [hbn] using this
    omega
  · rintro L a w hL ⟨L', hL', hI⟩
    exact hend L' a w (fun i hi => (hL' i hi).trans (hL i hi)) hI
  · simp
  · exact ⟨fun _ => false, fun i hi => by simp [Array.getD, hi], h0⟩
end Go.Proofs.Ytigemahbopligaa
