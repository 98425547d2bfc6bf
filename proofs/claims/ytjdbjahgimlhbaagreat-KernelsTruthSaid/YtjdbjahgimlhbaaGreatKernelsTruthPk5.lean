/- Parts of the proof of KernelsTruth: no conditions of their own. -/
import Derived.Test.YtjdbjahgimlhbaaGreatKernelsTruthPk0
import Derived.Deep.RegionHeld3
import Derived.StillTailTactics
import Derived.Test.YtjdbjahgimlhbaaGreatKernelsTruthPk1
section
set_option linter.unusedVariables false
namespace Go.Proofs.YtjdbjahgimlhbaaGreat
open Go

section
variable {P : Program} {ops : Array Oper} {Q : Exit → Act → World → Prop} {md : Region.Mode} {S : World → Prop} {n1 : Nat}

def wpAnyE (P : Program) (md : Region.Mode) (ops : Array Oper) (Q : Exit → Act → World → Prop) (S : World → Prop) (n1 : Nat) : Nat → Array Bool → Act → World → Prop
  | 0, listed, a, w => Region.ready md ops listed = [] ∧ Q .normal a w
  | fuel + 1, listed, a, w =>
    (Region.ready md ops listed = [] → Q .normal a w) ∧
    ∀ i ∈ Region.ready md ops listed, wpOp P ops Q i (fun a' w' => ((listed.setIfInBounds i true).getD n1 false = false → S w') ∧ wpAnyE P md ops Q S n1 fuel (listed.setIfInBounds i true) a' w') a w
theorem wpAny_of_E : ∀ (fuel : Nat) (listed : Array Bool) (a : Act) (w : World), wpAnyE P md ops Q S n1 fuel listed a w → wpAny P md ops Q fuel listed a w
  | 0, _, _, _, h => h
  | fuel + 1, _, _, _, h => ⟨h.1, fun i hi => wpOp_mono (fun a' w' h' => wpAny_of_E fuel _ a' w' h'.2) (h.2 i hi)⟩

theorem wpAnyE_first {i : Nat} {oi : Oper} {v : Value} (hi : ops[i]? = some oi) (hsel : ∀ (j : Nat) (o : Oper) cs b, ops[j]? = some o → o.op ≠ .select cs b)
    (hQ : ∀ c a w, Q (.panic c) (a.put oi.dst v) w → Q (.panic c) a w) (hw : Region.waitsFor md ops n1 i = true) :
    ∀ (fuel : Nat) (listed : Array Bool) (a : Act) (w : World),
      (∀ j oj, ops[j]? = some oj → j ≠ i → listed.getD j true = false → (∀ e ∈ oj.after, Region.binds md e = true → e.on ≠ i) → oi.apart ops oj = true) →
      i ∈ Region.ready md ops listed → listed.getD n1 false = false → YieldsIf P ops S oi v a → S w →
      wpAnyE P md ops Q S n1 fuel (listed.setIfInBounds i true) (a.put oi.dst v) w → wpAnyE P md ops Q S n1 (fuel + 1) listed a w := by
  have hni : ∀ listed : Array Bool, i ∈ Region.ready md ops listed → ∀ j ∈ Region.ready md ops listed, j ≠ n1 := fun listed hr j hj e => by
    subst e
    obtain ⟨oj, hoj, ed, he, hb, hon⟩ := Region.waitsFor_spec hw
    obtain ⟨_, oj', hoj', hall⟩ := mem_ready.1 hj
    have : oj' = oj := Option.some.inj (hoj'.symm.trans hoj)
    subst this
    have h1 := hall ed he hb
    rw [hon, getD_both (mem_ready.1 hr).1] at h1
    cases h1
  intro fuel
  induction fuel with
  | zero =>
    intro listed a w _ hr hn hy hS H
    refine ⟨fun h => (by rw [h] at hr; cases hr), fun j hj => ?_⟩
    by_cases hji : j = i
    · subst hji; exact hy.wpOp hi hS ⟨fun _ => hS, H⟩
    · have := ready_mono hj hji
      rw [H.1] at this
      cases this
  | succ fuel ih =>
    intro listed a w hfree hr hn hy hS H
    refine ⟨fun h => (by rw [h] at hr; cases hr), fun j hj => ?_⟩
    by_cases hji : j = i
    · subst hji; exact hy.wpOp hi hS ⟨fun _ => hS, H⟩
    · have h1 := H.2 j (ready_mono hj hji)
      have hj1 := hni listed hr j hj
      have hi1 := hni listed hr i hr
      have hl1 : (listed.setIfInBounds j true).getD n1 false = false := by rw [getD_set_ne false hj1]; exact hn
      have hl2 : ((listed.setIfInBounds i true).setIfInBounds j true).getD n1 false = false := by rw [getD_set_ne false hj1, getD_set_ne false hi1]; exact hn
      obtain ⟨hjun, oj, hoj, hall⟩ := mem_ready.1 hj
      have hnot : ∀ e ∈ oj.after, Region.binds md e = true → e.on ≠ i := fun e he hb heq => by
        have h1 := hall e he hb
        rw [heq, getD_both (mem_ready.1 hr).1] at h1
        cases h1
      have h2 := wpOp_putIf hoj (hfree j oj hoj hji hjun hnot) (fun cs b => hsel i oi cs b hi) (fun cs b => hsel j oj cs b hoj) hQ hy h1
      have hfree' : ∀ k ok, ops[k]? = some ok → k ≠ i → (listed.setIfInBounds j true).getD k true = false →
          (∀ e ∈ ok.after, Region.binds md e = true → e.on ≠ i) → oi.apart ops ok = true := fun k ok hk hki hun hno => by
        refine hfree k ok hk hki ?_ hno
        by_cases hjk : j = k
        · subst hjk; exact hjun
        · rw [getD_set_ne true hjk] at hun; exact hun
      refine wpOp_mono (fun a' w' h3 => ⟨fun _ => h3.2.1 hl2, ih (listed.setIfInBounds j true) a' w' hfree' (ready_mono hr (Ne.symm hji)) hl1 h3.1 (h3.2.1 hl2) ?_⟩) h2
      rw [Array.setIfInBounds_comm _ _ hji]
      exact h3.2.2

theorem wpAnyE_of_any : ∀ (fuel : Nat) (listed : Array Bool) (a : Act) (w : World), listed.getD n1 false = true → wpAny P md ops Q fuel listed a w → wpAnyE P md ops Q S n1 fuel listed a w
  | 0, _, _, _, _, h => h
  | fuel + 1, listed, a, w, hl, h => ⟨h.1, fun i hi => wpOp_mono (fun a' w' h' => ⟨fun h0 => (by rw [getD_set_true hl] at h0; cases h0), wpAnyE_of_any fuel _ a' w' (getD_set_true hl) h'⟩) (h.2 i hi)⟩
theorem wpAnyE_rest {fuel : Nat} {listed : Array Bool} {a : Act} {w : World} (hr : Region.ready md ops listed = [n1]) (hs : n1 < listed.size) (h : wpAny P md ops Q (fuel + 1) listed a w) : wpAnyE P md ops Q S n1 (fuel + 1) listed a w := by
  refine ⟨h.1, fun i hi => ?_⟩
  have hl : ∀ i, i ∈ Region.ready md ops listed → (listed.setIfInBounds i true).getD n1 false = true := by
    intro i hi
    rw [hr] at hi
    obtain rfl := List.mem_singleton.1 hi
    simp [hs]
  exact wpOp_mono (fun a' w' h' => ⟨fun h0 => (by rw [hl i hi] at h0; cases h0), wpAnyE_of_any fuel _ a' w' (hl i hi) h'⟩) (h.2 i hi)

/-- the post for one operation -/
def midQ (Q : Exit → Act → World → Prop) (K : Act → World → Prop) : Exit → Act → World → Prop
  | .normal, a, w => K a w
  | e, a, w => Q e a w
theorem wp_midQ {o : Oper} {a : Act} {w : World} {K K2 : Act → World → Prop} (hh : o.wp P a w K (midQ Q K2)) : o.wp P a w K Q := by
  unfold Oper.wp at *
  generalize (execOp a.eval o).run P w = r at *
  cases r with
  | ok n w' =>
    cases n <;> simp only [Oper.upon] at hh ⊢ <;>
      first
        | exact hh
        | exact Calls.mono hh (fun e w'' he => by cases e <;> first | exact he | exact he)
        | exact Rows.mono hh (fun _ _ he => he)
  | halt x w' => cases x <;> simp only [Oper.upon] at hh ⊢ <;> exact hh
theorem wpOp_of_mid {k : Nat} {o : Oper} {a : Act} {w : World} {K : Act → World → Prop} (h0 : ops[k]? = some o) (h : wpList P ops (midQ Q K) [o] a w) : wpOp P ops Q k K a w := by
  unfold wpOp
  simp only [h0]
  unfold wpList at h
  split
  · rename_i hw
    simp only [hw, if_true] at h
    rcases h with h | ⟨h1, h2⟩
    · exact .inl (wp_midQ h)
    · exact .inr ⟨h1, h2⟩
  · rename_i hw
    simp only [hw] at h
    exact h
/-- some operations in order, behind each of which S holds -/
def wpMid (P : Program) (ops : Array Oper) (Q : Exit → Act → World → Prop) (S : World → Prop) (K : Act → World → Prop) : List Oper → Act → World → Prop
  | [], a, w => K a w
  | o :: l, a, w => wpList P ops (midQ Q fun a' w' => S w' ∧ wpMid P ops Q S K l a' w') [o] a w
/-- reads in order, each in whatever world in which S holds -/
def wpReads (P : Program) (S : World → Prop) (L : Act → Prop) : List Oper → Act → Prop
  | [], a => L a
  | o :: l, a => ∃ v, (o.guard = none ∧ ∀ w, S w → (execOp a.eval o).run P w = .ok (.value v) w) ∧ wpReads P S L l (a.put o.dst v)
theorem wpReads_cons {L : Act → Prop} {o : Oper} {l : List Oper} {a : Act} (hg : o.guard = none) (v : Value) (h : ∀ w, S w → (execOp a.eval o).run P w = .ok (.value v) w) (hr : wpReads P S L l (a.put o.dst v)) : wpReads P S L (o :: l) a := ⟨v, ⟨hg, h⟩, hr⟩

def midB (md : Region.Mode) (ops : Array Oper) (n1 g : Nat) : Nat → Nat → Array Bool → Bool
  | 0, k, listed => decide (k = n1) && decide (Region.ready md ops listed = [n1]) && decide (n1 < listed.size) && Region.seqB md ops (g + 1) k listed
  | f + 1, k, listed => decide (Region.ready md ops listed = [k]) && decide (k < n1) && midB md ops n1 g f (k + 1) (listed.setIfInBounds k true)
def headB (md : Region.Mode) (ops : Array Oper) (n1 m g : Nat) : Nat → Nat → Array Bool → Bool
  | 0, k, listed => midB md ops n1 g m k listed
  | f + 1, k, listed => (Region.ready md ops listed).contains k && Region.free md ops listed k && Region.waitsFor md ops n1 k && !(listed.getD n1 false) && headB md ops n1 m g f (k + 1) (listed.setIfInBounds k true)

theorem wpAnyE_mid (r : List Oper) (hr : ∀ j, r[j]? = ops[n1 + j]?) {g : Nat} (hg : r.length = g + 1) : ∀ (l : List Oper) (k : Nat) (listed : Array Bool) (a : Act) (w : World), (∀ j, j < l.length → l[j]? = ops[k + j]?) →
    midB md ops n1 g l.length k listed = true → wpMid P ops Q S (fun a w => wpList P ops Q r a w) l a w → wpAnyE P md ops Q S n1 (l.length + (g + 1)) listed a w
  | [], k, listed, a, w, _, hB, h => by
    simp only [List.length_nil, midB, Bool.and_eq_true, decide_eq_true_eq] at hB
    obtain ⟨⟨⟨rfl, h1⟩, h2⟩, h3⟩ := hB
    simp only [List.length_nil, Nat.zero_add]
    refine wpAnyE_rest h1 h2 ?_
    rw [← hg]
    exact wpAny_of_seq r k listed a w hr (by rw [hg]; exact h3) h
  | o :: l, k, listed, a, w, hl, hB, h => by
    have h0 : ops[k]? = some o := by simpa using (hl 0 (by simp)).symm
    simp only [List.length_cons, midB, Bool.and_eq_true, decide_eq_true_eq] at hB
    obtain ⟨⟨h1, h2⟩, h3⟩ := hB
    rw [show (o :: l).length + (g + 1) = (l.length + (g + 1)) + 1 by simp; omega]
    refine ⟨fun h4 => (by rw [h1] at h4; cases h4), fun i hi => ?_⟩
    rw [h1] at hi
    obtain rfl := List.mem_singleton.1 hi
    exact wpOp_mono (fun a' w' h' => ⟨fun _ => h'.1, wpAnyE_mid r hr hg l (i + 1) _ a' w' (fun j hj => by have := hl (j + 1) (by simp; omega); simpa [Nat.add_assoc, Nat.add_comm 1 j] using this) h3 h'.2⟩) (wpOp_of_mid h0 h)
theorem wpAnyE_head (hsel : Region.noSelect ops = true) (hQ : ∀ c a (d : Option Tmp) v w, Q (.panic c) (a.put d v) w → Q (.panic c) a w) {w : World} (hS : S w) (r : List Oper) (hr : ∀ j, r[j]? = ops[n1 + j]?) {g : Nat} (hg : r.length = g + 1)
    (m : List Oper) : ∀ (l : List Oper) (k : Nat) (listed : Array Bool) (a : Act), (∀ j, j < l.length → l[j]? = ops[k + j]?) → (∀ j, j < m.length → m[j]? = ops[k + l.length + j]?) →
    headB md ops n1 m.length g l.length k listed = true → wpReads P S (fun a => wpMid P ops Q S (fun a w => wpList P ops Q r a w) m a w) l a → wpAnyE P md ops Q S n1 (l.length + (m.length + (g + 1))) listed a w
  | [], k, listed, a, _, hm, hB, h => by
    simp only [List.length_nil, headB] at hB
    simp only [List.length_nil, Nat.zero_add]
    exact wpAnyE_mid r hr hg m k listed a w (by simpa using hm) hB h
  | o :: l, k, listed, a, hl, hm, hB, h => by
    have h0 : ops[k]? = some o := by simpa using (hl 0 (by simp)).symm
    simp only [List.length_cons, headB, Bool.and_eq_true, Bool.not_eq_true'] at hB
    obtain ⟨⟨⟨⟨h1, h2⟩, h3⟩, h4⟩, h5⟩ := hB
    obtain ⟨v, ⟨hg0, hy⟩, hrest⟩ := h
    rw [show (o :: l).length + (m.length + (g + 1)) = (l.length + (m.length + (g + 1))) + 1 by simp; omega]
    refine wpAnyE_first h0 (Region.noSelect_spec hsel) (fun c a w => hQ c a _ _ w) h3 _ listed a w (Region.free_spec h0 h2) (by simpa using h1) h4 (.inl ⟨by simp [Region.wanted, hg0], hy⟩) hS ?_
    exact wpAnyE_head hsel hQ hS r hr hg m l (k + 1) _ _ (fun j hj => by have := hl (j + 1) (by simp; omega); simpa [Nat.add_assoc, Nat.add_comm 1 j] using this) (fun j hj => by have := hm j hj; simpa [Nat.add_assoc, Nat.add_comm 1, Nat.add_left_comm] using this) h5 hrest
def phasedB (ops : Array Oper) (n0 m g : Nat) : Bool := Region.noSelect ops && decide (ops.size = n0 + (m + (g + 1))) && headB .any ops (n0 + m) m g n0 0 (Array.replicate ops.size false)
/-- n0 reads; m operations behind each of which S holds; the rest -/
theorem wp_region_phased {id : Nat} {a : Act} {w : World} {l : List Oper} (n0 m g : Nat) (S : World → Prop) (hm : P.follows .mixedOrders = true) (hB : phasedB l.toArray n0 m g = true) (hS : S w.drew)
    (h : wpReads P S (fun a => wpMid P l.toArray (NoPanic Q) S (fun a w => wpList P l.toArray (NoPanic Q) (l.drop (n0 + m)) a w) ((l.drop n0).take m) a w.drew) (l.take n0) a) : (Code.region id l.toArray true).wp P Q a w := by
  simp only [phasedB, Bool.and_eq_true, decide_eq_true_eq, List.size_toArray] at hB
  obtain ⟨⟨hsel, hsz⟩, hh⟩ := hB
  refine wp_region_noPanic (wp_region_any hm (wpAny_of_E (S := S) (n1 := n0 + m) _ _ _ _ ?_))
  have l1 : (l.take n0).length = n0 := by simp; omega
  have l2 : ((l.drop n0).take m).length = m := by simp; omega
  have l3 : (l.drop (n0 + m)).length = g + 1 := by simp; omega
  have e : l.toArray.size = (l.take n0).length + (((l.drop n0).take m).length + (g + 1)) := by rw [l1, l2]; simpa using hsz
  rw [e]
  refine wpAnyE_head (w := w.drew) hsel (fun c a d v w h => h) hS (l.drop (n0 + m)) (fun j => by simp [List.getElem?_drop]) l3 ((l.drop n0).take m) (l.take n0) 0 _ a (fun j hj => ?_) (fun j hj => ?_) ?_ h
  · rw [l1] at hj
    simp [hj]
  · rw [l2] at hj
    rw [l1]
    simp [hj, List.getElem?_drop]
  · rw [l1, l2]
    have : (l.take n0).length + (((l.drop n0).take m).length + (g + 1)) = l.toArray.size := e.symm
    rw [l1, l2] at this
    rw [this]
    simpa using hh
/-- reads in order, guarded ones too -/
def wpReadsY (P : Program) (ops : Array Oper) (S : World → Prop) (L : Act → Prop) : List Oper → Act → Prop
  | [], a => L a
  | o :: l, a => ∃ v, YieldsIf P ops S o v a ∧ wpReadsY P ops S L l (a.put o.dst v)
theorem readsY_cons {L : Act → Prop} {o : Oper} {l : List Oper} {a : Act} (hg : Region.wanted o (yielded ops a.tmps) = true) (v : Value) (h : ∀ w, S w → (execOp a.eval o).run P w = .ok (.value v) w) (hr : wpReadsY P ops S L l (a.put o.dst v)) : wpReadsY P ops S L (o :: l) a := ⟨v, .inl ⟨hg, h⟩, hr⟩
theorem readsY_skip {L : Act → Prop} {o : Oper} {l : List Oper} {a : Act} (hg : Region.wanted o (yielded ops a.tmps) = false) (hr : wpReadsY P ops S L l (a.put o.dst undef)) : wpReadsY P ops S L (o :: l) a := ⟨undef, .inr ⟨hg, rfl⟩, hr⟩
def allB (md : Region.Mode) (ops : Array Oper) : Nat → Nat → Array Bool → Bool
  | 0, k, listed => (Region.ready md ops listed).isEmpty
  | f + 1, k, listed => (Region.ready md ops listed).contains k && Region.free md ops listed k && allB md ops f (k + 1) (listed.setIfInBounds k true)
theorem wpAnyH_all_reads (hsel : Region.noSelect ops = true) (hQ : ∀ c a (d : Option Tmp) v w, Q (.panic c) (a.put d v) w → Q (.panic c) a w) {w : World} (hS : S w) :
    ∀ (l : List Oper) (k : Nat) (listed : Array Bool) (a : Act), (∀ j, j < l.length → l[j]? = ops[k + j]?) → allB md ops l.length k listed = true → wpReadsY P ops S (fun a => Q .normal a w) l a → wpAnyH P md ops Q S l.length listed a w
  | [], k, listed, a, _, hB, h => wpAnyH_done (by simpa [allB] using hB) h _
  | o :: l, k, listed, a, hl, hB, h => by
    have h0 : ops[k]? = some o := by simpa using (hl 0 (by simp)).symm
    simp only [List.length_cons, allB, Bool.and_eq_true] at hB
    obtain ⟨⟨h1, h2⟩, h5⟩ := hB
    obtain ⟨v, hy, hrest⟩ := h
    exact wpAnyH_take h0 hsel h2 h1 (fun c a w => hQ c a _ _ w) hy hS (wpAnyH_all_reads hsel hQ hS l (k + 1) _ _ (fun j hj => by have := hl (j + 1) (by simp; omega); simpa [Nat.add_assoc, Nat.add_comm 1 j] using this) h5 hrest)
/-- a region of reads alone -/
theorem wp_region_reads {id : Nat} {a : Act} {w : World} {l : List Oper} (S : World → Prop) (hm : P.follows .mixedOrders = true) (hB : (Region.noSelect l.toArray && allB .any l.toArray l.length 0 (Array.replicate l.length false)) = true) (hS : S w.drew)
    (h : wpReadsY P l.toArray S (fun a => NoPanic Q .normal a w.drew) l a) : (Code.region id l.toArray true).wp P Q a w := by
  simp only [Bool.and_eq_true] at hB
  refine wp_region_noPanic (wp_region_held (S := S) hm ?_)
  have := wpAnyH_all_reads (Q := NoPanic Q) (md := .any) hB.1 (fun c a d v w h => h) hS l 0 (Array.replicate l.length false) a (fun j hj => by simp) hB.2 h
  simpa using this
theorem midQ_ok {M : Act → World → Prop} {a : Act} {w : World} (h1 : S w) (h2 : M a w) : midQ Q (fun a w => S w ∧ M a w) .normal a w := ⟨h1, h2⟩
end
end Go.Proofs.YtjdbjahgimlhbaaGreat
end
section
set_option linter.unusedVariables false
namespace Go.Proofs.YtjdbjahgimlhbaaGreat
open Go

section
variable {P : Program} {ops : Array Oper} {Q : Exit → Act → World → Prop} {md : Region.Mode} {S : World → Prop}

/-- the operations in an order: (i, true): read; (i, false): carried out, alone -/
def wpOrd (P : Program) (ops : Array Oper) (Q : Exit → Act → World → Prop) (S : World → Prop) : List (Nat × Bool) → Act → World → Prop
  | [], a, w => Q .normal a w
  | (i, true) :: r, a, w => ∃ o v, ops[i]? = some o ∧ YieldsIf P ops S o v a ∧ wpOrd P ops Q S r (a.put o.dst v) w
  | (i, false) :: r, a, w => ∃ o, ops[i]? = some o ∧ wpList P ops (midQ Q fun a' w' => S w' ∧ wpOrd P ops Q S r a' w') [o] a w
def ordB (md : Region.Mode) (ops : Array Oper) : List (Nat × Bool) → Array Bool → Bool
  | [], listed => (Region.ready md ops listed).isEmpty
  | (i, true) :: r, listed => (Region.ready md ops listed).contains i && Region.free md ops listed i && ordB md ops r (listed.setIfInBounds i true)
  | (i, false) :: r, listed => decide (Region.ready md ops listed = [i]) && ordB md ops r (listed.setIfInBounds i true)
theorem wpAnyH_ord (hsel : Region.noSelect ops = true) (hQ : ∀ c a (d : Option Tmp) v w, Q (.panic c) (a.put d v) w → Q (.panic c) a w) :
    ∀ (r : List (Nat × Bool)) (listed : Array Bool) (a : Act) (w : World), S w → ordB md ops r listed = true → wpOrd P ops Q S r a w → wpAnyH P md ops Q S r.length listed a w
  | [], listed, a, w, _, hB, h => wpAnyH_done (by simpa [ordB] using hB) h _
  | (i, true) :: r, listed, a, w, hS, hB, h => by
    simp only [ordB, Bool.and_eq_true] at hB
    obtain ⟨⟨h1, h2⟩, h3⟩ := hB
    obtain ⟨o, v, h0, hy, hrest⟩ := h
    exact wpAnyH_take h0 hsel h2 h1 (fun c a w => hQ c a _ _ w) hy hS (wpAnyH_ord hsel hQ r _ _ _ hS h3 hrest)
  | (i, false) :: r, listed, a, w, hS, hB, h => by
    simp only [ordB, Bool.and_eq_true, decide_eq_true_eq] at hB
    obtain ⟨h1, h3⟩ := hB
    obtain ⟨o, h0, hl⟩ := h
    refine wpAnyH_all h1 (by simp) (fun j hj => ?_)
    obtain rfl := List.mem_singleton.1 hj
    exact wpOp_mono (fun a' w' h' => ⟨h'.1, wpAnyH_ord hsel hQ r _ a' w' h'.1 h3 h'.2⟩) (wpOp_of_mid h0 hl)
theorem wp_region_ord {id : Nat} {a : Act} {w : World} {l : List Oper} (ord : List (Nat × Bool)) (S : World → Prop) (hm : P.follows .mixedOrders = true) (hB : (Region.noSelect l.toArray && decide (ord.length = l.length) && ordB .any l.toArray ord (Array.replicate l.length false)) = true) (hS : S w.drew)
    (h : wpOrd P l.toArray (NoPanic Q) S ord a w.drew) : (Code.region id l.toArray true).wp P Q a w := by
  simp only [Bool.and_eq_true, decide_eq_true_eq] at hB
  obtain ⟨⟨h1, h2⟩, h3⟩ := hB
  refine wp_region_noPanic (wp_region_held (S := S) hm ?_)
  have := wpAnyH_ord (Q := NoPanic Q) (md := .any) h1 (fun c a d v w h => h) ord (Array.replicate l.length false) a w.drew hS h3 h
  rw [h2] at this
  simpa using this
theorem ord_read {i : Nat} {o : Oper} {r : List (Nat × Bool)} {a : Act} {w : World} (h0 : ops[i]? = some o) (hg : Region.wanted o (yielded ops a.tmps) = true) (v : Value) (h : ∀ w, S w → (execOp a.eval o).run P w = .ok (.value v) w) (hr : wpOrd P ops Q S r (a.put o.dst v) w) : wpOrd P ops Q S ((i, true) :: r) a w := ⟨o, v, h0, .inl ⟨hg, h⟩, hr⟩
theorem ord_skip {i : Nat} {o : Oper} {r : List (Nat × Bool)} {a : Act} {w : World} (h0 : ops[i]? = some o) (hg : Region.wanted o (yielded ops a.tmps) = false) (hr : wpOrd P ops Q S r (a.put o.dst undef) w) : wpOrd P ops Q S ((i, true) :: r) a w := ⟨o, undef, h0, .inr ⟨hg, rfl⟩, hr⟩
theorem ord_act {i : Nat} {o : Oper} {r : List (Nat × Bool)} {a : Act} {w : World} (h0 : ops[i]? = some o) (h : wpList P ops (midQ Q fun a' w' => S w' ∧ wpOrd P ops Q S r a' w') [o] a w) : wpOrd P ops Q S ((i, false) :: r) a w := ⟨o, h0, h⟩
theorem ord_done {a : Act} {w : World} (h : Q .normal a w) : wpOrd P ops Q S [] a w := h
end
end Go.Proofs.YtjdbjahgimlhbaaGreat
end
section
set_option linter.unusedVariables false
set_option maxRecDepth 100000
namespace Go.Proofs.YtjdbjahgimlhbaaGreat
open Go.RowKit

structure TwoAt (w : World) (pa ga pb gb : Nat) (xs ys : List Nat) : Prop where
  a : PlainAt w pa ga xs
  b : PlainAt w pb gb ys
  ne : ga ≠ gb
section
variable {w w' : World} {pa ga pb gb : Nat} {xs ys : List Nat}
theorem TwoAt.pa_ga (h : TwoAt w pa ga pb gb xs ys) : pa ≠ ga := h.a.ne
theorem TwoAt.pa_gb (h : TwoAt w pa ga pb gb xs ys) : pa ≠ gb := h.a.head.ne_ h.b.row (by decide)
theorem TwoAt.pb_ga (h : TwoAt w pa ga pb gb xs ys) : pb ≠ ga := h.b.head.ne_ h.a.row (by decide)
theorem TwoAt.pb_gb (h : TwoAt w pa ga pb gb xs ys) : pb ≠ gb := h.b.ne
theorem TwoAt.fr {S : Nat → Prop} (h : TwoAt w pa ga pb gb xs ys) (hf : Fr S w w') (h1 : ¬ S pa) (h2 : ¬ S ga) (h3 : ¬ S pb) (h4 : ¬ S gb) : TwoAt w' pa ga pb gb xs ys := ⟨h.a.fr hf h1 h2, h.b.fr hf h3 h4, h.ne⟩
theorem TwoAt.still (h : TwoAt w pa ga pb gb xs ys) (hf : Fr (fun _ => False) w w') : TwoAt w' pa ga pb gb xs ys := h.fr hf id id id id
theorem TwoAt.setA (h : TwoAt w pa ga pb gb xs ys) {zs : List Nat} (hp : PlainAt w' pa ga zs) (hf : Fr (fun k => k = ga) w w') : TwoAt w' pa ga pb gb zs ys := ⟨hp, h.b.fr hf h.pb_ga (fun e => h.ne e.symm), h.ne⟩
theorem TwoAt.setB (h : TwoAt w pa ga pb gb xs ys) {zs : List Nat} (hp : PlainAt w' pb gb zs) (hf : Fr (fun k => k = gb) w w') : TwoAt w' pa ga pb gb xs zs := ⟨h.a.fr hf h.pa_gb h.ne, hp, h.ne⟩
theorem Fr.ab {S : Nat → Prop} {w0 : World} (h : Fr S w0 w) (k : Fr (fun k => k = ga ∨ k = gb) w w') (h1 : S ga ∨ w0.heap.size ≤ ga) (h2 : S gb ∨ w0.heap.size ≤ gb) : Fr S w0 w' := h.trans k (by rintro k (rfl | rfl) <;> assumption)
end
theorem set_z {p g : Nat} {xs : List Nat} {w : World} (h : PlainAt w p g xs) (i y : Nat) (z : Int) (hz : z = y) (hi : i < xs.length) (hy : y < 18446744073709551616) :
    Calls Tryz.prog 155 #[.pointer (some ⟨p, 0, none⟩), .int .i64 i, .int .u64 z] w fun e w' => e = .returned (.int .i64 0) ∧ PlainAt w' p g (xs.set i y) ∧ Fr (fun k => k = g) w w' := by
  subst hz
  exact set_in h i y hi hy
theorem check_any {pa ga pb gb : Nat} {xs ys : List Nat} {w : World} (h : TwoAt w pa ga pb gb xs ys) :
    Calls Tryz.prog 42 #[vecv pa, vecv pb] w fun e w' => e = .returned (.int .i64 (errB (mayB xs.length ys.length))) ∧ w = w' := by
  have h3 := h.a.len
  by_cases h1 : 1 ≤ xs.length
  · by_cases h2 : ys.length = xs.length
    · have hr : mayB xs.length ys.length = true := by simp [mayB]; omega
      rw [hr]
      exact check_ok h.a h.b h1 h2
    · have hr : mayB xs.length ys.length = false := by simp [mayB]; omega
      have hm := fun p => meth_len p
      have hbe : ((ys.length : Int) != (xs.length : Int)) = true := by simp; omega
      rw [hr]
      have H := hide h
      unfold vecv
      clear h hr h2
      go_enter Tryz.func42, Tryz.ntmps42
      go_wp2_with fail
      go_at_call 154
      refine (len_any H.out.a).mono ?_
      rintro e w1 ⟨rfl, rfl⟩
      go_wp2_with fail
      go_at_call 154
      refine (len_any H.out.b).mono ?_
      rintro e w1 ⟨rfl, rfl⟩
      go_wp2
      go_ret
      exact ⟨rfl, rfl⟩
  · have hr : mayB xs.length ys.length = false := by simp [mayB]; omega
    have hm := fun p => meth_len p
    rw [hr]
    have H := hide h
    unfold vecv
    clear h hr
    go_enter Tryz.func42, Tryz.ntmps42
    go_wp2_with fail
    go_at_call 154
    refine (len_any H.out.a).mono ?_
    rintro e w1 ⟨rfl, rfl⟩
    go_wp2
    go_ret
    exact ⟨rfl, rfl⟩

theorem check_nilA (v : Value) (w : World) (hv : v = .nilIface ∨ ∃ p, v = vecv p) :
    Calls Tryz.prog 42 #[.nilIface, v] w fun e w' => e = .returned (.int .i64 1) ∧ w = w' := by
  unfold vecv at hv
  rcases hv with rfl | ⟨p, rfl⟩
  · go_enter Tryz.func42, Tryz.ntmps42
    go_wp2
    go_ret
    exact ⟨rfl, rfl⟩
  · go_enter Tryz.func42, Tryz.ntmps42
    go_wp2
    go_ret
    exact ⟨rfl, rfl⟩
theorem check_nilB (p : Nat) (w : World) :
    Calls Tryz.prog 42 #[vecv p, .nilIface] w fun e w' => e = .returned (.int .i64 1) ∧ w = w' := by
  unfold vecv
  go_enter Tryz.func42, Tryz.ntmps42
  go_wp2
  go_ret
  exact ⟨rfl, rfl⟩
theorem check_empty {p g : Nat} {w : World} (h : PlainAt w p g []) :
    Calls Tryz.prog 42 #[vecv p, vecv p] w fun e w' => e = .returned (.int .i64 2) ∧ w = w' := by
  have hm := fun p => meth_len p
  have L := hide (len_any h)
  unfold vecv
  clear h
  go_enter Tryz.func42, Tryz.ntmps42
  go_wp2_with fail
  go_at_call 154
  refine L.out.mono ?_
  rintro e w1 ⟨rfl, rfl⟩
  go_wp2
  go_ret
  exact ⟨rfl, rfl⟩

/-- the first k places of a row set anew -/
def pre (f : Nat → Nat) (k : Nat) (xs : List Nat) : List Nat := (List.range k).map f ++ xs.drop k
theorem pre_zero (f : Nat → Nat) (xs : List Nat) : pre f 0 xs = xs := by simp [pre]
theorem pre_len (f : Nat → Nat) {k : Nat} {xs : List Nat} (h : k ≤ xs.length) : (pre f k xs).length = xs.length := by simp [pre]; omega
theorem pre_full (f : Nat → Nat) {k : Nat} {xs : List Nat} (h : xs.length = k) : pre f k xs = (List.range k).map f := by
  unfold pre; rw [List.drop_of_length_le (by omega)]; simp
theorem pre_get (f : Nat → Nat) {k : Nat} {xs : List Nat} (h : k < xs.length) : (pre f k xs).getD k 0 = xs.getD k 0 := by
  unfold pre
  simp only [List.getD]
  rw [List.getElem?_append_right (by simp)]
  simp [List.getElem?_drop]
theorem pre_set (f : Nat → Nat) {k : Nat} {xs : List Nat} (h : k < xs.length) : (pre f k xs).set k (f k) = pre f (k + 1) xs := by
  unfold pre
  rw [List.set_append_right _ _ (by simp)]
  simp only [List.length_map, List.length_range, Nat.sub_self]
  rw [List.drop_eq_getElem_cons h, List.set_cons_zero, List.range_succ, List.map_append, List.append_assoc]; rfl
theorem pre_same {xs : List Nat} {f : Nat → Nat} (hf : ∀ i, i < xs.length → f i = xs.getD i 0) : (List.range xs.length).map f = xs := by
  apply List.ext_getElem
  · simp
  · intro i h1 h2
    simp only [List.getElem_map, List.getElem_range]
    rw [hf i h2]
    simp [List.getD, h2]

/-- the edges of lists: where each begins, where it leads, how many begin there -/
def edgs (fr : Int) : List (List Int) → List (Int × Int × Nat)
  | [] => []
  | l :: L => l.map (fun v => (fr, v, l.length)) ++ edgs (fr + 1) L
theorem edgs_ok {n : Nat} : ∀ (L : List (List Int)) (fr : Int), okLs n L = true → 0 ≤ fr → fr + L.length ≤ n → (∀ l ∈ L, l.length ≤ 9223372036854775807) → ∀ e ∈ edgs fr L, (0 ≤ e.1 ∧ e.1 < n) ∧ (0 ≤ e.2.1 ∧ e.2.1 < n) ∧ 1 ≤ e.2.2 ∧ e.2.2 ≤ 9223372036854775807
  | [], _, _, _, _, _, e, he => by simp [edgs] at he
  | l :: L, fr, h, h0, h1, hlen, e, he => by
    simp only [okLs, List.all_cons, Bool.and_eq_true] at h
    simp only [List.length_cons] at h1
    rcases List.mem_append.1 he with he | he
    · obtain ⟨v, hv, rfl⟩ := List.mem_map.1 he
      have := List.all_eq_true.1 h.1 v hv
      simp only [okV, decide_eq_true_eq] at this
      have hl := List.length_pos_of_mem hv
      exact ⟨⟨h0, by simp only []; omega⟩, this, hl, hlen l (by simp)⟩
    · exact edgs_ok L (fr + 1) h.2 (by omega) (by omega) (fun l h => hlen l (List.mem_cons_of_mem _ h)) e he

/-- what is still to be done, done from here, comes to the whole -/
def Togo {σ : Type} (step : σ → Int × Int × Nat → σ) (P : Int × Int × Nat → Prop) (z s : σ) (rest : List (Int × Int × Nat)) : Prop := z = rest.foldl step s ∧ ∀ e ∈ rest, P e
theorem Togo.next {σ : Type} {step : σ → Int × Int × Nat → σ} {P : Int × Int × Nat → Prop} {z s : σ} {e : Int × Int × Nat} {rest : List (Int × Int × Nat)} (h : Togo step P z s (e :: rest)) : Togo step P z (step s e) rest ∧ P e :=
  ⟨⟨h.1, fun x hx => h.2 x (List.mem_cons_of_mem _ hx)⟩, h.2 e (by simp)⟩

theorem edges_any (F : Nat) (hF : ∀ args w, (callFunc F args).run Tryz.prog w = .ok (.enter F args) w) (cap : Array Value) (fr to : Int) (m c : Nat) (A : Option Addr) (vs : List Value) (L : List (List Int)) (w : World)
    {σ : Type} (step : σ → Int × Int × Nat → σ) (P : Int × Int × Nat → Prop) (R : σ → World → Prop) (s0 : σ)
    (h0 : 0 ≤ fr) (h1 : fr + m ≤ 256) (hm : m = L.length) (hP : ∀ e ∈ edgs fr L, P e)
    (hR : R s0 (w.alloc (.cells #[.int .i64 fr, .int .i64 to, .slice A m c] 43)))
    (hW : ∀ s w', R s w' → LsAt w' vs A m L ∧ w'.cell? ⟨w.heap.size, 0, none⟩ = some (.int .i64 fr))
    (hstep : ∀ s e w', P e → R s w' → Calls Tryz.prog F (#[.int .i64 e.1, .int .i64 e.2.1, .int .i64 (e.2.2 : Int)] ++ cap) w' fun x w'' => x = .returned (.int .i64 0) ∧ R (step s e) w'') :
    Calls Tryz.prog 90 #[.agg #[.int .i64 fr, .int .i64 to, .slice A m c], .func (.func F) #[] cap] w fun x w' => x = .returned (.int .i64 0) ∧ R ((edgs fr L).foldl step s0) w' := by
  have HT : Hid (∃ s, R s (w.alloc (.cells #[.int .i64 fr, .int .i64 to, .slice A m c] 43)) ∧ Togo step P ((edgs fr L).foldl step s0) s (edgs (fr + (0 : Nat)) (L.drop 0))) := ⟨s0, hR, by rw [show fr + ((0 : Nat) : Int) = fr by omega]; exact ⟨rfl, hP⟩⟩
  generalize (edgs fr L).foldl step s0 = z at *
  have HM := hide hm
  have HW := hide hW
  have HST := hide hstep
  clear hm hW hstep hR hP
  go_enter Tryz.func90, Tryz.ntmps90
  go_wp2
  go_loopw [13] (fun i wr => ∃ k : Nat, k ≤ m ∧ i = .int .i64 k ∧ Hid (∃ s, R s wr ∧ Togo step P z s (edgs (fr + k) (L.drop k)))) (fun i _ => m - (intOf i).toNat)
  case atStart => exact ⟨0, by omega, rfl, HT⟩
  case round =>
    obtain ⟨k, hk, rfl, HK⟩ := hrel
    by_cases hlt : k < m
    · obtain ⟨wo, rfl⟩ : ∃ wo : World, wo = wr := ⟨_, rfl⟩
      obtain ⟨s, hs, ht⟩ := HK.out
      obtain ⟨b, o, A', c', l', rfl, hb, hd, hc, hr1, hmx, hvk⟩ := (HW.out s _ hs).1.at_ hlt
      rw [hd] at ht
      have HI : Hid (∃ s, R s wo ∧ Togo step P z s ((l'.drop 0).map (fun v => (fr + k, v, l'.length)) ++ edgs (fr + k + 1) (L.drop (k + 1)))) := ⟨s, hs, ht⟩
      have HR : Hid (∀ s w', R s w' → Reads w' w'.heap.size 1 A' l'.length (l'.map (.int .i64))) := by
        intro s w' h
        obtain ⟨_, _, A2, c2, l2, _, _, hd2, _, hr2, _, hv2⟩ := (HW.out s w' h).1.at_ hlt
        rw [hd] at hd2
        obtain ⟨rfl, _⟩ := List.cons.inj hd2
        rw [hvk] at hv2
        injection hv2 with hv2
        injection hv2 with e1 e2 e3
        rw [e1]
        exact hr2
      clear ht hs hd HK hr1 hvk
      generalize hq : l'.length = q at *
      go_wp2
      go_loopw [20] (fun i wr => ∃ j : Nat, j ≤ q ∧ i = .int .i64 j ∧ Hid (∃ s, R s wr ∧ Togo step P z s ((l'.drop j).map (fun v => (fr + k, v, q)) ++ edgs (fr + k + 1) (L.drop (k + 1))))) (fun i _ => q - (intOf i).toNat)
      case atStart => exact ⟨0, by omega, rfl, HI⟩
      case round =>
        obtain ⟨j, hj, rfl, HJ⟩ := hrel
        obtain ⟨s, hs, ht⟩ := HJ.out
        by_cases hlt2 : j < q
        · obtain ⟨b2, o2, v, rfl, hb2, hd2, hc2⟩ := ints_at (HR.out s _ hs) hlt2
          have hcf := (HW.out s _ hs).2
          rw [hd2] at ht
          have HX := hide ht.next
          have HS := hide hs
          clear ht hs hd2 HJ
          go_wp2_with fail
          refine (HST.out s (fr + k, v, q) _ HX.out.2 HS.out).mono ?_
          rintro e w1 ⟨rfl, hs1⟩
          have HS1 := hide hs1
          clear hs1
          go_wp2
          go_roundw
          case rel => exact ⟨j + 1, by omega, by go_num, _, HS1.out, HX.out.1⟩
          case measure => simp [intOf]; omega
        · have HZ : Hid (∃ s, R s wr ∧ Togo step P z s (edgs (fr + (k + 1 : Nat)) (L.drop (k + 1)))) := by
            rw [List.drop_of_length_le (by omega)] at ht
            refine ⟨s, hs, ?_⟩
            rw [show fr + ((k + 1 : Nat) : Int) = fr + k + 1 by omega]
            exact ht
          clear ht hs HJ
          go_wp2
          go_roundw
          case rel => exact ⟨k + 1, by omega, by go_num, HZ⟩
          case measure => simp [intOf]; omega
    · have HZ : Hid (R z wr) := by
        obtain ⟨s, hs, ht⟩ := HK.out
        rw [List.drop_of_length_le (by rw [← HM.out]; omega)] at ht
        rw [ht.1]
        exact hs
      clear HK
      go_wp2
      go_ret
      exact ⟨rfl, HZ.out⟩
end Go.Proofs.YtjdbjahgimlhbaaGreat
end
