/- Parts of the proof of several laws: no conditions of their own. -/
import Derived.Test.YtkhbemmcegmdaaaGreatDoorWhPk0
import Derived.Deep.RegionHeld3
import Derived.StillTailTactics
import Derived.Test.YtkhbemmcegmdaaaGreatDoorWhPk4
section
set_option linter.all false
set_option linter.unusedVariables false
namespace Go.Proofs.YtkhbemmcegmdaaaGreatDoor
open Go

section
variable {P : Program} {ops : Array Oper} {Q : Exit → Act → World → Prop} {md : Region.Mode} {S : World → Prop} {n1 : Nat}

def wpAnyE (P : Program) (md : Region.Mode) (ops : Array Oper) (Q : Exit → Act → World → Prop) (S : World → Prop) (n1 : Nat) : Nat → Array Bool → Act → World → Prop
  | 0, listed, a, w => Region.ready md ops listed = [] ∧ Q .normal a w
  | fuel + 1, listed, a, w =>
    (Region.ready md ops listed = [] → Q .normal a w) ∧
    ∀ i ∈ Region.ready md ops listed, wpOp P ops Q i (fun a' w' => ((listed.setIfInBounds i true).getD n1 false = false → S w') ∧ wpAnyE P md ops Q S n1 fuel (listed.setIfInBounds i true) a' w') a w
theorem wpAny_of_E : ∀ (fuel : Nat) (listed : Array Bool) (a : Act) (w : World), wpAnyE P md ops Q S n1 fuel listed a w → wpAny P md ops Q fuel listed a w
  | 0, _, _, _, h => h
  | fuel + 1, _, _, _, h => ⟨h.1, fun i hi => wpOp_mono (fun a' w' h' => wpAny_of_E fuel _ a' w' h'.2) (h.2 i hi)⟩

theorem wpAnyE_first {i : Nat} {oi : Oper} {v : Value} (hi : ops[i]? = some oi) (hsel : ∀ (j : Nat) (o : Oper) cs b, ops[j]? = some o → o.op ≠ .select cs b)
    (hQ : ∀ c a w, Q (.panic c) (a.put oi.dst v) w → Q (.panic c) a w) (hw : Region.waitsFor md ops n1 i = true) :
    ∀ (fuel : Nat) (listed : Array Bool) (a : Act) (w : World),
      (∀ j oj, ops[j]? = some oj → j ≠ i → listed.getD j true = false → (∀ e ∈ oj.after, Region.binds md e = true → e.on ≠ i) → oi.apart ops oj = true) →
      i ∈ Region.ready md ops listed → listed.getD n1 false = false → YieldsIf P ops S oi v a → S w →
      wpAnyE P md ops Q S n1 fuel (listed.setIfInBounds i true) (a.put oi.dst v) w → wpAnyE P md ops Q S n1 (fuel + 1) listed a w := by
  have hni : ∀ listed : Array Bool, i ∈ Region.ready md ops listed → ∀ j ∈ Region.ready md ops listed, j ≠ n1 := fun listed hr j hj e => by
    subst e
    obtain ⟨oj, hoj, ed, he, hb, hon⟩ := Region.waitsFor_spec hw
    obtain ⟨_, oj', hoj', hall⟩ := mem_ready.1 hj
    have : oj' = oj := Option.some.inj (hoj'.symm.trans hoj)
    subst this
    have h1 := hall ed he hb
    rw [hon, getD_both (mem_ready.1 hr).1] at h1
    cases h1
  intro fuel
  induction fuel with
  | zero =>
    intro listed a w _ hr hn hy hS H
    refine ⟨fun h => (by rw [h] at hr; cases hr), fun j hj => ?_⟩
    by_cases hji : j = i
    · subst hji; exact hy.wpOp hi hS ⟨fun _ => hS, H⟩
    · have := ready_mono hj hji
      rw [H.1] at this
      cases this
  | succ fuel ih =>
    intro listed a w hfree hr hn hy hS H
    refine ⟨fun h => (by rw [h] at hr; cases hr), fun j hj => ?_⟩
    by_cases hji : j = i
    · subst hji; exact hy.wpOp hi hS ⟨fun _ => hS, H⟩
    · have h1 := H.2 j (ready_mono hj hji)
      have hj1 := hni listed hr j hj
      have hi1 := hni listed hr i hr
      have hl1 : (listed.setIfInBounds j true).getD n1 false = false := by rw [getD_set_ne false hj1]; exact hn
      have hl2 : ((listed.setIfInBounds i true).setIfInBounds j true).getD n1 false = false := by rw [getD_set_ne false hj1, getD_set_ne false hi1]; exact hn
      obtain ⟨hjun, oj, hoj, hall⟩ := mem_ready.1 hj
      have hnot : ∀ e ∈ oj.after, Region.binds md e = true → e.on ≠ i := fun e he hb heq => by
        have h1 := hall e he hb
        rw [heq, getD_both (mem_ready.1 hr).1] at h1
        cases h1
      have h2 := wpOp_putIf hoj (hfree j oj hoj hji hjun hnot) (fun cs b => hsel i oi cs b hi) (fun cs b => hsel j oj cs b hoj) hQ hy h1
      have hfree' : ∀ k ok, ops[k]? = some ok → k ≠ i → (listed.setIfInBounds j true).getD k true = false →
          (∀ e ∈ ok.after, Region.binds md e = true → e.on ≠ i) → oi.apart ops ok = true := fun k ok hk hki hun hno => by
        refine hfree k ok hk hki ?_ hno
        by_cases hjk : j = k
        · subst hjk; exact hjun
        · rw [getD_set_ne true hjk] at hun; exact hun
      refine wpOp_mono (fun a' w' h3 => ⟨fun _ => h3.2.1 hl2, ih (listed.setIfInBounds j true) a' w' hfree' (ready_mono hr (Ne.symm hji)) hl1 h3.1 (h3.2.1 hl2) ?_⟩) h2
      rw [Array.setIfInBounds_comm _ _ hji]
      exact h3.2.2

theorem wpAnyE_of_any : ∀ (fuel : Nat) (listed : Array Bool) (a : Act) (w : World), listed.getD n1 false = true → wpAny P md ops Q fuel listed a w → wpAnyE P md ops Q S n1 fuel listed a w
  | 0, _, _, _, _, h => h
  | fuel + 1, listed, a, w, hl, h => ⟨h.1, fun i hi => wpOp_mono (fun a' w' h' => ⟨fun h0 => (by rw [getD_set_true hl] at h0; cases h0), wpAnyE_of_any fuel _ a' w' (getD_set_true hl) h'⟩) (h.2 i hi)⟩
theorem wpAnyE_rest {fuel : Nat} {listed : Array Bool} {a : Act} {w : World} (hr : Region.ready md ops listed = [n1]) (hs : n1 < listed.size) (h : wpAny P md ops Q (fuel + 1) listed a w) : wpAnyE P md ops Q S n1 (fuel + 1) listed a w := by
  refine ⟨h.1, fun i hi => ?_⟩
  have hl : ∀ i, i ∈ Region.ready md ops listed → (listed.setIfInBounds i true).getD n1 false = true := by
    intro i hi
    rw [hr] at hi
    obtain rfl := List.mem_singleton.1 hi
    simp [hs]
  exact wpOp_mono (fun a' w' h' => ⟨fun h0 => (by rw [hl i hi] at h0; cases h0), wpAnyE_of_any fuel _ a' w' (hl i hi) h'⟩) (h.2 i hi)

/-- the post for one operation -/
def midQ (Q : Exit → Act → World → Prop) (K : Act → World → Prop) : Exit → Act → World → Prop
  | .normal, a, w => K a w
  | e, a, w => Q e a w
theorem wp_midQ {o : Oper} {a : Act} {w : World} {K K2 : Act → World → Prop} (hh : o.wp P a w K (midQ Q K2)) : o.wp P a w K Q := by
  unfold Oper.wp at *
  generalize (execOp a.eval o).run P w = r at *
  cases r with
  | ok n w' =>
    cases n <;> simp only [Oper.upon] at hh ⊢ <;>
      first
        | exact hh
        | exact Calls.mono hh (fun e w'' he => by cases e <;> first | exact he | exact he)
        | exact Rows.mono hh (fun _ _ he => he)
  | halt x w' => cases x <;> simp only [Oper.upon] at hh ⊢ <;> exact hh
theorem wpOp_of_mid {k : Nat} {o : Oper} {a : Act} {w : World} {K : Act → World → Prop} (h0 : ops[k]? = some o) (h : wpList P ops (midQ Q K) [o] a w) : wpOp P ops Q k K a w := by
  unfold wpOp
  simp only [h0]
  unfold wpList at h
  split
  · rename_i hw
    simp only [hw, if_true] at h
    rcases h with h | ⟨h1, h2⟩
    · exact .inl (wp_midQ h)
    · exact .inr ⟨h1, h2⟩
  · rename_i hw
    simp only [hw] at h
    exact h
/-- some operations in order, behind each of which S holds -/
def wpMid (P : Program) (ops : Array Oper) (Q : Exit → Act → World → Prop) (S : World → Prop) (K : Act → World → Prop) : List Oper → Act → World → Prop
  | [], a, w => K a w
  | o :: l, a, w => wpList P ops (midQ Q fun a' w' => S w' ∧ wpMid P ops Q S K l a' w') [o] a w
/-- reads in order, each in whatever world in which S holds -/
def wpReads (P : Program) (S : World → Prop) (L : Act → Prop) : List Oper → Act → Prop
  | [], a => L a
  | o :: l, a => ∃ v, (o.guard = none ∧ ∀ w, S w → (execOp a.eval o).run P w = .ok (.value v) w) ∧ wpReads P S L l (a.put o.dst v)
theorem wpReads_cons {L : Act → Prop} {o : Oper} {l : List Oper} {a : Act} (hg : o.guard = none) (v : Value) (h : ∀ w, S w → (execOp a.eval o).run P w = .ok (.value v) w) (hr : wpReads P S L l (a.put o.dst v)) : wpReads P S L (o :: l) a := ⟨v, ⟨hg, h⟩, hr⟩

def midB (md : Region.Mode) (ops : Array Oper) (n1 g : Nat) : Nat → Nat → Array Bool → Bool
  | 0, k, listed => decide (k = n1) && decide (Region.ready md ops listed = [n1]) && decide (n1 < listed.size) && Region.seqB md ops (g + 1) k listed
  | f + 1, k, listed => decide (Region.ready md ops listed = [k]) && decide (k < n1) && midB md ops n1 g f (k + 1) (listed.setIfInBounds k true)
def headB (md : Region.Mode) (ops : Array Oper) (n1 m g : Nat) : Nat → Nat → Array Bool → Bool
  | 0, k, listed => midB md ops n1 g m k listed
  | f + 1, k, listed => (Region.ready md ops listed).contains k && Region.free md ops listed k && Region.waitsFor md ops n1 k && !(listed.getD n1 false) && headB md ops n1 m g f (k + 1) (listed.setIfInBounds k true)

theorem wpAnyE_mid (r : List Oper) (hr : ∀ j, r[j]? = ops[n1 + j]?) {g : Nat} (hg : r.length = g + 1) : ∀ (l : List Oper) (k : Nat) (listed : Array Bool) (a : Act) (w : World), (∀ j, j < l.length → l[j]? = ops[k + j]?) →
    midB md ops n1 g l.length k listed = true → wpMid P ops Q S (fun a w => wpList P ops Q r a w) l a w → wpAnyE P md ops Q S n1 (l.length + (g + 1)) listed a w
  | [], k, listed, a, w, _, hB, h => by
    simp only [List.length_nil, midB, Bool.and_eq_true, decide_eq_true_eq] at hB
    obtain ⟨⟨⟨rfl, h1⟩, h2⟩, h3⟩ := hB
    simp only [List.length_nil, Nat.zero_add]
    refine wpAnyE_rest h1 h2 ?_
    rw [← hg]
    exact wpAny_of_seq r k listed a w hr (by rw [hg]; exact h3) h
  | o :: l, k, listed, a, w, hl, hB, h => by
    have h0 : ops[k]? = some o := by simpa using (hl 0 (by simp)).symm
    simp only [List.length_cons, midB, Bool.and_eq_true, decide_eq_true_eq] at hB
    obtain ⟨⟨h1, h2⟩, h3⟩ := hB
    rw [show (o :: l).length + (g + 1) = (l.length + (g + 1)) + 1 by simp; omega]
    refine ⟨fun h4 => (by rw [h1] at h4; cases h4), fun i hi => ?_⟩
    rw [h1] at hi
    obtain rfl := List.mem_singleton.1 hi
    exact wpOp_mono (fun a' w' h' => ⟨fun _ => h'.1, wpAnyE_mid r hr hg l (i + 1) _ a' w' (fun j hj => by have := hl (j + 1) (by simp; omega); simpa [Nat.add_assoc, Nat.add_comm 1 j] using this) h3 h'.2⟩) (wpOp_of_mid h0 h)
theorem wpAnyE_head (hsel : Region.noSelect ops = true) (hQ : ∀ c a (d : Option Tmp) v w, Q (.panic c) (a.put d v) w → Q (.panic c) a w) {w : World} (hS : S w) (r : List Oper) (hr : ∀ j, r[j]? = ops[n1 + j]?) {g : Nat} (hg : r.length = g + 1)
    (m : List Oper) : ∀ (l : List Oper) (k : Nat) (listed : Array Bool) (a : Act), (∀ j, j < l.length → l[j]? = ops[k + j]?) → (∀ j, j < m.length → m[j]? = ops[k + l.length + j]?) →
    headB md ops n1 m.length g l.length k listed = true → wpReads P S (fun a => wpMid P ops Q S (fun a w => wpList P ops Q r a w) m a w) l a → wpAnyE P md ops Q S n1 (l.length + (m.length + (g + 1))) listed a w
  | [], k, listed, a, _, hm, hB, h => by
    simp only [List.length_nil, headB] at hB
    simp only [List.length_nil, Nat.zero_add]
    exact wpAnyE_mid r hr hg m k listed a w (by simpa using hm) hB h
  | o :: l, k, listed, a, hl, hm, hB, h => by
    have h0 : ops[k]? = some o := by simpa using (hl 0 (by simp)).symm
    simp only [List.length_cons, headB, Bool.and_eq_true, Bool.not_eq_true'] at hB
    obtain ⟨⟨⟨⟨h1, h2⟩, h3⟩, h4⟩, h5⟩ := hB
    obtain ⟨v, ⟨hg0, hy⟩, hrest⟩ := h
    rw [show (o :: l).length + (m.length + (g + 1)) = (l.length + (m.length + (g + 1))) + 1 by simp; omega]
    refine wpAnyE_first h0 (Region.noSelect_spec hsel) (fun c a w => hQ c a _ _ w) h3 _ listed a w (Region.free_spec h0 h2) (by simpa using h1) h4 (.inl ⟨by simp [Region.wanted, hg0], hy⟩) hS ?_
    exact wpAnyE_head hsel hQ hS r hr hg m l (k + 1) _ _ (fun j hj => by have := hl (j + 1) (by simp; omega); simpa [Nat.add_assoc, Nat.add_comm 1 j] using this) (fun j hj => by have := hm j hj; simpa [Nat.add_assoc, Nat.add_comm 1, Nat.add_left_comm] using this) h5 hrest
def phasedB (ops : Array Oper) (n0 m g : Nat) : Bool := Region.noSelect ops && decide (ops.size = n0 + (m + (g + 1))) && headB .any ops (n0 + m) m g n0 0 (Array.replicate ops.size false)
/-- n0 reads; m operations behind each of which S holds; the rest -/
theorem wp_region_phased {id : Nat} {a : Act} {w : World} {l : List Oper} (n0 m g : Nat) (S : World → Prop) (hm : P.follows .mixedOrders = true) (hB : phasedB l.toArray n0 m g = true) (hS : S w.drew)
    (h : wpReads P S (fun a => wpMid P l.toArray (NoPanic Q) S (fun a w => wpList P l.toArray (NoPanic Q) (l.drop (n0 + m)) a w) ((l.drop n0).take m) a w.drew) (l.take n0) a) : (Code.region id l.toArray true).wp P Q a w := by
  simp only [phasedB, Bool.and_eq_true, decide_eq_true_eq, List.size_toArray] at hB
  obtain ⟨⟨hsel, hsz⟩, hh⟩ := hB
  refine wp_region_noPanic (wp_region_any hm (wpAny_of_E (S := S) (n1 := n0 + m) _ _ _ _ ?_))
  have l1 : (l.take n0).length = n0 := by simp; omega
  have l2 : ((l.drop n0).take m).length = m := by simp; omega
  have l3 : (l.drop (n0 + m)).length = g + 1 := by simp; omega
  have e : l.toArray.size = (l.take n0).length + (((l.drop n0).take m).length + (g + 1)) := by rw [l1, l2]; simpa using hsz
  rw [e]
  refine wpAnyE_head (w := w.drew) hsel (fun c a d v w h => h) hS (l.drop (n0 + m)) (fun j => by simp [List.getElem?_drop]) l3 ((l.drop n0).take m) (l.take n0) 0 _ a (fun j hj => ?_) (fun j hj => ?_) ?_ h
  · rw [l1] at hj
    simp [hj]
  · rw [l2] at hj
    rw [l1]
    simp [hj, List.getElem?_drop]
  · rw [l1, l2]
    have : (l.take n0).length + (((l.drop n0).take m).length + (g + 1)) = l.toArray.size := e.symm
    rw [l1, l2] at this
    rw [this]
    simpa using hh
/-- reads in order, guarded ones too -/
def wpReadsY (P : Program) (ops : Array Oper) (S : World → Prop) (L : Act → Prop) : List Oper → Act → Prop
  | [], a => L a
  | o :: l, a => ∃ v, YieldsIf P ops S o v a ∧ wpReadsY P ops S L l (a.put o.dst v)
theorem readsY_cons {L : Act → Prop} {o : Oper} {l : List Oper} {a : Act} (hg : Region.wanted o (yielded ops a.tmps) = true) (v : Value) (h : ∀ w, S w → (execOp a.eval o).run P w = .ok (.value v) w) (hr : wpReadsY P ops S L l (a.put o.dst v)) : wpReadsY P ops S L (o :: l) a := ⟨v, .inl ⟨hg, h⟩, hr⟩
theorem readsY_skip {L : Act → Prop} {o : Oper} {l : List Oper} {a : Act} (hg : Region.wanted o (yielded ops a.tmps) = false) (hr : wpReadsY P ops S L l (a.put o.dst undef)) : wpReadsY P ops S L (o :: l) a := ⟨undef, .inr ⟨hg, rfl⟩, hr⟩
def allB (md : Region.Mode) (ops : Array Oper) : Nat → Nat → Array Bool → Bool
  | 0, k, listed => (Region.ready md ops listed).isEmpty
  | f + 1, k, listed => (Region.ready md ops listed).contains k && Region.free md ops listed k && allB md ops f (k + 1) (listed.setIfInBounds k true)
theorem wpAnyH_all_reads (hsel : Region.noSelect ops = true) (hQ : ∀ c a (d : Option Tmp) v w, Q (.panic c) (a.put d v) w → Q (.panic c) a w) {w : World} (hS : S w) :
    ∀ (l : List Oper) (k : Nat) (listed : Array Bool) (a : Act), (∀ j, j < l.length → l[j]? = ops[k + j]?) → allB md ops l.length k listed = true → wpReadsY P ops S (fun a => Q .normal a w) l a → wpAnyH P md ops Q S l.length listed a w
  | [], k, listed, a, _, hB, h => wpAnyH_done (by simpa [allB] using hB) h _
  | o :: l, k, listed, a, hl, hB, h => by
    have h0 : ops[k]? = some o := by simpa using (hl 0 (by simp)).symm
    simp only [List.length_cons, allB, Bool.and_eq_true] at hB
    obtain ⟨⟨h1, h2⟩, h5⟩ := hB
    obtain ⟨v, hy, hrest⟩ := h
    exact wpAnyH_take h0 hsel h2 h1 (fun c a w => hQ c a _ _ w) hy hS (wpAnyH_all_reads hsel hQ hS l (k + 1) _ _ (fun j hj => by have := hl (j + 1) (by simp; omega); simpa [Nat.add_assoc, Nat.add_comm 1 j] using this) h5 hrest)
/-- a region of reads alone -/
theorem wp_region_reads {id : Nat} {a : Act} {w : World} {l : List Oper} (S : World → Prop) (hm : P.follows .mixedOrders = true) (hB : (Region.noSelect l.toArray && allB .any l.toArray l.length 0 (Array.replicate l.length false)) = true) (hS : S w.drew)
    (h : wpReadsY P l.toArray S (fun a => NoPanic Q .normal a w.drew) l a) : (Code.region id l.toArray true).wp P Q a w := by
  simp only [Bool.and_eq_true] at hB
  refine wp_region_noPanic (wp_region_held (S := S) hm ?_)
  have := wpAnyH_all_reads (Q := NoPanic Q) (md := .any) hB.1 (fun c a d v w h => h) hS l 0 (Array.replicate l.length false) a (fun j hj => by simp) hB.2 h
  simpa using this
theorem midQ_ok {M : Act → World → Prop} {a : Act} {w : World} (h1 : S w) (h2 : M a w) : midQ Q (fun a w => S w ∧ M a w) .normal a w := ⟨h1, h2⟩
end
end Go.Proofs.YtkhbemmcegmdaaaGreatDoor
end
section
set_option linter.all false
set_option linter.unusedVariables false
namespace Go.Proofs.YtkhbemmcegmdaaaGreatDoor
open Go

section
variable {P : Program} {ops : Array Oper} {Q : Exit → Act → World → Prop} {md : Region.Mode} {S : World → Prop}

/-- the operations in an order: (i, true): read; (i, false): carried out, alone -/
def wpOrd (P : Program) (ops : Array Oper) (Q : Exit → Act → World → Prop) (S : World → Prop) : List (Nat × Bool) → Act → World → Prop
  | [], a, w => Q .normal a w
  | (i, true) :: r, a, w => ∃ o v, ops[i]? = some o ∧ YieldsIf P ops S o v a ∧ wpOrd P ops Q S r (a.put o.dst v) w
  | (i, false) :: r, a, w => ∃ o, ops[i]? = some o ∧ wpList P ops (midQ Q fun a' w' => S w' ∧ wpOrd P ops Q S r a' w') [o] a w
def ordB (md : Region.Mode) (ops : Array Oper) : List (Nat × Bool) → Array Bool → Bool
  | [], listed => (Region.ready md ops listed).isEmpty
  | (i, true) :: r, listed => (Region.ready md ops listed).contains i && Region.free md ops listed i && ordB md ops r (listed.setIfInBounds i true)
  | (i, false) :: r, listed => decide (Region.ready md ops listed = [i]) && ordB md ops r (listed.setIfInBounds i true)
theorem wpAnyH_ord (hsel : Region.noSelect ops = true) (hQ : ∀ c a (d : Option Tmp) v w, Q (.panic c) (a.put d v) w → Q (.panic c) a w) :
    ∀ (r : List (Nat × Bool)) (listed : Array Bool) (a : Act) (w : World), S w → ordB md ops r listed = true → wpOrd P ops Q S r a w → wpAnyH P md ops Q S r.length listed a w
  | [], listed, a, w, _, hB, h => wpAnyH_done (by simpa [ordB] using hB) h _
  | (i, true) :: r, listed, a, w, hS, hB, h => by
    simp only [ordB, Bool.and_eq_true] at hB
    obtain ⟨⟨h1, h2⟩, h3⟩ := hB
    obtain ⟨o, v, h0, hy, hrest⟩ := h
    exact wpAnyH_take h0 hsel h2 h1 (fun c a w => hQ c a _ _ w) hy hS (wpAnyH_ord hsel hQ r _ _ _ hS h3 hrest)
  | (i, false) :: r, listed, a, w, hS, hB, h => by
    simp only [ordB, Bool.and_eq_true, decide_eq_true_eq] at hB
    obtain ⟨h1, h3⟩ := hB
    obtain ⟨o, h0, hl⟩ := h
    refine wpAnyH_all h1 (by simp) (fun j hj => ?_)
    obtain rfl := List.mem_singleton.1 hj
    exact wpOp_mono (fun a' w' h' => ⟨h'.1, wpAnyH_ord hsel hQ r _ a' w' h'.1 h3 h'.2⟩) (wpOp_of_mid h0 hl)
theorem wp_region_ord {id : Nat} {a : Act} {w : World} {l : List Oper} (ord : List (Nat × Bool)) (S : World → Prop) (hm : P.follows .mixedOrders = true) (hB : (Region.noSelect l.toArray && decide (ord.length = l.length) && ordB .any l.toArray ord (Array.replicate l.length false)) = true) (hS : S w.drew)
    (h : wpOrd P l.toArray (NoPanic Q) S ord a w.drew) : (Code.region id l.toArray true).wp P Q a w := by
  simp only [Bool.and_eq_true, decide_eq_true_eq] at hB
  obtain ⟨⟨h1, h2⟩, h3⟩ := hB
  refine wp_region_noPanic (wp_region_held (S := S) hm ?_)
  have := wpAnyH_ord (Q := NoPanic Q) (md := .any) h1 (fun c a d v w h => h) ord (Array.replicate l.length false) a w.drew hS h3 h
  rw [h2] at this
  simpa using this
theorem ord_read {i : Nat} {o : Oper} {r : List (Nat × Bool)} {a : Act} {w : World} (h0 : ops[i]? = some o) (hg : Region.wanted o (yielded ops a.tmps) = true) (v : Value) (h : ∀ w, S w → (execOp a.eval o).run P w = .ok (.value v) w) (hr : wpOrd P ops Q S r (a.put o.dst v) w) : wpOrd P ops Q S ((i, true) :: r) a w := ⟨o, v, h0, .inl ⟨hg, h⟩, hr⟩
theorem ord_skip {i : Nat} {o : Oper} {r : List (Nat × Bool)} {a : Act} {w : World} (h0 : ops[i]? = some o) (hg : Region.wanted o (yielded ops a.tmps) = false) (hr : wpOrd P ops Q S r (a.put o.dst undef) w) : wpOrd P ops Q S ((i, true) :: r) a w := ⟨o, undef, h0, .inr ⟨hg, rfl⟩, hr⟩
theorem ord_act {i : Nat} {o : Oper} {r : List (Nat × Bool)} {a : Act} {w : World} (h0 : ops[i]? = some o) (h : wpList P ops (midQ Q fun a' w' => S w' ∧ wpOrd P ops Q S r a' w') [o] a w) : wpOrd P ops Q S ((i, false) :: r) a w := ⟨o, h0, h⟩
theorem ord_done {a : Act} {w : World} (h : Q .normal a w) : wpOrd P ops Q S [] a w := h
end
end Go.Proofs.YtkhbemmcegmdaaaGreatDoor
end
section
set_option linter.all false
set_option linter.unusedVariables false
set_option maxRecDepth 100000
namespace Go.Proofs.YtkhbemmcegmdaaaGreatDoor
open Go.RowKit
open Go.ChangeMaps (setBlock)

section
variable {w w1 : World} {fb mb clock : Nat} {X S : Nat → Prop} {room left : Int} {F : FileL} {L : List (Ent Name)}
theorem flay_at {fcs : Array Value} (hb : Blk w1 fb 125 fcs) (hc2 : fcs[2]? = some (.map (some mb))) (hm1 : MBlk w1 mb strk L clock) (n : Name) (A : Option Addr) (m c : Nat) (hm : 0 < m) :
    Calls Tryz.prog 65 #[.pointer (some ⟨fb, 0, none⟩), .string ⟨n.toArray⟩, .slice A m c] w1 fun e w' => e = .returned (.tuple #[]) ∧ w' = setBlock w1 mb (.map ((aput n (.slice A m c) L clock).map (ent strk)).toArray (aclk n L clock)) := by
  have c2 := (hb.cell 2).trans hc2
  have hup := update_ok (P := Tryz.prog) (key_string str_under) mapf hm1 n (.slice A m c)
  have hup2 : (Instr.mapUpdate 123 (.map (some mb)) (.string ⟨n.toArray⟩) (.slice A m c)).run Tryz.prog w1 = .ok () (setBlock w1 mb (.map ((aput n (.slice A m c) L clock).map (ent strk)).toArray (aclk n L clock))) := hup
  have hmz : ¬ ((m : Int) = 0) := by omega
  clear hup hb hm1 hc2
  go_enter Tryz.func65, Tryz.ntmps65
  go_wp2
  go_end0
  exact ⟨rfl, rfl⟩
theorem flay_put (h : FSRep w1 fb mb X room left F L clock) (n : Name) (A : Option Addr) (m c : Nat) (hm : 0 < m) :
    Calls Tryz.prog 65 #[.pointer (some ⟨fb, 0, none⟩), .string ⟨n.toArray⟩, .slice A m c] w1 fun e w' => e = .returned (.tuple #[]) ∧ w' = setBlock w1 mb (.map ((aput n (.slice A m c) L clock).map (ent strk)).toArray (aclk n L clock)) :=
  flay_at h.blk rfl h.map n A m c hm
theorem flay_del (h : FSRep w1 fb mb X room left F L clock) (n : Name) (A : Option Addr) (c : Nat) :
    Calls Tryz.prog 65 #[.pointer (some ⟨fb, 0, none⟩), .string ⟨n.toArray⟩, .slice A 0 c] w1 fun e w' => e = .returned (.tuple #[]) ∧ w' = setBlock w1 mb (.map ((adel n L).map (ent strk)).toArray clock) := by
  have c2 := (h.blk.cell 2).trans rfl
  have hd : ∀ ty, (Builtin.delete_ #[123, 9] ty #[.map (some mb), .string ⟨n.toArray⟩]).run Tryz.prog w1 = .ok (.tuple #[]) (setBlock w1 mb (.map ((adel n L).map (ent strk)).toArray clock)) := fun ty => delete_ok (P := Tryz.prog) (key_string str_under) mapf h.map n ty
  clear h
  go_enter Tryz.func65, Tryz.ntmps65
  go_wp2
  refine bodyPost_ret (results_none rfl _ _ _) rfl ?_
  exact ⟨rfl, rfl⟩
theorem fremove_none (h : FSAt w1 fb X room left F) (n : Name) (hn : fpg n F = []) : Calls Tryz.prog 68 #[.pointer (some ⟨fb, 0, none⟩), .string ⟨n.toArray⟩] w1 fun e w' => e = .returned (.int .i64 4) ∧ w1 = w' := by
  have HT := hide (fthere_ok h n 0)
  rw [hn, if_neg (by simp)] at HT
  clear h
  go_enter Tryz.func68, Tryz.ntmps68
  go_wp2_with fail
  go_at_call 82
  refine HT.out.mono ?_
  rintro e w2 ⟨rfl, rfl⟩
  go_wp2
  go_ret
  exact ⟨rfl, rfl⟩
theorem fremove_ok (h : FSAt w1 fb X room left F) (n : Name) (hn : fpg n F ≠ []) : Calls Tryz.prog 68 #[.pointer (some ⟨fb, 0, none⟩), .string ⟨n.toArray⟩] w1 fun e w' => e = .returned (.int .i64 0) ∧ FSAt w' fb X room left (fdel n F) ∧ Fr X w1 w' := by
  have HT := hide (fthere_ok h n 0)
  have hl : 0 < (fpg n F).length := List.length_pos_iff.2 hn
  rw [if_pos (by omega)] at HT
  obtain ⟨mb, L, clock, h⟩ := h
  have HD := hide (flay_del h n none 0)
  have HR := hide (h.del n)
  have HF := hide ((fr_setBlock w1 mb (.map ((adel n L).map (ent strk)).toArray clock)).mono (S' := X) (fun k hk => by rw [hk]; exact h.xm))
  clear h
  go_enter Tryz.func68, Tryz.ntmps68
  go_wp2_with fail
  go_at_call 82
  refine HT.out.mono ?_
  rintro e w2 ⟨rfl, rfl⟩
  go_wp2_with fail
  go_at_call 65
  refine HD.out.mono ?_
  rintro e w3 ⟨rfl, rfl⟩
  go_wp2
  go_ret
  exact ⟨rfl, ⟨mb, adel n L, clock, HR.out⟩, HF.out⟩
theorem setBlock_same {w : World} {b : Nat} {o : Obj} (h : w.heap[b]? = some o) : setBlock w b o = w := by
  have : w.heap.setIfInBounds b o = w.heap := by
    apply Array.ext_getElem?
    intro i
    by_cases hi : b = i
    · subst hi
      have hlt : b < w.heap.size := (Array.getElem?_eq_some_iff.1 h).1
      rw [Array.getElem?_setIfInBounds_self_of_lt hlt, h]
    · rw [Array.getElem?_setIfInBounds_ne hi]
  unfold setBlock
  rw [this]
theorem aset_same {n : Name} {v : Value} : ∀ {L : List (Ent Name)}, aget n L = some v → aset n v L = L
  | [], h => by cases h
  | x :: L, h => by
    unfold aget at h
    unfold aset
    split at h
    · next hn => obtain rfl := Option.some.inj h; rw [if_pos hn, hn]
    · next hn => rw [if_neg hn, aset_same h]
theorem own_set {w : World} {n : Nat} {xs : List Value} {g : Nat} {c : Nat} {e : TypeId} (h : w.ownsRow 0 e 1 (.slice (some ⟨g, 0, none⟩) n c) n xs) (j : Nat) (u : Value) (hj : j < n) : (w.setCell ⟨g, j, none⟩ u).ownsRow 0 e 1 (.slice (some ⟨g, 0, none⟩) n c) n (xs.set j u) := by
  refine ⟨by simpa using h.1, ?_⟩
  rcases h.2 with ⟨h1, _⟩ | ⟨g', cap, cur, e1, hb, hg, hnc, hcm, hcs, ht⟩
  · cases h1
  · injection e1 with e1 e2 e3
    injection e1 with e1
    injection e1 with e1 _
    subst e1
    subst e3
    have hblk : Blk w g e cur := hg
    refine .inr ⟨g, c, cur.setIfInBounds j u, rfl, hb, hblk.set_ j u, hnc, hcm, by simpa using hcs, ?_⟩
    rw [Nat.mul_one] at ht ⊢
    rw [Array.toList_setIfInBounds, List.take_set, ht]
theorem FSRep.putSame (h : FSRep w fb mb X room left F L clock) (hf : Fr S w w1) (n : Name) (v : Value) (q : List (List UInt8)) (hq : q ≠ []) (hS : ∀ k, S k → ∃ v0, aget n L = some v0 ∧ v0.ownBlock = some k)
    (ho : w1.ownsRow 0 9 1 v q.length (q.map strv)) (hg : aget n L = some v) : FSRep w1 fb mb (fun k => X k ∨ v.ownBlock = some k) room left (fput n q F) L clock := by
  have hh := h.put hf n v q hq hS ho (fun k hk => .inl ⟨v, hg, hk⟩)
  have e1 : aput n v L clock = L := by unfold aput; rw [if_pos (by rw [hg]; rfl), aset_same hg]
  have e2 : aclk n L clock = clock := by unfold aclk; rw [if_pos (by rw [hg]; rfl)]
  have hmb : ¬ S mb := fun hs => by
    obtain ⟨v0, hg0, hv⟩ := hS mb hs
    obtain ⟨x, hx, _, rfl⟩ := aget_mem hg0
    obtain ⟨p, _, hr⟩ := h.mem hx
    exact (hr.2.2.2 mb hv).2.2 rfl
  rw [e1, e2, setBlock_same (h.map.fr hf hmb)] at hh
  exact hh
theorem fput_bad (h : FSAt w1 fb X room left F) (n : Name) (i : Int) (s : List UInt8) (hn : n.length ≤ 9223372036854775807) (hs : s.length ≤ 9223372036854775807) (hbad : nameB n = false ∨ i < 0 ∨ ((fpg n F).length : Int) < i ∨ s.length ≠ 128) :
    Calls Tryz.prog 19 #[.pointer (some ⟨fb, 0, none⟩), .string ⟨n.toArray⟩, .int .i64 i, .string ⟨s.toArray⟩] w1 fun e w' => e = .returned (.int .i64 2) ∧ Fr (fun _ => False) w1 w' := by
  have HN := hide (fnone_ok h)
  have HNA := hide (fun w => fname_ok n hn w)
  have HPG := hide (fun w => fpage_ok s hs w)
  obtain ⟨mb, L, clock, h⟩ := h
  have c2 := (h.blk.cell 2).trans rfl
  obtain ⟨A, c, hl, hr⟩ := h.look n
  have hlk := hl w1 h.map
  clear h hl hr
  generalize (fpg n F).length = m at *
  cases hnb : nameB n with
  | false =>
    go_enter Tryz.func19, Tryz.ntmps19
    go_wp2_with fail
    go_at_call 62
    refine HN.out.mono ?_
    rintro e w2 ⟨rfl, rfl⟩
    go_wp2_with fail
    go_at_call 63
    refine (HNA.out _).mono ?_
    rintro e w2 ⟨rfl, hf⟩
    rw [hnb]
    have HF := hide hf
    clear hf
    go_wp2
    go_ret
    exact ⟨rfl, HF.out⟩
  | true =>
    by_cases h0 : i < 0
    · go_enter Tryz.func19, Tryz.ntmps19
      go_wp2_with fail
      go_at_call 62
      refine HN.out.mono ?_
      rintro e w2 ⟨rfl, rfl⟩
      go_wp2_with fail
      go_at_call 63
      refine (HNA.out _).mono ?_
      rintro e w2 ⟨rfl, hf⟩
      rw [hnb]
      have HF := hide hf
      clear hf
      go_wp2
      go_ret
      exact ⟨rfl, HF.out⟩
    · by_cases h1 : (m : Int) < i
      · go_enter Tryz.func19, Tryz.ntmps19
        go_wp2_with fail
        go_at_call 62
        refine HN.out.mono ?_
        rintro e w2 ⟨rfl, rfl⟩
        go_wp2_with fail
        go_at_call 63
        refine (HNA.out _).mono ?_
        rintro e w2 ⟨rfl, hf⟩
        rw [hnb]
        have HF := hide hf
        clear hf
        go_wp2
        go_ret
        exact ⟨rfl, HF.out⟩
      · have hpb : decide (s.length = 128) = false := by
          simp only [decide_eq_false_iff_not]
          rcases hbad with h | h | h | h
          · rw [hnb] at h; cases h
          · exact absurd h h0
          · exact absurd h h1
          · exact h
        go_enter Tryz.func19, Tryz.ntmps19
        go_wp2_with fail
        go_at_call 62
        refine HN.out.mono ?_
        rintro e w2 ⟨rfl, rfl⟩
        go_wp2_with fail
        go_at_call 63
        refine (HNA.out _).mono ?_
        rintro e w2 ⟨rfl, hf⟩
        rw [hnb]
        have HF := hide hf
        clear hf
        go_wp2_with fail
        go_at_call 64
        refine (HPG.out _).mono ?_
        rintro e w3 ⟨rfl, rfl⟩
        rw [hpb]
        go_wp2
        go_ret
        exact ⟨rfl, HF.out⟩
theorem fput_set (h : FSAt w1 fb X room left F) (n : Name) (i : Nat) (s : List UInt8) (hnb : nameB n = true) (hs : s.length = 128) (hi : i < (fpg n F).length) :
    Calls Tryz.prog 19 #[.pointer (some ⟨fb, 0, none⟩), .string ⟨n.toArray⟩, .int .i64 (i : Int), .string ⟨s.toArray⟩] w1 fun e w' => e = .returned (.int .i64 0) ∧ (∃ X', FSAt w' fb X' room left (fput n ((fpg n F).set i s) F) ∧ ∀ k, X' k → X k ∨ w1.heap.size ≤ k) ∧ Fr X w1 w' := by
  have hn : n.length ≤ 9223372036854775807 := by have := nameB_len hnb; omega
  have hs2 : s.length ≤ 9223372036854775807 := by omega
  have hpb : decide (s.length = 128) = true := by simp [hs]
  have HN := hide (fnone_ok h)
  have HNA := hide (fun w => fname_ok n hn w)
  have HPG := hide (fun w => fpage_ok s hs2 w)
  obtain ⟨mb, L, clock, h⟩ := h
  have c2 := (h.blk.cell 2).trans rfl
  rcases h.get n with ⟨j, x, p, hx, hp, hxn, hg, hfp⟩ | ⟨_, hf0, _⟩
  · obtain ⟨_, _, h3, h4⟩ := h.row j x p hx hp
    rw [hfp] at hi
    obtain ⟨g, c, hv, hlt⟩ : ∃ g c, x.2.1 = .slice (some ⟨g, 0, none⟩) p.2.length c ∧ g < w1.heap.size := by
      obtain ⟨g, c, hv, _, hlt⟩ := World.ownsRow.form h3 (by omega)
      exact ⟨g, c, hv, hlt⟩
    have hlk : (Instr.lookup 123 (.map (some mb)) (.string ⟨n.toArray⟩) false).run Tryz.prog w1 = .ok (.slice (some ⟨g, 0, none⟩) p.2.length c) w1 := by
      have := lookup_v (P := Tryz.prog) (key_string str_under) mapf strs_zero h.map n
      rw [hg, hv] at this
      exact this
    rw [hv] at h3 h4 hg
    have hXg := (h4 g rfl)
    have HH := hide h
    have HOWN := hide h3
    have HG := hide hg
    have HFP := hide hfp
    have hcell : ∀ W, Fr (fun _ => False) w1 W → W.frozen? ⟨g, i, none⟩ = false ∧ ∃ v, W.cell? ⟨g, i, none⟩ = some v := fun W hf => by
      have ho := own_fr h3 hf (fun k _ h => h)
      rcases ho.2 with ⟨e, _⟩ | ⟨g', cap, cur, e1, _, hgg, hnc, _, hcs, _⟩
      · cases e
      · injection e1 with e1 _ e3
        injection e1 with e1
        injection e1 with e1 _
        subst e1
        have hb : Blk W g 9 cur := hgg
        refine ⟨hb.frozen i, ?_⟩
        rw [hb.cell]
        exact ⟨_, Array.getElem?_eq_getElem (by rw [hcs, Nat.mul_one]; omega)⟩
    have HCELL := hide hcell
    have hq : p.2.set i s ≠ [] := fun e => by
      have := congrArg List.length e
      simp at this
      rw [this] at hi
      simp at hi
    have HQ := hide hq
    generalize hPP : p.2 = pp at *
    obtain ⟨m, hm⟩ : ∃ m, pp.length = m := ⟨_, rfl⟩
    have HM := hide hm
    rw [hm] at hi hlk HOWN
    have b0 : (0 : Int) ≤ (i : Int) := by omega
    have b1 : (i : Int) < (m : Int) := by omega
    have b2 : ¬ ((m : Int) < (i : Int)) := by omega
    have b3 : ¬ ((i : Int) < 0) := by omega
    clear hm h hg hx hp h3 h4 hfp hcell hv hPP hq
    go_enter Tryz.func19, Tryz.ntmps19
    go_wp2_with fail
    go_at_call 62
    refine HN.out.mono ?_
    rintro e w2 ⟨rfl, rfl⟩
    go_wp2_with fail
    go_at_call 63
    refine (HNA.out _).mono ?_
    rintro e w2 ⟨rfl, hf⟩
    rw [hnb]
    have HF := hide hf
    clear hf
    go_wp2_with fail
    go_at_call 64
    refine (HPG.out _).mono ?_
    rintro e w3 ⟨rfl, rfl⟩
    rw [hpb]
    obtain ⟨f1, v1, cv1⟩ := HCELL.out w2 HF.out
    go_wp2
    go_ret
    have F1 : Fr (fun k => k = g) w1 (w2.setCell ⟨g, i, none⟩ (.string ⟨s.toArray⟩)) := (HF.out.mono (S' := fun k => k = g) (fun k h => h.elim)).setCell (p := ⟨g, i, none⟩) (.inl rfl) _
    have HO : (w2.setCell ⟨g, i, none⟩ (.string ⟨s.toArray⟩)).ownsRow 0 9 1 (.slice (some ⟨g, 0, none⟩) m c) (pp.set i s).length ((pp.set i s).map strv) := by
      rw [List.length_set, List.map_set, HM.out]
      exact own_set (own_fr HOWN.out HF.out (fun k _ h => h)) i (strv s) hi
    have HG2 := HG.out
    rw [HM.out] at HG2
    have HR := HH.out.putSame F1 n (.slice (some ⟨g, 0, none⟩) m c) (pp.set i s) HQ.out (fun k hk => ⟨_, HG2, by rw [hk]; rfl⟩) HO HG2
    refine ⟨rfl, ⟨_, ⟨mb, L, clock, by rw [HFP.out]; exact HR⟩, fun k hk => ?_⟩, F1.mono (fun k hk => by rw [hk]; exact hXg.1)⟩
    rcases hk with hk | hk
    · exact .inl hk
    · injection hk with hk
      exact .inl (by rw [← hk]; exact hXg.1)
  · rw [hf0] at hi
    simp at hi
theorem FSRep.own (h : FSRep w fb mb X room left F L clock) (n : Name) : ∃ A c, (∀ w', MBlk w' mb strk L clock → (Instr.lookup 123 (.map (some mb)) (.string ⟨n.toArray⟩) false).run Tryz.prog w' = .ok (.slice A (fpg n F).length c) w') ∧
    w.ownsRow 0 9 1 (.slice A (fpg n F).length c) (fpg n F).length ((fpg n F).map strv) ∧ ∀ k, (Value.slice A (fpg n F).length c).ownBlock = some k → aget n L = some (.slice A (fpg n F).length c) ∧ X k ∧ k ≠ fb ∧ k ≠ mb := by
  rcases h.get n with ⟨i, x, p, hx, hp, hxn, hg, hf⟩ | ⟨hg, hf, _⟩
  · obtain ⟨_, _, h3, h4⟩ := h.row i x p hx hp
    obtain ⟨A, c, hv⟩ := Reads.own_val h3
    rw [hv] at h3 h4 hg
    refine ⟨A, c, fun w' hm => ?_, by rw [hf]; exact h3, fun k hk => by rw [hf] at hk ⊢; exact ⟨hg, h4 k hk⟩⟩
    have := lookup_v (P := Tryz.prog) (key_string str_under) mapf strs_zero hm n
    rw [hg] at this
    rw [hf]
    exact this
  · refine ⟨none, 0, fun w' hm => ?_, by rw [hf]; exact World.ownsRow_nil w 0 9 1, fun k hk => by simp [Value.ownBlock] at hk⟩
    have := lookup_v (P := Tryz.prog) (key_string str_under) mapf strs_zero hm n
    rw [hg] at this
    rw [hf]
    exact this
theorem str_info2 : (Tryz.prog.info? 9).map (fun i => (i.zero, i.size, i.bytes)) = some (some (.string ⟨#[]⟩), 1, 16) := by kernel_rfl
theorem fput_room (h : FSAt w1 fb X room left F) (hI : FInv room F) (n : Name) (s : List UInt8) (hnb : nameB n = true) (hs : s.length = 128) (ht : ((total F : Nat) : Int) = room) :
    Calls Tryz.prog 19 #[.pointer (some ⟨fb, 0, none⟩), .string ⟨n.toArray⟩, .int .i64 ((fpg n F).length : Int), .string ⟨s.toArray⟩] w1 fun e w' => e = .returned (.int .i64 61) ∧ Fr (fun _ => False) w1 w' := by
  have hn : n.length ≤ 9223372036854775807 := by have := nameB_len hnb; omega
  have hs2 : s.length ≤ 9223372036854775807 := by omega
  have hpb : decide (s.length = 128) = true := by simp [hs]
  have HN := hide (fnone_ok h)
  have HNA := hide (fun w => fname_ok n hn w)
  have HPG := hide (fun w => fpage_ok s hs2 w)
  have HUS := hide (fun W (hf : Fr (fun _ => False) w1 W) => fused_ok (h.up hf) hI.bnd)
  have hme := fpg_le hI.bnd n
  obtain ⟨mb, L, clock, h⟩ := h
  have c2 := (h.blk.cell 2).trans rfl
  have c0 := (h.blk.cell 0).trans rfl
  have HC0 := hide (fun W (hf : Fr (fun _ => False) w1 W) => (show W.cell? ⟨fb, 0, none⟩ = some (.int .i64 room) from hf.cell c0 id))
  obtain ⟨A, c, hl, hown, hblk⟩ := h.own n
  have hlk := hl w1 h.map
  have HH := hide h
  have HOWN := hide hown
  have HBLK := hide hblk
  obtain ⟨q, hq⟩ : ∃ q, fpg n F = q := ⟨_, rfl⟩
  have HQ := hide hq
  rw [hq] at hlk HOWN HBLK hme
  obtain ⟨m, hm⟩ : ∃ m, q.length = m := ⟨_, rfl⟩
  have HM := hide hm
  rw [hm] at hlk HOWN HBLK hme
  have e0 : (((fpg n F).length : Nat) : Int) = (m : Int) := by rw [hq, hm]
  rw [e0]
  have b2 : ¬ ((m : Int) < (m : Int)) := by omega
  have b3 : ¬ ((m : Int) < 0) := by omega
  clear h hl hown hblk c0 hq hm
  have htr : (((total F : Nat) : Int) == room) = true := by rw [ht]; simp
  go_enter Tryz.func19, Tryz.ntmps19
  go_wp2_with fail
  go_at_call 62
  refine HN.out.mono ?_
  rintro e w2 ⟨rfl, rfl⟩
  go_wp2_with fail
  go_at_call 63
  refine (HNA.out _).mono ?_
  rintro e w2 ⟨rfl, hf⟩
  rw [hnb]
  have HF := hide hf
  clear hf
  go_wp2_with fail
  go_at_call 64
  refine (HPG.out _).mono ?_
  rintro e w3 ⟨rfl, rfl⟩
  rw [hpb]

  go_wp2_with fail
  refine wp_region_ord [(0, true), (2, true), (3, true), (4, true), (5, true), (1, false), (6, true), (7, true)] (fun W => Fr (fun _ => False) w1 W) (by kernel_rfl) (by kernel_rfl) HF.out.drew ?_
  iterate 5
    refine ord_read rfl ?_ ?_ (fun W hS => ?_) ?_
    · rfl
    rotate_left
    · (have s0 := HC0.out _ hS; go_simp; try with_reducible rfl)
    simp only [List.getElem_toArray, List.getElem_cons_zero, List.getElem_cons_succ, Act.put, List.setIfInBounds_toArray, List.set_cons_zero, List.set_cons_succ]

  refine ord_act rfl ?_
  go_wp2_with fail
  go_at_call 33
  refine (HUS.out _ HF.out.drew).mono ?_
  rintro e w3 ⟨rfl, hf⟩
  have HF3 := hide (HF.out.drew.then_ hf)
  clear hf
  go_wp2
  refine midQ_ok HF3.out ?_
  iterate 2
    refine ord_read rfl ?_ ?_ (fun W hS => ?_) ?_
    · rfl
    rotate_left
    · (skip; go_simp; try with_reducible rfl)
    simp only [List.getElem_toArray, List.getElem_cons_zero, List.getElem_cons_succ, Act.put, List.setIfInBounds_toArray, List.set_cons_zero, List.set_cons_succ]

  refine ord_done ?_
  refine NoPanic.normal ?_

  try rw [htr]
  go_wp2
  go_ret
  exact ⟨rfl, HF3.out⟩
theorem fput_more (h : FSAt w1 fb X room left F) (hI : FInv room F) (n : Name) (s : List UInt8) (hnb : nameB n = true) (hs : s.length = 128) (ht : ((total F : Nat) : Int) < room) :
    Calls Tryz.prog 19 #[.pointer (some ⟨fb, 0, none⟩), .string ⟨n.toArray⟩, .int .i64 ((fpg n F).length : Int), .string ⟨s.toArray⟩] w1 fun e w' => e = .returned (.int .i64 0) ∧ (∃ X', FSAt w' fb X' room left (fput n (fpg n F ++ [s]) F) ∧ ∀ k, X' k → X k ∨ w1.heap.size ≤ k) ∧ Fr X w1 w' := by
  have hn : n.length ≤ 9223372036854775807 := by have := nameB_len hnb; omega
  have hs2 : s.length ≤ 9223372036854775807 := by omega
  have hpb : decide (s.length = 128) = true := by simp [hs]
  have HN := hide (fnone_ok h)
  have HNA := hide (fun w => fname_ok n hn w)
  have HPG := hide (fun w => fpage_ok s hs2 w)
  have HUS := hide (fun W (hf : Fr (fun _ => False) w1 W) => fused_ok (h.up hf) hI.bnd)
  have hme := fpg_le hI.bnd n
  obtain ⟨mb, L, clock, h⟩ := h
  have c2 := (h.blk.cell 2).trans rfl
  have c0 := (h.blk.cell 0).trans rfl
  have HC0 := hide (fun W (hf : Fr (fun _ => False) w1 W) => (show W.cell? ⟨fb, 0, none⟩ = some (.int .i64 room) from hf.cell c0 id))
  obtain ⟨A, c, hl, hown, hblk⟩ := h.own n
  have hlk := hl w1 h.map
  have HH := hide h
  have HOWN := hide hown
  have HBLK := hide hblk
  obtain ⟨q, hq⟩ : ∃ q, fpg n F = q := ⟨_, rfl⟩
  have HQ := hide hq
  rw [hq] at hlk HOWN HBLK hme
  obtain ⟨m, hm⟩ : ∃ m, q.length = m := ⟨_, rfl⟩
  have HM := hide hm
  rw [hm] at hlk HOWN HBLK hme
  have e0 : (((fpg n F).length : Nat) : Int) = (m : Int) := by rw [hq, hm]
  rw [e0]
  have b2 : ¬ ((m : Int) < (m : Int)) := by omega
  have b3 : ¬ ((m : Int) < 0) := by omega
  clear h hl hown hblk c0 hq hm
  have htr : (((total F : Nat) : Int) == room) = false := by simp; omega
  obtain ⟨i0, hi, hz0, hz1, hz2⟩ := info_parts str_info2
  go_enter Tryz.func19, Tryz.ntmps19
  go_wp2_with fail
  go_at_call 62
  refine HN.out.mono ?_
  rintro e w2 ⟨rfl, rfl⟩
  go_wp2_with fail
  go_at_call 63
  refine (HNA.out _).mono ?_
  rintro e w2 ⟨rfl, hf⟩
  rw [hnb]
  have HF := hide hf
  clear hf
  go_wp2_with fail
  go_at_call 64
  refine (HPG.out _).mono ?_
  rintro e w3 ⟨rfl, rfl⟩
  rw [hpb]

  go_wp2_with fail
  refine wp_region_ord [(0, true), (2, true), (3, true), (4, true), (5, true), (1, false), (6, true), (7, true)] (fun W => Fr (fun _ => False) w1 W) (by kernel_rfl) (by kernel_rfl) HF.out.drew ?_
  iterate 5
    refine ord_read rfl ?_ ?_ (fun W hS => ?_) ?_
    · rfl
    rotate_left
    · (have s0 := HC0.out _ hS; go_simp; try with_reducible rfl)
    simp only [List.getElem_toArray, List.getElem_cons_zero, List.getElem_cons_succ, Act.put, List.setIfInBounds_toArray, List.set_cons_zero, List.set_cons_succ]

  refine ord_act rfl ?_
  go_wp2_with fail
  go_at_call 33
  refine (HUS.out _ HF.out.drew).mono ?_
  rintro e w3 ⟨rfl, hf⟩
  have HF3 := hide (HF.out.drew.then_ hf)
  clear hf
  go_wp2
  refine midQ_ok HF3.out ?_
  iterate 2
    refine ord_read rfl ?_ ?_ (fun W hS => ?_) ?_
    · rfl
    rotate_left
    · (skip; go_simp; try with_reducible rfl)
    simp only [List.getElem_toArray, List.getElem_cons_zero, List.getElem_cons_succ, Act.put, List.setIfInBounds_toArray, List.set_cons_zero, List.set_cons_succ]

  refine ord_done ?_
  refine NoPanic.normal ?_

  try rw [htr]
  have hown3 := own_fr HOWN.out HF3.out (fun k _ h => h)
  go_wp2_with (at_builtin; refine wpList_append_box w3 _ _ rfl (.tmp 56) (.tmp 58) _ rfl 0 9 i0 _ 1 16 Tryz.underlying116 hi hz0 hz1 hz2 rfl (by decide) _ _ _ rfl hown3 rfl rfl ?c1 ?c2 ?c3 ?c4 ?c5)
  case c1 => simp [Value.oneCell']
  case c2 => unfold maxLen; omega
  case c3 => omega
  case c4 => omega
  case c5 =>
    intro v5 w5 hown5 hg5 hn5
    obtain ⟨A5, c5, rfl⟩ := Reads.own_val hown5
    have hgr := Fr.of_grown hg5
    have F5 : Fr (fun k => (Value.slice A m c).ownBlock = some k) w1 w5 := (HF3.out.mono (S' := fun k => (Value.slice A m c).ownBlock = some k) (fun k h => h.elim)).trans hgr (fun k hk => .inl hk)
    have HB5 := HH.out.blk.fr F5 (fun hk => (HBLK.out _ hk).2.2.1 rfl)
    have HM5 := HH.out.map.fr F5 (fun hk => (HBLK.out _ hk).2.2.2 rfl)
    have HFL := hide (flay_at HB5 rfl HM5 n A5 (m + 1) c5 (by omega))
    have H5 := hide (And.intro F5 (And.intro hown5 hn5))
    clear hgr F5 HB5 HM5 hown5 hg5 hn5 hown3
    go_wp2_with fail
    go_at_call 65
    refine HFL.out.mono ?_
    rintro e w6 ⟨rfl, rfl⟩
    go_wp2
    go_ret
    obtain ⟨F5, hown5, hn5⟩ := H5.out
    have hsz := HF3.out.size
    have HP := HH.out.put F5 n (.slice A5 (m + 1) c5) (q ++ [s]) (by simp) (fun k hk => ⟨_, (HBLK.out k hk).1, hk⟩)
      (by rw [List.length_append, HM.out, List.map_append]; exact hown5) (fun k hk => by
        rcases hn5 with h | h
        · rw [h] at hk
          exact .inl ⟨_, (HBLK.out k hk).1, hk⟩
        · rw [h] at hk
          injection hk with hk
          exact .inr (by omega))
    refine ⟨rfl, ⟨_, ⟨mb, _, _, by rw [HQ.out]; exact HP⟩, fun k hk => ?_⟩, (F5.mono (S' := X) (fun k hk => (HBLK.out k hk).2.1)).trans (fr_setBlock w5 mb _) (fun k hk => .inl (by rw [hk]; exact HH.out.xm))⟩
    rcases hk with hk | hk
    · exact .inl hk
    · rcases hn5 with h | h
      · rw [h] at hk
        exact .inl (HBLK.out k hk).2.1
      · rw [h] at hk
        injection hk with hk
        exact .inr (by omega)
end
end Go.Proofs.YtkhbemmcegmdaaaGreatDoor
end
