/- A REGION THAT DRAWS: reads first, then some that make memory, then the rest, which waits for all. What is held while reads may come need not hold behind the rest. -/
import Derived.Test.YtkhbemmcegmdaaaGreatDoorBase
import Derived.Deep.RegionHeld3
import Derived.StillTailTactics
set_option linter.all false
set_option linter.unusedVariables false
namespace Go.Proofs.YtkhbemmcegmdaaaGreatDoor
open Go

section
variable {P : Program} {ops : Array Oper} {Q : Exit → Act → World → Prop} {md : Region.Mode} {S : World → Prop} {n1 : Nat}

def wpAnyE (P : Program) (md : Region.Mode) (ops : Array Oper) (Q : Exit → Act → World → Prop) (S : World → Prop) (n1 : Nat) : Nat → Array Bool → Act → World → Prop
  | 0, listed, a, w => Region.ready md ops listed = [] ∧ Q .normal a w
  | fuel + 1, listed, a, w =>
    (Region.ready md ops listed = [] → Q .normal a w) ∧
    ∀ i ∈ Region.ready md ops listed, wpOp P ops Q i (fun a' w' => ((listed.setIfInBounds i true).getD n1 false = false → S w') ∧ wpAnyE P md ops Q S n1 fuel (listed.setIfInBounds i true) a' w') a w
theorem wpAny_of_E : ∀ (fuel : Nat) (listed : Array Bool) (a : Act) (w : World), wpAnyE P md ops Q S n1 fuel listed a w → wpAny P md ops Q fuel listed a w
  | 0, _, _, _, h => h
  | fuel + 1, _, _, _, h => ⟨h.1, fun i hi => wpOp_mono (fun a' w' h' => wpAny_of_E fuel _ a' w' h'.2) (h.2 i hi)⟩

theorem wpAnyE_first {i : Nat} {oi : Oper} {v : Value} (hi : ops[i]? = some oi) (hsel : ∀ (j : Nat) (o : Oper) cs b, ops[j]? = some o → o.op ≠ .select cs b)
    (hQ : ∀ c a w, Q (.panic c) (a.put oi.dst v) w → Q (.panic c) a w) (hw : Region.waitsFor md ops n1 i = true) :
    ∀ (fuel : Nat) (listed : Array Bool) (a : Act) (w : World),
      (∀ j oj, ops[j]? = some oj → j ≠ i → listed.getD j true = false → (∀ e ∈ oj.after, Region.binds md e = true → e.on ≠ i) → oi.apart ops oj = true) →
      i ∈ Region.ready md ops listed → listed.getD n1 false = false → YieldsIf P ops S oi v a → S w →
      wpAnyE P md ops Q S n1 fuel (listed.setIfInBounds i true) (a.put oi.dst v) w → wpAnyE P md ops Q S n1 (fuel + 1) listed a w := by
  have hni : ∀ listed : Array Bool, i ∈ Region.ready md ops listed → ∀ j ∈ Region.ready md ops listed, j ≠ n1 := fun listed hr j hj e => by
    subst e
    obtain ⟨oj, hoj, ed, he, hb, hon⟩ := Region.waitsFor_spec hw
    obtain ⟨_, oj', hoj', hall⟩ := mem_ready.1 hj
    have : oj' = oj := Option.some.inj (hoj'.symm.trans hoj)
    subst this
    have h1 := hall ed he hb
    rw [hon, getD_both (mem_ready.1 hr).1] at h1
    cases h1
  intro fuel
  induction fuel with
  | zero =>
    intro listed a w _ hr hn hy hS H
    refine ⟨fun h => (by rw [h] at hr; cases hr), fun j hj => ?_⟩
    by_cases hji : j = i
    · subst hji; exact hy.wpOp hi hS ⟨fun _ => hS, H⟩
    · have := ready_mono hj hji
      rw [H.1] at this
      cases this
  | succ fuel ih =>
    intro listed a w hfree hr hn hy hS H
    refine ⟨fun h => (by rw [h] at hr; cases hr), fun j hj => ?_⟩
    by_cases hji : j = i
    · subst hji; exact hy.wpOp hi hS ⟨fun _ => hS, H⟩
    · have h1 := H.2 j (ready_mono hj hji)
      have hj1 := hni listed hr j hj
      have hi1 := hni listed hr i hr
      have hl1 : (listed.setIfInBounds j true).getD n1 false = false := by rw [getD_set_ne false hj1]; exact hn
      have hl2 : ((listed.setIfInBounds i true).setIfInBounds j true).getD n1 false = false := by rw [getD_set_ne false hj1, getD_set_ne false hi1]; exact hn
      obtain ⟨hjun, oj, hoj, hall⟩ := mem_ready.1 hj
      have hnot : ∀ e ∈ oj.after, Region.binds md e = true → e.on ≠ i := fun e he hb heq => by
        have h1 := hall e he hb
        rw [heq, getD_both (mem_ready.1 hr).1] at h1
        cases h1
      have h2 := wpOp_putIf hoj (hfree j oj hoj hji hjun hnot) (fun cs b => hsel i oi cs b hi) (fun cs b => hsel j oj cs b hoj) hQ hy h1
      have hfree' : ∀ k ok, ops[k]? = some ok → k ≠ i → (listed.setIfInBounds j true).getD k true = false →
          (∀ e ∈ ok.after, Region.binds md e = true → e.on ≠ i) → oi.apart ops ok = true := fun k ok hk hki hun hno => by
        refine hfree k ok hk hki ?_ hno
        by_cases hjk : j = k
        · subst hjk; exact hjun
        · rw [getD_set_ne true hjk] at hun; exact hun
      refine wpOp_mono (fun a' w' h3 => ⟨fun _ => h3.2.1 hl2, ih (listed.setIfInBounds j true) a' w' hfree' (ready_mono hr (Ne.symm hji)) hl1 h3.1 (h3.2.1 hl2) ?_⟩) h2
      rw [Array.setIfInBounds_comm _ _ hji]
      exact h3.2.2

theorem wpAnyE_of_any : ∀ (fuel : Nat) (listed : Array Bool) (a : Act) (w : World), listed.getD n1 false = true → wpAny P md ops Q fuel listed a w → wpAnyE P md ops Q S n1 fuel listed a w
  | 0, _, _, _, _, h => h
  | fuel + 1, listed, a, w, hl, h => ⟨h.1, fun i hi => wpOp_mono (fun a' w' h' => ⟨fun h0 => (by rw [getD_set_true hl] at h0; cases h0), wpAnyE_of_any fuel _ a' w' (getD_set_true hl) h'⟩) (h.2 i hi)⟩
theorem wpAnyE_rest {fuel : Nat} {listed : Array Bool} {a : Act} {w : World} (hr : Region.ready md ops listed = [n1]) (hs : n1 < listed.size) (h : wpAny P md ops Q (fuel + 1) listed a w) : wpAnyE P md ops Q S n1 (fuel + 1) listed a w := by
  refine ⟨h.1, fun i hi => ?_⟩
  have hl : ∀ i, i ∈ Region.ready md ops listed → (listed.setIfInBounds i true).getD n1 false = true := by
    intro i hi
    rw [hr] at hi
    obtain rfl := List.mem_singleton.1 hi
    simp [hs]
  exact wpOp_mono (fun a' w' h' => ⟨fun h0 => (by rw [hl i hi] at h0; cases h0), wpAnyE_of_any fuel _ a' w' (hl i hi) h'⟩) (h.2 i hi)

/-- the post for one operation -/
def midQ (Q : Exit → Act → World → Prop) (K : Act → World → Prop) : Exit → Act → World → Prop
  | .normal, a, w => K a w
  | e, a, w => Q e a w
theorem wp_midQ {o : Oper} {a : Act} {w : World} {K K2 : Act → World → Prop} (hh : o.wp P a w K (midQ Q K2)) : o.wp P a w K Q := by
  unfold Oper.wp at *
  generalize (execOp a.eval o).run P w = r at *
  cases r with
  | ok n w' =>
    cases n <;> simp only [Oper.upon] at hh ⊢ <;>
      first
        | exact hh
        | exact Calls.mono hh (fun e w'' he => by cases e <;> first | exact he | exact he)
        | exact Rows.mono hh (fun _ _ he => he)
  | halt x w' => cases x <;> simp only [Oper.upon] at hh ⊢ <;> exact hh
theorem wpOp_of_mid {k : Nat} {o : Oper} {a : Act} {w : World} {K : Act → World → Prop} (h0 : ops[k]? = some o) (h : wpList P ops (midQ Q K) [o] a w) : wpOp P ops Q k K a w := by
  unfold wpOp
  simp only [h0]
  unfold wpList at h
  split
  · rename_i hw
    simp only [hw, if_true] at h
    rcases h with h | ⟨h1, h2⟩
    · exact .inl (wp_midQ h)
    · exact .inr ⟨h1, h2⟩
  · rename_i hw
    simp only [hw] at h
    exact h
/-- some operations in order, behind each of which S holds -/
def wpMid (P : Program) (ops : Array Oper) (Q : Exit → Act → World → Prop) (S : World → Prop) (K : Act → World → Prop) : List Oper → Act → World → Prop
  | [], a, w => K a w
  | o :: l, a, w => wpList P ops (midQ Q fun a' w' => S w' ∧ wpMid P ops Q S K l a' w') [o] a w
/-- reads in order, each in whatever world in which S holds -/
def wpReads (P : Program) (S : World → Prop) (L : Act → Prop) : List Oper → Act → Prop
  | [], a => L a
  | o :: l, a => ∃ v, (o.guard = none ∧ ∀ w, S w → (execOp a.eval o).run P w = .ok (.value v) w) ∧ wpReads P S L l (a.put o.dst v)
theorem wpReads_cons {L : Act → Prop} {o : Oper} {l : List Oper} {a : Act} (hg : o.guard = none) (v : Value) (h : ∀ w, S w → (execOp a.eval o).run P w = .ok (.value v) w) (hr : wpReads P S L l (a.put o.dst v)) : wpReads P S L (o :: l) a := ⟨v, ⟨hg, h⟩, hr⟩

def midB (md : Region.Mode) (ops : Array Oper) (n1 g : Nat) : Nat → Nat → Array Bool → Bool
  | 0, k, listed => decide (k = n1) && decide (Region.ready md ops listed = [n1]) && decide (n1 < listed.size) && Region.seqB md ops (g + 1) k listed
  | f + 1, k, listed => decide (Region.ready md ops listed = [k]) && decide (k < n1) && midB md ops n1 g f (k + 1) (listed.setIfInBounds k true)
def headB (md : Region.Mode) (ops : Array Oper) (n1 m g : Nat) : Nat → Nat → Array Bool → Bool
  | 0, k, listed => midB md ops n1 g m k listed
  | f + 1, k, listed => (Region.ready md ops listed).contains k && Region.free md ops listed k && Region.waitsFor md ops n1 k && !(listed.getD n1 false) && headB md ops n1 m g f (k + 1) (listed.setIfInBounds k true)

theorem wpAnyE_mid (r : List Oper) (hr : ∀ j, r[j]? = ops[n1 + j]?) {g : Nat} (hg : r.length = g + 1) : ∀ (l : List Oper) (k : Nat) (listed : Array Bool) (a : Act) (w : World), (∀ j, j < l.length → l[j]? = ops[k + j]?) →
    midB md ops n1 g l.length k listed = true → wpMid P ops Q S (fun a w => wpList P ops Q r a w) l a w → wpAnyE P md ops Q S n1 (l.length + (g + 1)) listed a w
  | [], k, listed, a, w, _, hB, h => by
    simp only [List.length_nil, midB, Bool.and_eq_true, decide_eq_true_eq] at hB
    obtain ⟨⟨⟨rfl, h1⟩, h2⟩, h3⟩ := hB
    simp only [List.length_nil, Nat.zero_add]
    refine wpAnyE_rest h1 h2 ?_
    rw [← hg]
    exact wpAny_of_seq r k listed a w hr (by rw [hg]; exact h3) h
  | o :: l, k, listed, a, w, hl, hB, h => by
    have h0 : ops[k]? = some o := by simpa using (hl 0 (by simp)).symm
    simp only [List.length_cons, midB, Bool.and_eq_true, decide_eq_true_eq] at hB
    obtain ⟨⟨h1, h2⟩, h3⟩ := hB
    rw [show (o :: l).length + (g + 1) = (l.length + (g + 1)) + 1 by simp; omega]
    refine ⟨fun h4 => (by rw [h1] at h4; cases h4), fun i hi => ?_⟩
    rw [h1] at hi
    obtain rfl := List.mem_singleton.1 hi
    exact wpOp_mono (fun a' w' h' => ⟨fun _ => h'.1, wpAnyE_mid r hr hg l (i + 1) _ a' w' (fun j hj => by have := hl (j + 1) (by simp; omega); simpa [Nat.add_assoc, Nat.add_comm 1 j] using this) h3 h'.2⟩) (wpOp_of_mid h0 h)
theorem wpAnyE_head (hsel : Region.noSelect ops = true) (hQ : ∀ c a (d : Option Tmp) v w, Q (.panic c) (a.put d v) w → Q (.panic c) a w) {w : World} (hS : S w) (r : List Oper) (hr : ∀ j, r[j]? = ops[n1 + j]?) {g : Nat} (hg : r.length = g + 1)
    (m : List Oper) : ∀ (l : List Oper) (k : Nat) (listed : Array Bool) (a : Act), (∀ j, j < l.length → l[j]? = ops[k + j]?) → (∀ j, j < m.length → m[j]? = ops[k + l.length + j]?) →
    headB md ops n1 m.length g l.length k listed = true → wpReads P S (fun a => wpMid P ops Q S (fun a w => wpList P ops Q r a w) m a w) l a → wpAnyE P md ops Q S n1 (l.length + (m.length + (g + 1))) listed a w
  | [], k, listed, a, _, hm, hB, h => by
    simp only [List.length_nil, headB] at hB
    simp only [List.length_nil, Nat.zero_add]
    exact wpAnyE_mid r hr hg m k listed a w (by simpa using hm) hB h
  | o :: l, k, listed, a, hl, hm, hB, h => by
    have h0 : ops[k]? = some o := by simpa using (hl 0 (by simp)).symm
    simp only [List.length_cons, headB, Bool.and_eq_true, Bool.not_eq_true'] at hB
    obtain ⟨⟨⟨⟨h1, h2⟩, h3⟩, h4⟩, h5⟩ := hB
    obtain ⟨v, ⟨hg0, hy⟩, hrest⟩ := h
    rw [show (o :: l).length + (m.length + (g + 1)) = (l.length + (m.length + (g + 1))) + 1 by simp; omega]
    refine wpAnyE_first h0 (Region.noSelect_spec hsel) (fun c a w => hQ c a _ _ w) h3 _ listed a w (Region.free_spec h0 h2) (by simpa using h1) h4 (.inl ⟨by simp [Region.wanted, hg0], hy⟩) hS ?_
    exact wpAnyE_head hsel hQ hS r hr hg m l (k + 1) _ _ (fun j hj => by have := hl (j + 1) (by simp; omega); simpa [Nat.add_assoc, Nat.add_comm 1 j] using this) (fun j hj => by have := hm j hj; simpa [Nat.add_assoc, Nat.add_comm 1, Nat.add_left_comm] using this) h5 hrest
def phasedB (ops : Array Oper) (n0 m g : Nat) : Bool := Region.noSelect ops && decide (ops.size = n0 + (m + (g + 1))) && headB .any ops (n0 + m) m g n0 0 (Array.replicate ops.size false)
/-- n0 reads; m operations behind each of which S holds; the rest -/
theorem wp_region_phased {id : Nat} {a : Act} {w : World} {l : List Oper} (n0 m g : Nat) (S : World → Prop) (hm : P.follows .mixedOrders = true) (hB : phasedB l.toArray n0 m g = true) (hS : S w.drew)
    (h : wpReads P S (fun a => wpMid P l.toArray (NoPanic Q) S (fun a w => wpList P l.toArray (NoPanic Q) (l.drop (n0 + m)) a w) ((l.drop n0).take m) a w.drew) (l.take n0) a) : (Code.region id l.toArray true).wp P Q a w := by
  simp only [phasedB, Bool.and_eq_true, decide_eq_true_eq, List.size_toArray] at hB
  obtain ⟨⟨hsel, hsz⟩, hh⟩ := hB
  refine wp_region_noPanic (wp_region_any hm (wpAny_of_E (S := S) (n1 := n0 + m) _ _ _ _ ?_))
  have l1 : (l.take n0).length = n0 := by simp; omega
  have l2 : ((l.drop n0).take m).length = m := by simp; omega
  have l3 : (l.drop (n0 + m)).length = g + 1 := by simp; omega
  have e : l.toArray.size = (l.take n0).length + (((l.drop n0).take m).length + (g + 1)) := by rw [l1, l2]; simpa using hsz
  rw [e]
  refine wpAnyE_head (w := w.drew) hsel (fun c a d v w h => h) hS (l.drop (n0 + m)) (fun j => by simp [List.getElem?_drop]) l3 ((l.drop n0).take m) (l.take n0) 0 _ a (fun j hj => ?_) (fun j hj => ?_) ?_ h
  · rw [l1] at hj
    simp [List.getElem?_take, hj]
  · rw [l2] at hj
    rw [l1]
    simp [List.getElem?_take, hj, List.getElem?_drop]
  · rw [l1, l2]
    have : (l.take n0).length + (((l.drop n0).take m).length + (g + 1)) = l.toArray.size := e.symm
    rw [l1, l2] at this
    rw [this]
    simpa using hh
/-- reads in order, guarded ones too -/
def wpReadsY (P : Program) (ops : Array Oper) (S : World → Prop) (L : Act → Prop) : List Oper → Act → Prop
  | [], a => L a
  | o :: l, a => ∃ v, YieldsIf P ops S o v a ∧ wpReadsY P ops S L l (a.put o.dst v)
theorem readsY_cons {L : Act → Prop} {o : Oper} {l : List Oper} {a : Act} (hg : Region.wanted o (yielded ops a.tmps) = true) (v : Value) (h : ∀ w, S w → (execOp a.eval o).run P w = .ok (.value v) w) (hr : wpReadsY P ops S L l (a.put o.dst v)) : wpReadsY P ops S L (o :: l) a := ⟨v, .inl ⟨hg, h⟩, hr⟩
theorem readsY_skip {L : Act → Prop} {o : Oper} {l : List Oper} {a : Act} (hg : Region.wanted o (yielded ops a.tmps) = false) (hr : wpReadsY P ops S L l (a.put o.dst undef)) : wpReadsY P ops S L (o :: l) a := ⟨undef, .inr ⟨hg, rfl⟩, hr⟩
def allB (md : Region.Mode) (ops : Array Oper) : Nat → Nat → Array Bool → Bool
  | 0, k, listed => (Region.ready md ops listed).isEmpty
  | f + 1, k, listed => (Region.ready md ops listed).contains k && Region.free md ops listed k && allB md ops f (k + 1) (listed.setIfInBounds k true)
theorem wpAnyH_all_reads (hsel : Region.noSelect ops = true) (hQ : ∀ c a (d : Option Tmp) v w, Q (.panic c) (a.put d v) w → Q (.panic c) a w) {w : World} (hS : S w) :
    ∀ (l : List Oper) (k : Nat) (listed : Array Bool) (a : Act), (∀ j, j < l.length → l[j]? = ops[k + j]?) → allB md ops l.length k listed = true → wpReadsY P ops S (fun a => Q .normal a w) l a → wpAnyH P md ops Q S l.length listed a w
  | [], k, listed, a, _, hB, h => wpAnyH_done (by simpa [allB] using hB) h _
  | o :: l, k, listed, a, hl, hB, h => by
    have h0 : ops[k]? = some o := by simpa using (hl 0 (by simp)).symm
    simp only [List.length_cons, allB, Bool.and_eq_true] at hB
    obtain ⟨⟨h1, h2⟩, h5⟩ := hB
    obtain ⟨v, hy, hrest⟩ := h
    exact wpAnyH_take h0 hsel h2 h1 (fun c a w => hQ c a _ _ w) hy hS (wpAnyH_all_reads hsel hQ hS l (k + 1) _ _ (fun j hj => by have := hl (j + 1) (by simp; omega); simpa [Nat.add_assoc, Nat.add_comm 1 j] using this) h5 hrest)
/-- a region of reads alone -/
theorem wp_region_reads {id : Nat} {a : Act} {w : World} {l : List Oper} (S : World → Prop) (hm : P.follows .mixedOrders = true) (hB : (Region.noSelect l.toArray && allB .any l.toArray l.length 0 (Array.replicate l.length false)) = true) (hS : S w.drew)
    (h : wpReadsY P l.toArray S (fun a => NoPanic Q .normal a w.drew) l a) : (Code.region id l.toArray true).wp P Q a w := by
  simp only [Bool.and_eq_true] at hB
  refine wp_region_noPanic (wp_region_held (S := S) hm ?_)
  have := wpAnyH_all_reads (Q := NoPanic Q) (md := .any) hB.1 (fun c a d v w h => h) hS l 0 (Array.replicate l.length false) a (fun j hj => by simp) hB.2 h
  simpa using this
theorem midQ_ok {M : Act → World → Prop} {a : Act} {w : World} (h1 : S w) (h2 : M a w) : midQ Q (fun a w => S w ∧ M a w) .normal a w := ⟨h1, h2⟩
end
end Go.Proofs.YtkhbemmcegmdaaaGreatDoor
