/- A REGION THAT DRAWS, by an order of my own: reads may be taken whenever they are free; a call, when nothing else may come up. -/
import Derived.Test.YtkhbemmcegmdaaaGreatDoorPhase
set_option linter.all false
set_option linter.unusedVariables false
namespace Go.Proofs.YtkhbemmcegmdaaaGreatDoor
open Go

section
variable {P : Program} {ops : Array Oper} {Q : Exit → Act → World → Prop} {md : Region.Mode} {S : World → Prop}

/-- the operations in an order: (i, true): read; (i, false): carried out, alone -/
def wpOrd (P : Program) (ops : Array Oper) (Q : Exit → Act → World → Prop) (S : World → Prop) : List (Nat × Bool) → Act → World → Prop
  | [], a, w => Q .normal a w
  | (i, true) :: r, a, w => ∃ o v, ops[i]? = some o ∧ YieldsIf P ops S o v a ∧ wpOrd P ops Q S r (a.put o.dst v) w
  | (i, false) :: r, a, w => ∃ o, ops[i]? = some o ∧ wpList P ops (midQ Q fun a' w' => S w' ∧ wpOrd P ops Q S r a' w') [o] a w
def ordB (md : Region.Mode) (ops : Array Oper) : List (Nat × Bool) → Array Bool → Bool
  | [], listed => (Region.ready md ops listed).isEmpty
  | (i, true) :: r, listed => (Region.ready md ops listed).contains i && Region.free md ops listed i && ordB md ops r (listed.setIfInBounds i true)
  | (i, false) :: r, listed => decide (Region.ready md ops listed = [i]) && ordB md ops r (listed.setIfInBounds i true)
theorem wpAnyH_ord (hsel : Region.noSelect ops = true) (hQ : ∀ c a (d : Option Tmp) v w, Q (.panic c) (a.put d v) w → Q (.panic c) a w) :
    ∀ (r : List (Nat × Bool)) (listed : Array Bool) (a : Act) (w : World), S w → ordB md ops r listed = true → wpOrd P ops Q S r a w → wpAnyH P md ops Q S r.length listed a w
  | [], listed, a, w, _, hB, h => wpAnyH_done (by simpa [ordB] using hB) h _
  | (i, true) :: r, listed, a, w, hS, hB, h => by
    simp only [ordB, Bool.and_eq_true] at hB
    obtain ⟨⟨h1, h2⟩, h3⟩ := hB
    obtain ⟨o, v, h0, hy, hrest⟩ := h
    exact wpAnyH_take h0 hsel h2 h1 (fun c a w => hQ c a _ _ w) hy hS (wpAnyH_ord hsel hQ r _ _ _ hS h3 hrest)
  | (i, false) :: r, listed, a, w, hS, hB, h => by
    simp only [ordB, Bool.and_eq_true, decide_eq_true_eq] at hB
    obtain ⟨h1, h3⟩ := hB
    obtain ⟨o, h0, hl⟩ := h
    refine wpAnyH_all h1 (by simp) (fun j hj => ?_)
    obtain rfl := List.mem_singleton.1 hj
    exact wpOp_mono (fun a' w' h' => ⟨h'.1, wpAnyH_ord hsel hQ r _ a' w' h'.1 h3 h'.2⟩) (wpOp_of_mid h0 hl)
theorem wp_region_ord {id : Nat} {a : Act} {w : World} {l : List Oper} (ord : List (Nat × Bool)) (S : World → Prop) (hm : P.follows .mixedOrders = true) (hB : (Region.noSelect l.toArray && decide (ord.length = l.length) && ordB .any l.toArray ord (Array.replicate l.length false)) = true) (hS : S w.drew)
    (h : wpOrd P l.toArray (NoPanic Q) S ord a w.drew) : (Code.region id l.toArray true).wp P Q a w := by
  simp only [Bool.and_eq_true, decide_eq_true_eq] at hB
  obtain ⟨⟨h1, h2⟩, h3⟩ := hB
  refine wp_region_noPanic (wp_region_held (S := S) hm ?_)
  have := wpAnyH_ord (Q := NoPanic Q) (md := .any) h1 (fun c a d v w h => h) ord (Array.replicate l.length false) a w.drew hS h3 h
  rw [h2] at this
  simpa using this
theorem ord_read {i : Nat} {o : Oper} {r : List (Nat × Bool)} {a : Act} {w : World} (h0 : ops[i]? = some o) (hg : Region.wanted o (yielded ops a.tmps) = true) (v : Value) (h : ∀ w, S w → (execOp a.eval o).run P w = .ok (.value v) w) (hr : wpOrd P ops Q S r (a.put o.dst v) w) : wpOrd P ops Q S ((i, true) :: r) a w := ⟨o, v, h0, .inl ⟨hg, h⟩, hr⟩
theorem ord_skip {i : Nat} {o : Oper} {r : List (Nat × Bool)} {a : Act} {w : World} (h0 : ops[i]? = some o) (hg : Region.wanted o (yielded ops a.tmps) = false) (hr : wpOrd P ops Q S r (a.put o.dst undef) w) : wpOrd P ops Q S ((i, true) :: r) a w := ⟨o, undef, h0, .inr ⟨hg, rfl⟩, hr⟩
theorem ord_act {i : Nat} {o : Oper} {r : List (Nat × Bool)} {a : Act} {w : World} (h0 : ops[i]? = some o) (h : wpList P ops (midQ Q fun a' w' => S w' ∧ wpOrd P ops Q S r a' w') [o] a w) : wpOrd P ops Q S ((i, false) :: r) a w := ⟨o, h0, h⟩
theorem ord_done {a : Act} {w : World} (h : Q .normal a w) : wpOrd P ops Q S [] a w := h
end
end Go.Proofs.YtkhbemmcegmdaaaGreatDoor
