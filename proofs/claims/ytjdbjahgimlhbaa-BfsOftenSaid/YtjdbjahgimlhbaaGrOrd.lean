/- PLAIN LAW of an order: the places of so many, each once. No program in sight. -/
import Derived.Test.YtjdbjahgimlhbaaGrPlain
set_option linter.unusedVariables false
namespace Go.Proofs.Ytjdbjahgimlhbaa.Gr

def pick (y : List Nat) (i m : Nat) : Nat := if i < y.length then y.getD i 0 % m else 0
theorem pick_lt (y : List Nat) (i : Nat) {m : Nat} (h : 0 < m) : pick y i m < m := by
  unfold pick
  split
  · exact Nat.mod_lt _ h
  · exact h
/-- behind i picks: those picked, those left -/
def ord (many : Nat) (y : List Nat) : Nat → List Nat × List Nat
  | 0 => ([], List.range many)
  | i + 1 => ((ord many y i).1 ++ [(ord many y i).2.getD (pick y i (ord many y i).2.length) 0], (ord many y i).2.take (pick y i (ord many y i).2.length) ++ (ord many y i).2.drop (pick y i (ord many y i).2.length + 1))
theorem ord_ok (many : Nat) (y : List Nat) : ∀ i, i ≤ many → ((ord many y i).1 ++ (ord many y i).2).Perm (List.range many) ∧ (ord many y i).1.length = i ∧ (ord many y i).2.length = many - i
  | 0, _ => ⟨List.Perm.refl _, rfl, by simp [ord]⟩
  | i + 1, h => by
    obtain ⟨h1, h2, h3⟩ := ord_ok many y i (by omega)
    have hk := pick_lt y i (m := (ord many y i).2.length) (by omega)
    unfold ord
    generalize ord many y i = p at *
    obtain ⟨o, l⟩ := p
    simp only at h1 h2 h3 hk ⊢
    generalize pick y i l.length = k at *
    refine ⟨?_, by simp [h2], by simp; omega⟩
    have hs : l = l.take k ++ l.getD k 0 :: l.drop (k + 1) := by
      rw [List.getD_eq_getElem?_getD, List.getElem?_eq_getElem hk, Option.getD_some, ← List.drop_eq_getElem_cons hk, List.take_append_drop]
    refine List.Perm.trans ?_ h1
    rw [List.append_assoc]
    apply List.Perm.append_left
    refine List.Perm.trans ?_ (List.Perm.of_eq hs.symm)
    exact (List.perm_middle (a := l.getD k 0) (l₁ := l.take k) (l₂ := l.drop (k + 1))).symm
def order (many : Nat) (y : List Nat) : List Nat := (ord many y many).1
theorem order_perm (many : Nat) (y : List Nat) : (order many y).Perm (List.range many) := by
  obtain ⟨h1, h2, h3⟩ := ord_ok many y many (Nat.le_refl _)
  have : (ord many y many).2 = [] := List.eq_nil_of_length_eq_zero (by omega)
  rw [this, List.append_nil] at h1
  exact h1
theorem order_len (many : Nat) (y : List Nat) : (order many y).length = many := (ord_ok many y many (Nat.le_refl _)).2.1
theorem order_lt (many : Nat) (y : List Nat) : ∀ k ∈ order many y, k < many := by
  intro k hk
  simpa using (order_perm many y).mem_iff.1 hk
end Go.Proofs.Ytjdbjahgimlhbaa.Gr
