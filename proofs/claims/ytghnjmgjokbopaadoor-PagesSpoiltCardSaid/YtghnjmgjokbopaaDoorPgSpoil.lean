/- PLAIN LAWS for the law Spoilt: a page changed in a row of pages; a page put behind them. -/
import Derived.Test.YtghnjmgjokbopaaDoorLwPgB
set_option linter.unusedVariables false
set_option maxRecDepth 100000
namespace Go.Proofs.YtghnjmgjokbopaaDoor
open Go.RowKit

theorem jOk_snoc : ∀ (L : List (List UInt8)) (first : Bool) (p q : List UInt8), jOk first (L ++ [p]) = true → pageB q = true → jOk first (L ++ [p] ++ [q]) = (decide (122 ≤ (datB p).length) && !(datB q).isEmpty)
  | [], first, p, q, h, hq => by
    simp only [List.nil_append, jOk, List.isEmpty_nil, Bool.true_or, Bool.true_and, Bool.and_true, Bool.and_eq_true, Bool.or_eq_true, Bool.not_eq_true'] at h
    have h2 : (first || !(datB p).isEmpty) = true := by simpa using h.2
    simp [jOk, h.1, h2, hq]
  | r :: L, first, p, q, h, hq => by
    have hne : (L ++ [p]).isEmpty = false := by simp
    have hne2 : (L ++ [p] ++ [q]).isEmpty = false := by simp
    simp only [List.cons_append, jOk, hne, Bool.false_or, Bool.and_eq_true] at h
    have ih := jOk_snoc L false p q h.2 hq
    simp only [List.cons_append, jOk, hne2, Bool.false_or, ih, h.1.1, h.1.2.1, h.1.2.2, Bool.true_and]
theorem join_snoc (L : List (List UInt8)) (p q : List UInt8) (h : joinB (L ++ [p]) = true) (hq : pageB q = true) : joinB (L ++ [p] ++ [q]) = (decide (122 ≤ (datB p).length) && !(datB q).isEmpty) := by
  have h1 : jOk true (L ++ [p]) = true := by
    unfold joinB at h
    simp only [Bool.and_eq_true] at h
    exact h.2
  unfold joinB
  rw [jOk_snoc L true p q h1 hq]
  simp
theorem join_last (L : List (List UInt8)) (n : Nat) (hn : L.length = n + 1) (q : List UInt8) (h : joinB L = true) (hq : pageB q = true) : joinB (L ++ [q]) = (decide (122 ≤ (datB (L[n]'(by omega))).length) && !(datB q).isEmpty) := by
  have hne : L ≠ [] := by intro e; rw [e] at hn; simp at hn
  have e := (List.dropLast_concat_getLast hne).symm
  have hg : L.getLast hne = L[n]'(by omega) := by
    rw [List.getLast_eq_getElem]
    congr 1
    omega
  rw [hg] at e
  rw [e] at h
  have := join_snoc _ _ q h hq
  rw [← e] at this
  exact this
theorem join_set_bad (L : List (List UInt8)) (i : Nat) (q : List UInt8) (hi : i < L.length) (hq : q.length ≠ 128) : joinB (L.set i q) = false := by
  rw [Bool.eq_false_iff]
  intro h
  have := ((join_iff _).1 h).1 q (List.mem_set hi q)
  exact hq ((pageB_iff q).1 this).1
end Go.Proofs.YtghnjmgjokbopaaDoor
