/- A SLICE OF TRUTHS THAT CAME IN. -/
import Derived.Test.YtjdbjahgimlhbaaGraphArg
set_option linter.unusedVariables false
set_option maxRecDepth 100000
namespace Go.Proofs.Ytjdbjahgimlhbaa.frame
open Go.ChangeShapes Go.WideShapes Go.ChangeAt Go.RowKit Go.Deep

section
variable {H : Type} {enc : TypeId × Value → H} {W W' : World} {base : Nat} {t : TypeId} {v : Value} {d : DataW H} {ps : List MemPlace}
theorem open_bools (hv : Value.okWide Try.prog W .any base 73 v) (h : DataW.Trod enc Try.prog W 0 (fun _ => true) true 73 v d ps) :
    ∃ A n c, ∃ th : List Bool, v = .slice A n c ∧ Reads W W.heap.size 1 A n (th.map Value.bool) ∧ n ≤ 9223372036854775807 := by
  obtain ⟨A, n, c, rfl⟩ := okWide_slice Try.underlying73 hv
  obtain ⟨fuel, hf⟩ := h
  rcases open_slice1 Try.underlying73 (by kernel_rfl) hf with ⟨hcs, _⟩ | ⟨a, len, cap, m, n', V, D, Pl, hcs, _, hl, hm, hmm, _, hV⟩
  · simp [Value.cells] at hcs
    obtain ⟨rfl, rfl, rfl⟩ := hcs
    exact ⟨none, 0, 0, [], rfl, Reads.none_, by omega⟩
  · simp [Value.cells] at hcs
    obtain ⟨rfl, rfl, rfl⟩ := hcs
    have hmm' : m = c := by simpa using hmm
    obtain ⟨f, hf⟩ := choose_lt (α := Bool) (p := fun i b => W.cell? (a.add i) = some (.bool b)) (n := n) (fun i hi => by
      obtain ⟨h1, h2⟩ := hV i (by omega)
      obtain ⟨b, e, _⟩ := DataW.trod_bool Try.underlying4 h2
      rw [(List.cons.inj e).1] at h1
      exact ⟨b, h1⟩)
    refine ⟨some a, n, c, (List.range n).map f, rfl, ⟨by simp, fun h0 => ?_⟩, by unfold maxLen at hm; omega⟩
    have h1 := hf 0 h0
    have hb := World.block_lt_of_cell? W _ h1
    obtain ⟨b, o, s⟩ := a
    have hs : s = none := by simpa [Addr.add] using World.cell?_spot h1
    subst hs
    refine ⟨b, o, rfl, by simpa [Addr.add] using hb, fun j u hu => ?_⟩
    have hj : j < n := by
      have := (List.getElem?_eq_some_iff.1 hu).1
      simpa using this
    have h2 := hf j hj
    rw [Addr.add_lit] at h2
    rw [h2, ← hu]
    simp [hj]
end
end Go.Proofs.Ytjdbjahgimlhbaa.frame
