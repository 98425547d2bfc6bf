/- TWO SLICES OF NUMBERS THAT CAME IN, as an array. -/
import Derived.Test.YtjdbjahgimlhbaaGraphArg
set_option linter.unusedVariables false
set_option maxRecDepth 100000
namespace Go.Proofs.Ytjdbjahgimlhbaa.frame
open Go.ChangeShapes Go.WideShapes Go.ChangeAt Go.RowKit Go.Deep

section
variable {H : Type} {enc : TypeId × Value → H} {W W' : World} {base : Nat} {t : TypeId} {v : Value} {d : DataW H} {ps : List MemPlace}
theorem u64s_cells2 {fuel : Nat} {cs : List Value} {x : DataW H × List MemPlace} (hf : DataW.trod enc Try.prog W 0 (fun _ => true) true fuel 49 cs = some x) :
    ∃ A n c, ∃ xs : List Nat, cs = [.slice A n c] ∧ Reads W W.heap.size 1 A n (xs.map u64v) ∧ (∀ x ∈ xs, x < 18446744073709551616) ∧ n ≤ 9223372036854775807 := by
  obtain ⟨A, n, c, zs, h1, hr, hn, hm, hz⟩ := ints_cells Try.underlying49 Try.underlying36 (by kernel_rfl) hf
  obtain ⟨xs, hx, hxl, hxb⟩ := u64_nums hz
  refine ⟨A, n, c, xs, h1, ?_, hxb, by unfold maxLen at hm; omega⟩
  rw [hx] at hr
  exact hr
theorem open_twos (hv : Value.okWide Try.prog W .any base 50 v) (h : DataW.Trod enc Try.prog W 0 (fun _ => true) true 50 v d ps) :
    ∃ A0 n0 d0 A1 n1 d1, ∃ x0 x1 : List Nat, v = .agg #[.slice A0 n0 d0, .slice A1 n1 d1] ∧ Reads W W.heap.size 1 A0 n0 (x0.map u64v) ∧ Reads W W.heap.size 1 A1 n1 (x1.map u64v) ∧ (∀ x ∈ x0, x < 18446744073709551616) ∧ (∀ x ∈ x1, x < 18446744073709551616) ∧ n0 ≤ 9223372036854775807 ∧ n1 ≤ 9223372036854775807 := by
  obtain ⟨cs, rfl, hsz⟩ := okWide_array Try.underlying50 hv
  rw [show Try.prog.cellsOf 50 = 2 by kernel_rfl] at hsz
  obtain ⟨fuel, hf⟩ := h
  obtain ⟨l⟩ := cs
  have hl : l.length = 2 := hsz
  obtain ⟨xs, m, _, _, hcl, hxl, hi⟩ := DataW.trod_array Try.underlying50 hf
  match l, hl with
  | [u0, u1], _ =>
    have h0 := hi 0 (by omega)
    have h1 := hi 1 (by omega)
    simp only [show Try.prog.cellsOf 49 = 1 by kernel_rfl] at h0 h1
    rw [List.getElem?_eq_getElem (by omega)] at h0 h1
    obtain ⟨A0, n0, d0, x0, e0, r0, b0, c0⟩ := u64s_cells2 h0
    obtain ⟨A1, n1, d1, x1, e1, r1, b1, c1⟩ := u64s_cells2 h1
    simp [Value.cells] at e0 e1
    subst e0
    subst e1
    exact ⟨A0, n0, d0, A1, n1, d1, x0, x1, rfl, r0, r1, b0, b1, c0, c1⟩
end
end Go.Proofs.Ytjdbjahgimlhbaa.frame
