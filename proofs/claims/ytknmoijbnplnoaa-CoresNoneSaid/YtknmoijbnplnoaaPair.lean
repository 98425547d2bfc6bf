/- THE LAWS' ARGUMENTS OPENED: a pair of rows, a shard. -/
import Derived.Test.YtknmoijbnplnoaaFrame
import Derived.Test.YtknmoijbnplnoaaRwS
set_option linter.unusedVariables false
set_option maxRecDepth 100000
namespace Go.Proofs.Ytknmoijbnplnoaa.frame
open Go.ChangeShapes Go.WideShapes Go.ChangeAt Go.RowKit
open Go.ChangeMaps (open_string shut_string)

section
variable {H : Type} {enc : TypeId × Value → H} {W W' : World} {base : Nat} {t : TypeId} {v : Value} {d : DataW H} {ps : List MemPlace}
theorem ints_cells {P : Program} {k : IntKind} {e : TypeId} {fuel : Nat} {cs : List Value} {x : DataW H × List MemPlace} (ht : P.underlying t = some (.slice e)) (he : P.underlying e = some (.int k)) (hc : P.cellsOf e = 1) (hf : DataW.trod enc P W 0 (fun _ => true) true fuel t cs = some x) :
    ∃ A n c, ∃ zs : List Int, cs = [.slice A n c] ∧ Reads W W.heap.size 1 A n (zs.map (Value.int k)) ∧ n ≤ c ∧ c ≤ maxLen ∧ (∀ z ∈ zs, (Lit.int k z).wf = true) := by
  rcases open_ints ht he hc hf with ⟨hcs, _⟩ | ⟨x, l, cp, zs, hcs, _, hl, hm, hz, hx, hcell, hwz⟩
  · exact ⟨none, 0, 0, [], hcs, Reads.none_, Nat.le_refl _, by unfold maxLen; omega, by simp⟩
  · have hz' : zs.length = cp := by simpa using hz
    refine ⟨some x, l, cp, zs.take l, hcs, ⟨by simp; omega, fun hn => ?_⟩, hl, hm, fun z hz => hwz z (List.mem_of_mem_take hz)⟩
    have h0 := hcell 0 (by omega)
    have hb := World.block_lt_of_cell? W _ h0
    obtain ⟨b, o, s⟩ := x
    have hs : s = none := by simpa [Addr.add] using World.cell?_spot h0
    subst hs
    refine ⟨b, o, rfl, by simpa [Addr.add] using hb, fun j u hu => ?_⟩
    have hj : j < l := by
      have := (List.getElem?_eq_some_iff.1 hu).1
      simp at this
      omega
    have hc := hcell j (by omega)
    rw [Addr.add_lit] at hc
    rw [hc, ← hu]
    simp [List.getD, hj, show j < zs.length by omega]

theorem u64s_cells {fuel : Nat} {cs : List Value} {x : DataW H × List MemPlace} (hf : DataW.trod enc Try.prog W 0 (fun _ => true) true fuel 22 cs = some x) :
    ∃ A n c, ∃ xs : List Nat, cs = [.slice A n c] ∧ Reads W W.heap.size 1 A n (xs.map u64v) ∧ (∀ x ∈ xs, x < 18446744073709551616) := by
  obtain ⟨A, n, c, zs, h1, hr, hn, hm, hz⟩ := ints_cells Try.underlying22 Try.underlying85 (by kernel_rfl) hf
  obtain ⟨xs, hx, hxl, hxb⟩ := u64_nums hz
  refine ⟨A, n, c, xs, h1, ?_, hxb⟩
  rw [hx] at hr
  exact hr

theorem open_pair (hv : Value.okWide Try.prog W .any base 24 v) (h : DataW.Trod enc Try.prog W 0 (fun _ => true) true 24 v d ps) :
    ∃ A n c A' m d, ∃ xs ys : List Nat, v = .agg #[.slice A n c, .slice A' m d] ∧ Reads W W.heap.size 1 A n (xs.map u64v) ∧ Reads W W.heap.size 1 A' m (ys.map u64v) ∧ (∀ x ∈ xs, x < 18446744073709551616) ∧ (∀ x ∈ ys, x < 18446744073709551616) := by
  obtain ⟨cs, rfl, hsz⟩ := okWide_struct Try.underlying24 hv
  rw [show Try.prog.cellsOf 24 = 2 by kernel_rfl] at hsz
  obtain ⟨fuel, hf⟩ := h
  obtain ⟨y0, y1, n, _, hl, h0, h1⟩ := trod_struct2 Try.underlying24 hf
  obtain ⟨l⟩ := cs
  match l, hsz with
  | [u0, u1], _ =>
    simp only [show Try.prog.cellsOf 22 = 1 by kernel_rfl] at h0 h1
    obtain ⟨A, n, c, xs, e0, hr, hx⟩ := u64s_cells h0
    obtain ⟨A', m, d, ys, e1, hr', hy⟩ := u64s_cells h1
    simp [Value.cells] at e0 e1
    subst e0
    subst e1
    exact ⟨_, _, _, _, _, _, xs, ys, rfl, hr, hr', hx, hy⟩
end
end Go.Proofs.Ytknmoijbnplnoaa.frame
