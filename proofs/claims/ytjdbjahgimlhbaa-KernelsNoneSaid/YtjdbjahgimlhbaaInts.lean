/- SLICES OF NUMBERS THAT CAME IN, as cells. -/
import Derived.Test.YtjdbjahgimlhbaaFrame
import Derived.Test.YtjdbjahgimlhbaaRwS
set_option linter.unusedVariables false
set_option maxRecDepth 100000
namespace Go.Proofs.Ytjdbjahgimlhbaa.frame
open Go.ChangeShapes Go.WideShapes Go.ChangeAt Go.RowKit
open Go.ChangeMaps (open_string shut_string)

section
variable {H : Type} {enc : TypeId × Value → H} {W W' : World} {base : Nat} {t : TypeId} {v : Value} {d : DataW H} {ps : List MemPlace}
theorem ints_cells {P : Program} {k : IntKind} {e : TypeId} {fuel : Nat} {cs : List Value} {x : DataW H × List MemPlace} (ht : P.underlying t = some (.slice e)) (he : P.underlying e = some (.int k)) (hc : P.cellsOf e = 1) (hf : DataW.trod enc P W 0 (fun _ => true) true fuel t cs = some x) :
    ∃ A n c, ∃ zs : List Int, cs = [.slice A n c] ∧ Reads W W.heap.size 1 A n (zs.map (Value.int k)) ∧ n ≤ c ∧ c ≤ maxLen ∧ (∀ z ∈ zs, (Lit.int k z).wf = true) := by
  rcases open_ints ht he hc hf with ⟨hcs, _⟩ | ⟨x, l, cp, zs, hcs, _, hl, hm, hz, hx, hcell, hwz⟩
  · exact ⟨none, 0, 0, [], hcs, Reads.none_, Nat.le_refl _, by unfold maxLen; omega, by simp⟩
  · have hz' : zs.length = cp := by simpa using hz
    refine ⟨some x, l, cp, zs.take l, hcs, ⟨by simp; omega, fun hn => ?_⟩, hl, hm, fun z hz => hwz z (List.mem_of_mem_take hz)⟩
    have h0 := hcell 0 (by omega)
    have hb := World.block_lt_of_cell? W _ h0
    obtain ⟨b, o, s⟩ := x
    have hs : s = none := by simpa [Addr.add] using World.cell?_spot h0
    subst hs
    refine ⟨b, o, rfl, by simpa [Addr.add] using hb, fun j u hu => ?_⟩
    have hj : j < l := by
      have := (List.getElem?_eq_some_iff.1 hu).1
      simp at this
      omega
    have hc := hcell j (by omega)
    rw [Addr.add_lit] at hc
    rw [hc, ← hu]
    simp [List.getD, hj, show j < zs.length by omega]

theorem u64s_cells {fuel : Nat} {cs : List Value} {x : DataW H × List MemPlace} (hf : DataW.trod enc Try.prog W 0 (fun _ => true) true fuel 49 cs = some x) :
    ∃ A n c, ∃ xs : List Nat, cs = [.slice A n c] ∧ Reads W W.heap.size 1 A n (xs.map u64v) ∧ (∀ x ∈ xs, x < 18446744073709551616) := by
  obtain ⟨A, n, c, zs, h1, hr, hn, hm, hz⟩ := ints_cells Try.underlying49 Try.underlying36 (by kernel_rfl) hf
  obtain ⟨xs, hx, hxl, hxb⟩ := u64_nums hz
  refine ⟨A, n, c, xs, h1, ?_, hxb⟩
  rw [hx] at hr
  exact hr

end
end Go.Proofs.Ytjdbjahgimlhbaa.frame
