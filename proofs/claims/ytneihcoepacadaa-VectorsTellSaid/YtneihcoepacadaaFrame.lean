/- THE ROW's STEP, ITS SHARED PARTS: arguments that a call has only read read as they did; slices of numbers opened. -/
import Derived.Test.YtneihcoepacadaaBase
import Derived.ProofKit
import Derived.OpenShut
import Derived.ShutString
import Derived.ChangeOld
import Derived.Below
import Derived.Carry
set_option linter.unusedVariables false
namespace Go.Proofs.Ytneihcoepacadaa.frame
open Go.ChangeShapes Go.WideShapes Go.ChangeAt Go.RowKit
open Go.ChangeMaps (open_string shut_string)

theorem own : ownKnob Try.prog.godebug = none := by kernel_rfl
theorem laidOut : laidOutB Try.prog = true := by kernel_rfl

section
variable {H : Type} {enc : TypeId × Value → H} {W W' : World} {base : Nat} {t : TypeId} {v : Value} {d : DataW H} {ps : List MemPlace}
theorem keep (hr : Try.prog.readableRec t = true) (hrow : t < Try.prog.types.size) (h : DataW.Trod enc Try.prog W 0 (fun _ => true) true t v d ps) (bel : Below W.heap.size W W') :
    DataW.Trod enc Try.prog W' 0 (fun b => decide (b < W.heap.size)) true t v d ps :=
  Below.trod laidOut hr hrow h bel (by obtain ⟨m, hm⟩ := h; exact DataW.trod_lt m _ _ _ hm)

/-- a slice of integers of one kind, as it came in -/
theorem open_ints' {P : Program} {k : IntKind} {e : TypeId} (ht : P.underlying t = some (.slice e)) (he : P.underlying e = some (.int k)) (hc : P.cellsOf e = 1) (hv : Value.okWide P W .any base t v) (h : DataW.Trod enc P W 0 (fun _ => true) true t v d ps) :
    ∃ A n c, ∃ zs : List Int, v = .slice A n c ∧ Reads W W.heap.size 1 A n (zs.map (Value.int k)) ∧ n ≤ c ∧ c ≤ maxLen ∧ (∀ z ∈ zs, (Lit.int k z).wf = true) := by
  obtain ⟨A, n, c, rfl⟩ := okWide_slice ht hv
  obtain ⟨fuel, hf⟩ := h
  rcases open_ints ht he hc hf with ⟨hcs, _⟩ | ⟨x, l, cp, zs, hcs, _, hl, hm, hz, hx, hcell, hwz⟩
  · simp [Value.cells] at hcs
    obtain ⟨rfl, rfl, rfl⟩ := hcs
    exact ⟨_, _, _, [], rfl, Reads.none_, Nat.le_refl _, by unfold maxLen; omega, by simp⟩
  · simp [Value.cells] at hcs
    obtain ⟨rfl, rfl, rfl⟩ := hcs
    have hz' : zs.length = c := by simpa using hz
    refine ⟨_, _, _, zs.take n, rfl, ⟨by simp; omega, fun hn => ?_⟩, hl, hm, fun z hz => hwz z (List.mem_of_mem_take hz)⟩
    have h0 := hcell 0 (by omega)
    have hb := World.block_lt_of_cell? W _ h0
    obtain ⟨b, o, s⟩ := x
    have hs : s = none := by simpa [Addr.add] using World.cell?_spot h0
    subst hs
    refine ⟨b, o, rfl, by simpa [Addr.add] using hb, fun j u hu => ?_⟩
    have hj : j < n := by
      have := (List.getElem?_eq_some_iff.1 hu).1
      simp at this
      omega
    have hc := hcell j (by omega)
    rw [Addr.add_lit] at hc
    rw [hc, ← hu]
    simp [List.getD, hj, show j < zs.length by omega]

theorem open_u64s (hv : Value.okWide Try.prog W .any base 38 v) (h : DataW.Trod enc Try.prog W 0 (fun _ => true) true 38 v d ps) :
    ∃ A n c, ∃ xs : List Nat, v = .slice A n c ∧ Reads W W.heap.size 1 A n (xs.map fun x => .int .u64 ((x : Nat) : Int)) ∧ n ≤ c ∧ c ≤ maxLen ∧ (∀ x ∈ xs, x < 18446744073709551616) := by
  obtain ⟨A, n, c, zs, rfl, hr, hn, hm, hz⟩ := open_ints' Try.underlying38 Try.underlying29 (by kernel_rfl) hv h
  have hb : ∀ z ∈ zs, 0 ≤ z ∧ z < 18446744073709551616 := fun z hzz => by
    have := hz z hzz
    simp [Lit.wf, IntKind.min, IntKind.max, IntKind.signed, IntKind.bits] at this
    omega
  have e : (zs.map Int.toNat).map (fun x => Value.int .u64 ((x : Nat) : Int)) = zs.map (Value.int .u64) := by
    rw [List.map_map]
    apply List.map_congr_left
    intro z hzz
    have := hb z hzz
    simp
    omega
  refine ⟨A, n, c, zs.map Int.toNat, rfl, by rw [e]; exact hr, hn, hm, fun x hx => ?_⟩
  obtain ⟨z, hzz, rfl⟩ := List.mem_map.1 hx
  have := hb z hzz
  omega
end
end Go.Proofs.Ytneihcoepacadaa.frame
