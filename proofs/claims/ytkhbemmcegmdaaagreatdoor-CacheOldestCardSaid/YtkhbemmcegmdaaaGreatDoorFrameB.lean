/- THE ROW's STEP, ITS SHARED PARTS: a list of bytes opened. -/
import Derived.Test.YtkhbemmcegmdaaaGreatDoorFrameC
set_option linter.all false
set_option linter.unusedVariables false
set_option maxRecDepth 100000
namespace Go.Proofs.YtkhbemmcegmdaaaGreatDoor.frame
open Go.ChangeShapes Go.WideShapes Go.ChangeAt Go.RowKit
open Go.ChangeMaps (open_string shut_string)

section
variable {H : Type} {enc : TypeId × Value → H} {W : World} {base : Nat} {t : TypeId} {v : Value} {d : DataW H} {ps : List MemPlace}
/-- a slice of integers of one kind, as it came in -/
theorem open_ints' {P : Program} {k : IntKind} {e : TypeId} (ht : P.underlying t = some (.slice e)) (he : P.underlying e = some (.int k)) (hc : P.cellsOf e = 1) (hv : Value.okWide P W .any base t v) (h : DataW.Trod enc P W 0 (fun _ => true) true t v d ps) :
    ∃ A n c, ∃ zs : List Int, v = .slice A n c ∧ Reads W W.heap.size 1 A n (zs.map (Value.int k)) ∧ n ≤ c ∧ c ≤ maxLen ∧ (∀ z ∈ zs, (Lit.int k z).wf = true) := by
  obtain ⟨A, n, c, rfl⟩ := okWide_slice ht hv
  obtain ⟨fuel, hf⟩ := h
  rcases open_ints ht he hc hf with ⟨hcs, _⟩ | ⟨x, l, cp, zs, hcs, _, hl, hm, hz, hx, hcell, hwz⟩
  · simp [Value.cells] at hcs
    obtain ⟨rfl, rfl, rfl⟩ := hcs
    exact ⟨_, _, _, [], rfl, Reads.none_, Nat.le_refl _, by unfold maxLen; omega, by simp⟩
  · simp [Value.cells] at hcs
    obtain ⟨rfl, rfl, rfl⟩ := hcs
    have hz' : zs.length = c := by simpa using hz
    refine ⟨_, _, _, zs.take n, rfl, ⟨by simp; omega, fun hn => ?_⟩, hl, hm, fun z hz => hwz z (List.mem_of_mem_take hz)⟩
    have h0 := hcell 0 (by omega)
    have hb := World.block_lt_of_cell? W _ h0
    obtain ⟨b, o, s⟩ := x
    have hs : s = none := by simpa [Addr.add] using World.cell?_spot h0
    subst hs
    refine ⟨b, o, rfl, by simpa [Addr.add] using hb, fun j u hu => ?_⟩
    have hj : j < n := by
      have := (List.getElem?_eq_some_iff.1 hu).1
      simp at this
      omega
    have hc := hcell j (by omega)
    rw [Addr.add_lit] at hc
    rw [hc, ← hu]
    simp [List.getD, hj, show j < zs.length by omega]
theorem open_bytes (hv : Value.okWide Tryz.prog W .any base 22 v) (h : DataW.Trod enc Tryz.prog W 0 (fun _ => true) true 22 v d ps) :
    ∃ A n c, ∃ bs : List Nat, v = .slice A n c ∧ Reads W W.heap.size 1 A n (bs.map fun b => .int .u8 ((b : Nat) : Int)) ∧ n ≤ c ∧ c ≤ maxLen ∧ (∀ b ∈ bs, b < 256) := by
  obtain ⟨A, n, c, zs, rfl, hr, hn, hm, hz⟩ := open_ints' Tryz.underlying22 Tryz.underlying5 (by kernel_rfl) hv h
  have hb : ∀ z ∈ zs, 0 ≤ z ∧ z < 256 := fun z hzz => by
    have := hz z hzz
    simp [Lit.wf, IntKind.min, IntKind.max, IntKind.signed, IntKind.bits] at this
    omega
  have e : (zs.map Int.toNat).map (fun x => Value.int .u8 ((x : Nat) : Int)) = zs.map (Value.int .u8) := by
    rw [List.map_map]
    apply List.map_congr_left
    intro z hzz
    have := hb z hzz
    simp
    omega
  refine ⟨A, n, c, zs.map Int.toNat, rfl, by rw [e]; exact hr, hn, hm, fun x hx => ?_⟩
  obtain ⟨z, hzz, rfl⟩ := List.mem_map.1 hx
  have := hb z hzz
  omega
end
end Go.Proofs.YtkhbemmcegmdaaaGreatDoor.frame
