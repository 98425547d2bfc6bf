/- Parts of the proof of several laws: no conditions of their own. -/
import Derived.Test.YtjdbjahgimlhbaaWhPk18
section
set_option linter.unusedVariables false
set_option maxRecDepth 100000
namespace Go.Proofs.Ytjdbjahgimlhbaa.frame
open Go.ChangeShapes Go.WideShapes Go.ChangeAt Go.RowKit Go.Deep

section
variable {H : Type} {enc : TypeId × Value → H} {W W' : World} {base : Nat} {t : TypeId} {v : Value} {d : DataW H} {ps : List MemPlace}
theorem u8s_cells {fuel : Nat} {cs : List Value} {x : DataW H × List MemPlace} (hf : DataW.trod enc Try.prog W 0 (fun _ => true) true fuel 60 cs = some x) :
    ∃ A n c, ∃ xs : List Nat, cs = [.slice A n c] ∧ Reads W W.heap.size 1 A n (xs.map fun x : Nat => .int .u8 (x : Int)) ∧ (∀ x ∈ xs, x < 256) ∧ n ≤ 9223372036854775807 := by
  obtain ⟨A, n, c, zs, h1, hr, hn, hm, hz⟩ := ints_cells Try.underlying60 Try.underlying5 (by kernel_rfl) hf
  have e : (zs.map Int.toNat).map (fun x : Nat => Value.int .u8 (x : Int)) = zs.map (Value.int .u8) := by
    rw [List.map_map]
    apply List.map_congr_left
    intro z hzz
    obtain ⟨k, rfl, _⟩ := u8_nat (hz z hzz)
    simp
  refine ⟨A, n, c, zs.map Int.toNat, h1, by rw [e]; exact hr, fun x hx => ?_, by unfold maxLen at hm; omega⟩
  obtain ⟨z, hzz, rfl⟩ := List.mem_map.1 hx
  obtain ⟨k, rfl, hk⟩ := u8_nat (hz z hzz)
  simpa using hk
theorem open_trip (hv : Value.okWide Try.prog W .any base 62 v) (h : DataW.Trod enc Try.prog W 0 (fun _ => true) true 62 v d ps) :
    ∃ many arg AB nB cB AM nM cM, ∃ ys zs : List Nat, v = .agg #[.int .u8 ((many : Nat) : Int), .int .u8 ((arg : Nat) : Int), .slice AB nB cB, .slice AM nM cM] ∧ many < 256 ∧ arg < 256 ∧
      Reads W W.heap.size 1 AB nB (ys.map fun x : Nat => .int .u8 (x : Int)) ∧ (∀ x ∈ ys, x < 256) ∧ nB ≤ 9223372036854775807 ∧ Reads W W.heap.size 1 AM nM (zs.map fun x : Nat => .int .u8 (x : Int)) ∧ (∀ x ∈ zs, x < 256) ∧ nM ≤ 9223372036854775807 := by
  obtain ⟨cs, rfl, hsz⟩ := okWide_struct Try.underlying62 hv
  rw [show Try.prog.cellsOf 62 = 4 by kernel_rfl] at hsz
  obtain ⟨fuel, hf⟩ := h
  obtain ⟨xs, k, hk, hxy, _, hxl, hfs⟩ := DataW.trod_struct Try.underlying62 hf
  obtain ⟨l⟩ := cs
  match l, hsz, xs, hxl with
  | [u0, u1, u2, u3], _, [y0, y1, y2, y3], _ =>
    have g0 : DataW.trod enc Try.prog W 0 (fun _ => true) true k 5 (((Value.cells (.agg ⟨[u0, u1, u2, u3]⟩)).toList.drop 0).take (Try.prog.cellsOf 5)) = some y0 := hfs 0 _ rfl
    have g1 : DataW.trod enc Try.prog W 0 (fun _ => true) true k 5 (((Value.cells (.agg ⟨[u0, u1, u2, u3]⟩)).toList.drop 1).take (Try.prog.cellsOf 5)) = some y1 := hfs 1 _ rfl
    have g2 : DataW.trod enc Try.prog W 0 (fun _ => true) true k 60 (((Value.cells (.agg ⟨[u0, u1, u2, u3]⟩)).toList.drop 2).take (Try.prog.cellsOf 60)) = some y2 := hfs 2 _ rfl
    have g3 : DataW.trod enc Try.prog W 0 (fun _ => true) true k 60 (((Value.cells (.agg ⟨[u0, u1, u2, u3]⟩)).toList.drop 3).take (Try.prog.cellsOf 60)) = some y3 := hfs 3 _ rfl
    rw [show Try.prog.cellsOf 5 = 1 by kernel_rfl] at g0 g1
    rw [show Try.prog.cellsOf 60 = 1 by kernel_rfl] at g2 g3
    obtain ⟨a, e0, _, w0⟩ := DataW.trod_int Try.underlying5 g0
    obtain ⟨b, e1, _, w1⟩ := DataW.trod_int Try.underlying5 g1
    obtain ⟨a, rfl, ha⟩ := u8_nat w0
    obtain ⟨b, rfl, hb⟩ := u8_nat w1
    obtain ⟨AB, nB, cB, ys, e2, r2, b2, n2⟩ := u8s_cells g2
    obtain ⟨AM, nM, cM, zs, e3, r3, b3, n3⟩ := u8s_cells g3
    simp [Value.cells] at e0 e1 e2 e3
    subst e0
    subst e1
    subst e2
    subst e3
    exact ⟨a, b, AB, nB, cB, AM, nM, cM, ys, zs, rfl, ha, hb, r2, b2, n2, r3, b3, n3⟩
end
end Go.Proofs.Ytjdbjahgimlhbaa.frame
end
