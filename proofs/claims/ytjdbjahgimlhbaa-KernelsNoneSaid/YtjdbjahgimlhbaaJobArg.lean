/- A JOB THAT CAME IN. -/
import Derived.Test.YtjdbjahgimlhbaaGraphArg
set_option linter.unusedVariables false
set_option maxRecDepth 100000
namespace Go.Proofs.Ytjdbjahgimlhbaa.frame
open Go.ChangeShapes Go.WideShapes Go.ChangeAt Go.RowKit Go.Deep

section
variable {H : Type} {enc : TypeId × Value → H} {W W' : World} {base : Nat} {t : TypeId} {v : Value} {d : DataW H} {ps : List MemPlace}
theorem u16_nat {z : Int} (h : (Lit.int .u16 z).wf = true) : ∃ n : Nat, z = n ∧ n < 65536 := by
  simp [Lit.wf, IntKind.min, IntKind.max, IntKind.signed, IntKind.bits] at h
  exact ⟨z.toNat, by omega, by omega⟩
theorem open_ask (hv : Value.okWide Try.prog W .any base 85 v) (h : DataW.Trod enc Try.prog W 0 (fun _ => true) true 85 v d ps) :
    ∃ K a p d : Nat, v = .agg #[.int .u8 (K : Int), .int .u8 (a : Int), .int .u8 (p : Int), .int .u16 (d : Int)] ∧ K < 256 ∧ a < 256 ∧ p < 256 ∧ d < 65536 := by
  obtain ⟨cs, rfl, hsz⟩ := okWide_struct Try.underlying85 hv
  rw [show Try.prog.cellsOf 85 = 4 by kernel_rfl] at hsz
  obtain ⟨fuel, hf⟩ := h
  obtain ⟨xs, k, hk, hxy, _, hxl, hfs⟩ := DataW.trod_struct Try.underlying85 hf
  obtain ⟨l⟩ := cs
  match l, hsz, xs, hxl with
  | [u0, u1, u2, u3], _, [y0, y1, y2, y3], _ =>
    have g0 : DataW.trod enc Try.prog W 0 (fun _ => true) true k 5 (((Value.cells (.agg ⟨[u0, u1, u2, u3]⟩)).toList.drop 0).take (Try.prog.cellsOf 5)) = some y0 := hfs 0 _ rfl
    have g1 : DataW.trod enc Try.prog W 0 (fun _ => true) true k 5 (((Value.cells (.agg ⟨[u0, u1, u2, u3]⟩)).toList.drop 1).take (Try.prog.cellsOf 5)) = some y1 := hfs 1 _ rfl
    have g2 : DataW.trod enc Try.prog W 0 (fun _ => true) true k 5 (((Value.cells (.agg ⟨[u0, u1, u2, u3]⟩)).toList.drop 2).take (Try.prog.cellsOf 5)) = some y2 := hfs 2 _ rfl
    have g3 : DataW.trod enc Try.prog W 0 (fun _ => true) true k 83 (((Value.cells (.agg ⟨[u0, u1, u2, u3]⟩)).toList.drop 3).take (Try.prog.cellsOf 83)) = some y3 := hfs 3 _ rfl
    rw [show Try.prog.cellsOf 5 = 1 by kernel_rfl] at g0 g1 g2
    rw [show Try.prog.cellsOf 83 = 1 by kernel_rfl] at g3
    obtain ⟨z0, e0, _, w0⟩ := DataW.trod_int Try.underlying5 g0
    obtain ⟨z0, rfl, b0⟩ := u8_nat w0
    obtain ⟨z1, e1, _, w1⟩ := DataW.trod_int Try.underlying5 g1
    obtain ⟨z1, rfl, b1⟩ := u8_nat w1
    obtain ⟨z2, e2, _, w2⟩ := DataW.trod_int Try.underlying5 g2
    obtain ⟨z2, rfl, b2⟩ := u8_nat w2
    obtain ⟨z3, e3, _, w3⟩ := DataW.trod_int Try.underlying83 g3
    obtain ⟨z3, rfl, b3⟩ := u16_nat w3
    simp [Value.cells] at e0 e1 e2 e3
    subst e0
    subst e1
    subst e2
    subst e3
    exact ⟨z0, z1, z2, z3, rfl, b0, b1, b2, b3⟩
theorem open_req (hv : Value.okWide Try.prog W .any base 76 v) (h : DataW.Trod enc Try.prog W 0 (fun _ => true) true 76 v d ps) :
    ∃ a b c d : Int, v = .agg #[.int .i64 a, .int .i64 b, .int .i64 c, .int .i64 d] := by
  obtain ⟨cs, rfl, hsz⟩ := okWide_struct Try.underlying76 hv
  rw [show Try.prog.cellsOf 76 = 4 by kernel_rfl] at hsz
  obtain ⟨fuel, hf⟩ := h
  obtain ⟨xs, k, hk, hxy, _, hxl, hfs⟩ := DataW.trod_struct Try.underlying76 hf
  obtain ⟨l⟩ := cs
  match l, hsz, xs, hxl with
  | [u0, u1, u2, u3], _, [y0, y1, y2, y3], _ =>
    have g0 : DataW.trod enc Try.prog W 0 (fun _ => true) true k 3 (((Value.cells (.agg ⟨[u0, u1, u2, u3]⟩)).toList.drop 0).take (Try.prog.cellsOf 3)) = some y0 := hfs 0 _ rfl
    have g1 : DataW.trod enc Try.prog W 0 (fun _ => true) true k 3 (((Value.cells (.agg ⟨[u0, u1, u2, u3]⟩)).toList.drop 1).take (Try.prog.cellsOf 3)) = some y1 := hfs 1 _ rfl
    have g2 : DataW.trod enc Try.prog W 0 (fun _ => true) true k 3 (((Value.cells (.agg ⟨[u0, u1, u2, u3]⟩)).toList.drop 2).take (Try.prog.cellsOf 3)) = some y2 := hfs 2 _ rfl
    have g3 : DataW.trod enc Try.prog W 0 (fun _ => true) true k 3 (((Value.cells (.agg ⟨[u0, u1, u2, u3]⟩)).toList.drop 3).take (Try.prog.cellsOf 3)) = some y3 := hfs 3 _ rfl
    rw [show Try.prog.cellsOf 3 = 1 by kernel_rfl] at g0 g1 g2 g3
    obtain ⟨z0, e0, _, w0⟩ := DataW.trod_int Try.underlying3 g0
    obtain ⟨z1, e1, _, w1⟩ := DataW.trod_int Try.underlying3 g1
    obtain ⟨z2, e2, _, w2⟩ := DataW.trod_int Try.underlying3 g2
    obtain ⟨z3, e3, _, w3⟩ := DataW.trod_int Try.underlying3 g3
    simp [Value.cells] at e0 e1 e2 e3
    subst e0
    subst e1
    subst e2
    subst e3
    exact ⟨z0, z1, z2, z3, rfl⟩
end
end Go.Proofs.Ytjdbjahgimlhbaa.frame
