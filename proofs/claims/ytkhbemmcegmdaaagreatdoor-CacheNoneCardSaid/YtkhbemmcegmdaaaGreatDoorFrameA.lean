/- THE ROW's STEP, ITS SHARED PARTS: an act by value opened. -/
import Derived.Test.YtkhbemmcegmdaaaGreatDoorFrameC
set_option linter.all false
set_option linter.unusedVariables false
set_option maxRecDepth 100000
namespace Go.Proofs.YtkhbemmcegmdaaaGreatDoor.frame
open Go.ChangeShapes Go.WideShapes Go.ChangeAt Go.RowKit
open Go.ChangeMaps (open_string shut_string)

section
variable {H : Type} {enc : TypeId × Value → H} {W : World} {base : Nat} {v : Value} {d : DataW H} {ps : List MemPlace}
theorem open_act (hv : Value.okWide Tryz.prog W .any base 52 v) (h : DataW.Trod enc Tryz.prog W 0 (fun _ => true) true 52 v d ps) :
    ∃ a : CAct, v = .agg #[.int .u8 (a.kind : Int), .string ⟨a.name.toArray⟩, .int .i64 a.i, .string ⟨a.data.toArray⟩, .int .u8 (a.x.toNat : Int)] ∧ ActWf a := by
  obtain ⟨cs, rfl, hsz⟩ := okWide_struct Tryz.underlying52 hv
  obtain ⟨fuel, hf⟩ := h
  obtain ⟨ys, n', hn', hy, hlen, hyl, hff⟩ := DataW.trod_struct Tryz.underlying52 hf
  obtain ⟨l⟩ := cs
  have hl5 : l.length = 5 := hsz
  obtain ⟨v0, v1, v2, v3, v4, rfl⟩ : ∃ v0 v1 v2 v3 v4, l = [v0, v1, v2, v3, v4] := by
    match l, hl5 with
    | [a, b, c, d, e], _ => exact ⟨a, b, c, d, e, rfl⟩
  have h0 := hff 0 _ rfl
  have h1 := hff 1 _ rfl
  have h2 := hff 2 _ rfl
  have h3 := hff 3 _ rfl
  have h4 := hff 4 _ rfl
  have c8 : Tryz.prog.cellsOf 5 = 1 := by kernel_rfl
  have cS : Tryz.prog.cellsOf 9 = 1 := by kernel_rfl
  have cI : Tryz.prog.cellsOf 3 = 1 := by kernel_rfl
  change DataW.trod enc Tryz.prog W 0 (fun _ => true) true n' 5 (([v0, v1, v2, v3, v4].drop 0).take (Tryz.prog.cellsOf 5)) = _ at h0
  change DataW.trod enc Tryz.prog W 0 (fun _ => true) true n' 9 (([v0, v1, v2, v3, v4].drop 1).take (Tryz.prog.cellsOf 9)) = _ at h1
  change DataW.trod enc Tryz.prog W 0 (fun _ => true) true n' 3 (([v0, v1, v2, v3, v4].drop 2).take (Tryz.prog.cellsOf 3)) = _ at h2
  change DataW.trod enc Tryz.prog W 0 (fun _ => true) true n' 9 (([v0, v1, v2, v3, v4].drop 3).take (Tryz.prog.cellsOf 9)) = _ at h3
  change DataW.trod enc Tryz.prog W 0 (fun _ => true) true n' 5 (([v0, v1, v2, v3, v4].drop 4).take (Tryz.prog.cellsOf 5)) = _ at h4
  rw [c8] at h0 h4
  rw [cS] at h1 h3
  rw [cI] at h2
  have hy5 : ys.length = 5 := hyl
  have hys : ∀ j, j < 5 → ∃ y, ys[j]? = some y := fun j hj => ⟨ys[j]'(by omega), List.getElem?_eq_getElem (by omega)⟩
  obtain ⟨y0, e0⟩ := hys 0 (by omega)
  obtain ⟨y1, e1⟩ := hys 1 (by omega)
  obtain ⟨y2, e2⟩ := hys 2 (by omega)
  obtain ⟨y3, e3⟩ := hys 3 (by omega)
  obtain ⟨y4, e4⟩ := hys 4 (by omega)
  rw [e0] at h0
  rw [e1] at h1
  rw [e2] at h2
  rw [e3] at h3
  rw [e4] at h4
  obtain ⟨K, k0, _, wK⟩ := DataW.trod_int Tryz.underlying5 h0
  obtain ⟨N, k1, _, wN⟩ := DataW.trod_string Tryz.underlying9 h1
  obtain ⟨I, k2, _, wI⟩ := DataW.trod_int Tryz.underlying3 h2
  obtain ⟨T, k3, _, wT⟩ := DataW.trod_string Tryz.underlying9 h3
  obtain ⟨Z, k4, _, wZ⟩ := DataW.trod_int Tryz.underlying5 h4
  simp only [List.drop_zero, List.drop_succ_cons, List.take_succ_cons, List.take_zero, List.cons.injEq, and_true] at k0 k1 k2 k3 k4
  subst k0 k1 k2 k3 k4
  have b0 : 0 ≤ K ∧ K < 256 := by simp [Lit.wf, IntKind.min, IntKind.max, IntKind.signed, IntKind.bits] at wK; omega
  have b2 : -9223372036854775808 ≤ I ∧ I ≤ 9223372036854775807 := by simp [Lit.wf, IntKind.min, IntKind.max, IntKind.signed, IntKind.bits] at wI; omega
  have b4 : 0 ≤ Z ∧ Z < 256 := by simp [Lit.wf, IntKind.min, IntKind.max, IntKind.signed, IntKind.bits] at wZ; omega
  have hz : (UInt8.ofNat Z.toNat).toNat = Z.toNat := by simp; omega
  refine ⟨⟨K.toNat, N.data.toList, I, T.data.toList, UInt8.ofNat Z.toNat⟩, ?_, ⟨by simp only; omega, b2.1, b2.2, ?_, ?_⟩⟩
  · simp only [hz, Int.toNat_of_nonneg b0.1, Int.toNat_of_nonneg b4.1]
  · have : N.size ≤ maxLen := by assumption
    simp only
    have e : N.data.toList.length = N.size := by simp
    rw [e]; unfold maxLen at this; omega
  · have : T.size ≤ maxLen := by assumption
    simp only
    have e : T.data.toList.length = T.size := by simp
    rw [e]; unfold maxLen at this; omega
end
end Go.Proofs.YtkhbemmcegmdaaaGreatDoor.frame
