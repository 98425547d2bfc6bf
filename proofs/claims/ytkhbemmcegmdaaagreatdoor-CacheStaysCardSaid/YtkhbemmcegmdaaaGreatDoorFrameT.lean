/- THE ROW's STEP, ITS SHARED PARTS: two lists of acts, as an array, opened. -/
import Derived.Test.YtkhbemmcegmdaaaGreatDoorFrameC
set_option linter.all false
set_option linter.unusedVariables false
set_option maxRecDepth 100000
namespace Go.Proofs.YtkhbemmcegmdaaaGreatDoor.frame
open Go.ChangeShapes Go.WideShapes Go.ChangeAt Go.RowKit
open Go.ChangeMaps (open_string shut_string)

section
variable {H : Type} {enc : TypeId × Value → H} {W : World} {base : Nat} {v : Value} {d : DataW H} {ps : List MemPlace}
theorem trod_acts {fuel : Nat} {x : DataW H × List MemPlace} (hf : DataW.trod enc Tryz.prog W 0 (fun _ => true) true fuel 37 [v] = some x) :
    ∃ A n c, ∃ l : List CAct, v = .slice A n c ∧ n ≤ c ∧ c ≤ maxLen ∧ ActsR W W.heap.size A n l := by
  rcases open_slice_fields Tryz.underlying37 Tryz.underlying52 (by kernel_rfl) (by kernel_rfl) hf with ⟨hcs, _⟩ | ⟨a, n, c, m, D, Pl, hcs, hb, hl, hm, hmm, hx, hi⟩
  · injection hcs with hcs _
    exact ⟨_, _, _, [], hcs, Nat.le_refl _, by unfold maxLen; omega, rfl, by simp, fun i a h => by simp at h⟩
  · injection hcs with hcs _
    subst hcs
    have hs0 : 0 < n → a.spot = none := fun h0 => by
      obtain ⟨ys, nf, _, _, hyl, hff⟩ := hi 0 (by rw [hmm]; simp; omega)
      obtain ⟨v0, y0, hc0, hy0, ht0⟩ := hff 0 _ rfl
      rw [show ∀ z : Nat, 0 * z + 0 = 0 from fun z => by simp] at hc0
      simpa [Addr.add] using World.cell?_spot hc0
    obtain ⟨l, hlen, hq⟩ := each_act (Q := fun i x => ActWf x ∧ ∃ b o, some a = some (⟨b, o, none⟩ : Addr) ∧ b < W.heap.size ∧ ∀ (j : Nat) (u : Value), (actc x)[j]? = some u → W.cell? ⟨b, o + i * 5 + j, none⟩ = some u) n (fun i hin => by
      obtain ⟨ys, nf, _, _, hyl, hff⟩ := hi i (by rw [hmm]; simp; omega)
      obtain ⟨v0, y0, hc0, hy0, ht0⟩ := hff 0 _ rfl
      obtain ⟨v1, y1, hc1, hy1, ht1⟩ := hff 1 _ rfl
      obtain ⟨v2, y2, hc2, hy2, ht2⟩ := hff 2 _ rfl
      obtain ⟨v3, y3, hc3, hy3, ht3⟩ := hff 3 _ rfl
      obtain ⟨v4, y4, hc4, hy4, ht4⟩ := hff 4 _ rfl
      obtain ⟨K, e0, _, wK⟩ := DataW.trod_int Tryz.underlying5 ht0
      obtain ⟨N, e1, _, wN⟩ := DataW.trod_string Tryz.underlying9 ht1
      obtain ⟨I, e2, _, wI⟩ := DataW.trod_int Tryz.underlying3 ht2
      obtain ⟨T, e3, _, wT⟩ := DataW.trod_string Tryz.underlying9 ht3
      obtain ⟨Z, e4, _, wZ⟩ := DataW.trod_int Tryz.underlying5 ht4
      simp only [List.cons.injEq, and_true] at e0 e1 e2 e3 e4
      subst e0 e1 e2 e3 e4
      have hs := hs0 (by omega)
      obtain ⟨b, o, sp⟩ := a
      simp only at hs
      subst hs
      have b0 : 0 ≤ K ∧ K < 256 := by simp [Lit.wf, IntKind.min, IntKind.max, IntKind.signed, IntKind.bits] at wK; omega
      have b2 : -9223372036854775808 ≤ I ∧ I ≤ 9223372036854775807 := by simp [Lit.wf, IntKind.min, IntKind.max, IntKind.signed, IntKind.bits] at wI; omega
      have b4 : 0 ≤ Z ∧ Z < 256 := by simp [Lit.wf, IntKind.min, IntKind.max, IntKind.signed, IntKind.bits] at wZ; omega
      rw [Addr.add_lit] at hc0 hc1 hc2 hc3 hc4
      refine ⟨⟨K.toNat, N.data.toList, I, T.data.toList, UInt8.ofNat Z.toNat⟩, ⟨by simp only; omega, b2.1, b2.2, ?_, ?_⟩, b, o, rfl, World.block_lt_of_cell? W _ hc0, fun j u hu => ?_⟩
      · have : N.size ≤ maxLen := by assumption
        simp only
        have e : N.data.toList.length = N.size := by simp
        rw [e]; unfold maxLen at this; omega
      · have : T.size ≤ maxLen := by assumption
        simp only
        have e : T.data.toList.length = T.size := by simp
        rw [e]; unfold maxLen at this; omega
      · have hj : j = 0 ∨ j = 1 ∨ j = 2 ∨ j = 3 ∨ j = 4 := by
          have := (Array.getElem?_eq_some_iff.1 hu).1
          simp [actc] at this
          omega
        have hz : (UInt8.ofNat Z.toNat).toNat = Z.toNat := by simp; omega
        rcases hj with rfl | rfl | rfl | rfl | rfl <;> simp [actc, hz] at hu <;> subst hu
        · rw [show max K 0 = K by omega]; simpa [Nat.add_assoc] using hc0
        · simpa [Nat.add_assoc] using hc1
        · simpa [Nat.add_assoc] using hc2
        · simpa [Nat.add_assoc] using hc3
        · rw [show max Z 0 = Z by omega]; simpa [Nat.add_assoc] using hc4)
    exact ⟨_, _, _, l, rfl, hl, hm, hlen, fun x hx => by
      obtain ⟨i, hil, rfl⟩ := List.mem_iff_getElem.1 hx
      exact (hq i _ (List.getElem?_eq_getElem hil)).1, fun i x hx => (hq i x hx).2⟩
theorem okWide_array {P : Program} {n : Nat} {t e : TypeId} (ht : P.underlying t = some (.array n e)) (h : Value.okWide P W .any base t v) : ∃ cs, v = .agg cs ∧ cs.size = P.cellsOf t := by
  simp only [Value.okWide, ht] at h
  obtain ⟨cs, h1, h2, _⟩ := h
  exact ⟨cs, h1, h2⟩
theorem open_acts2 (hv : Value.okWide Tryz.prog W .any base 69 v) (h : DataW.Trod enc Tryz.prog W 0 (fun _ => true) true 69 v d ps) :
    ∃ A0 n0 c0 A1 n1 c1, ∃ l0 l1 : List CAct, v = .agg #[.slice A0 n0 c0, .slice A1 n1 c1] ∧ n0 ≤ c0 ∧ c0 ≤ maxLen ∧ n1 ≤ c1 ∧ c1 ≤ maxLen ∧ ActsR W W.heap.size A0 n0 l0 ∧ ActsR W W.heap.size A1 n1 l1 := by
  obtain ⟨cs, rfl, hsz⟩ := okWide_array Tryz.underlying69 hv
  obtain ⟨fuel, hf⟩ := h
  obtain ⟨xs, m, _, _, hl, hxl, hi⟩ := DataW.trod_array Tryz.underlying69 hf
  obtain ⟨l⟩ := cs
  have hl2 : l.length = 2 := hsz
  obtain ⟨v0, v1, rfl⟩ : ∃ v0 v1, l = [v0, v1] := by
    match l, hl2 with
    | [a, b], _ => exact ⟨a, b, rfl⟩
  have hcell : Tryz.prog.cellsOf 37 = 1 := by kernel_rfl
  have h0 := hi 0 (by omega)
  have h1 := hi 1 (by omega)
  rw [hcell] at h0 h1
  have g0 : DataW.trod enc Tryz.prog W 0 (fun _ => true) true m 37 [v0] = xs[0]? := h0
  have g1 : DataW.trod enc Tryz.prog W 0 (fun _ => true) true m 37 [v1] = xs[1]? := h1
  rw [List.getElem?_eq_getElem (by omega)] at g0 g1
  obtain ⟨A0, n0, c0, l0, rfl, a1, a2, a3⟩ := trod_acts g0
  obtain ⟨A1, n1, c1, l1, rfl, b1, b2, b3⟩ := trod_acts g1
  exact ⟨A0, n0, c0, A1, n1, c1, l0, l1, rfl, a1, a2, b1, b2, a3, b3⟩
end
end Go.Proofs.YtkhbemmcegmdaaaGreatDoor.frame
