/- Parts of the proof of several laws: no conditions of their own. -/
import Derived.Test.YtkhbemmcegmdaaaGreatDoorWhPk18
import Derived.Test.YtkhbemmcegmdaaaGreatDoorWhPk16
import Derived.Deep.Fields
section
set_option linter.all false
set_option linter.unusedVariables false
set_option maxRecDepth 100000
namespace Go.Proofs.YtkhbemmcegmdaaaGreatDoor.frame
open Go.ChangeShapes Go.WideShapes Go.ChangeAt Go.RowKit
open Go.ChangeMaps (open_string shut_string)

section
open Go.Deep
variable {H : Type} {enc : TypeId × Value → H} {P : Program} {w : World} {base : Nat} {spare : Nat → Bool} {held : Bool}
/- an argument that is a slice of structs of one-cell fields (the guide's extra-structs, 1) -/
theorem open_slice_fields {t e : TypeId} {fs : Array Field} {fuel : Nat} {cs : List Value} {x : DataW H × List MemPlace} (ht : P.underlying t = some (.slice e)) (he : P.underlying e = some (.struct fs))
    (hone : oneCellFields P fs = true) (hC : P.cellsOf e = fs.size) (h : DataW.trod enc P w base spare held fuel t cs = some x) :
    (cs = [.slice none 0 0] ∧ x = (.nil, [])) ∨
    ∃ (a : Addr) (len cap m : Nat) (D : Nat → DataW H) (Pl : Nat → List MemPlace), cs = [.slice (some a) len cap] ∧ base ≤ a.block ∧ len ≤ cap ∧ cap ≤ maxLen ∧ m = (if spare a.block then cap else len) ∧
      x = (.slice ((List.range len).map D) ((List.range (m - len)).map fun j => D (len + j)), MemPlace.row a (m * fs.size) ++ (List.range m).flatMap Pl) ∧
      ∀ i, i < m → ∃ (ys : List (DataW H × List MemPlace)) (n : Nat), D i = .agg (ys.map (·.1)) ∧ Pl i = ys.flatMap (·.2) ∧ ys.length = fs.size ∧
        ∀ (j : Nat) (f : Field), fs[j]? = some f → ∃ (v : Value) (y : DataW H × List MemPlace), w.cell? (a.add (i * fs.size + j)) = some v ∧ ys[j]? = some y ∧ DataW.trod enc P w base spare held n f.type [v] = some y := by
  rcases open_slice ht h with h0 | ⟨a, len, cap, m, n, D, Pl, hcs, hb, hl, hm, hmm, hx, hi⟩
  · exact .inl h0
  · refine .inr ⟨a, len, cap, m, D, Pl, hcs, hb, hl, hm, hmm, by rw [hC] at hx; exact hx, fun i him => ?_⟩
    obtain ⟨cs', hc, ht'⟩ := hi i him
    rw [hC] at hc
    obtain ⟨ys, n', hn', hy, hlen, hyl, hf⟩ := DataW.trod_struct he ht'
    obtain ⟨_, hcl, hat⟩ := World.cells?_some hc
    simp only [Prod.mk.injEq] at hy
    refine ⟨ys, n', hy.1, hy.2, hyl, fun j f hj => ?_⟩
    obtain ⟨ho, hk⟩ := hone_of hone j f hj
    have hjl : j < fs.size := (Array.getElem?_eq_some_iff.1 hj).1
    have hcell := hat j hjl
    have hv : cs'[j]? = some (cs'[j]'(by omega)) := List.getElem?_eq_getElem (by omega)
    have h1 := hf j f hj
    rw [ho, hk] at h1
    have hone' : (cs'.drop j).take 1 = [cs'[j]'(by omega)] := by
      rw [List.drop_eq_getElem_cons (by omega)]
      rfl
    rw [hone'] at h1
    have hys : ys[j]? = some (ys[j]'(by omega)) := List.getElem?_eq_getElem (by omega)
    refine ⟨_, _, ?_, hys, h1.trans hys⟩
    rw [← Go.Deep.add_add, hcell, hv]
end
theorem each_act {Q : Nat → CAct → Prop} : ∀ (n : Nat), (∀ i, i < n → ∃ a, Q i a) → ∃ l : List CAct, l.length = n ∧ ∀ i a, l[i]? = some a → Q i a
  | 0, _ => ⟨[], rfl, fun i a h => by simp at h⟩
  | n + 1, h => by
    obtain ⟨l, hl, hq⟩ := each_act n (fun i hi => h i (by omega))
    obtain ⟨a, ha⟩ := h n (by omega)
    refine ⟨l ++ [a], by simp [hl], fun i b hb => ?_⟩
    by_cases hi : i < n
    · rw [List.getElem?_append_left (by omega)] at hb
      exact hq i b hb
    · rw [List.getElem?_append_right (by omega)] at hb
      have : i = n := by
        have := (List.getElem?_eq_some_iff.1 hb).1
        simp at this
        omega
      subst this
      rw [hl, Nat.sub_self] at hb
      simp at hb
      subst hb
      exact ha
section
variable {H : Type} {enc : TypeId × Value → H} {W : World} {base : Nat} {v : Value} {d : DataW H} {ps : List MemPlace}
theorem open_acts (hv : Value.okWide Tryz.prog W .any base 37 v) (h : DataW.Trod enc Tryz.prog W 0 (fun _ => true) true 37 v d ps) :
    ∃ A n c, ∃ l : List CAct, v = .slice A n c ∧ n ≤ c ∧ c ≤ maxLen ∧ ActsR W W.heap.size A n l := by
  obtain ⟨A, n, c, rfl⟩ := okWide_slice Tryz.underlying37 hv
  obtain ⟨fuel, hf⟩ := h
  rcases open_slice_fields Tryz.underlying37 Tryz.underlying52 (by kernel_rfl) (by kernel_rfl) hf with ⟨hcs, _⟩ | ⟨a, len, cap, m, D, Pl, hcs, hb, hl, hm, hmm, hx, hi⟩
  · simp [Value.cells] at hcs
    obtain ⟨rfl, rfl, rfl⟩ := hcs
    exact ⟨_, _, _, [], rfl, Nat.le_refl _, by unfold maxLen; omega, rfl, by simp, fun i a h => by simp at h⟩
  · simp [Value.cells] at hcs
    obtain ⟨rfl, rfl, rfl⟩ := hcs
    have hs0 : 0 < n → a.spot = none := fun h0 => by
      obtain ⟨ys, nf, _, _, hyl, hff⟩ := hi 0 (by rw [hmm]; simp; omega)
      obtain ⟨v0, y0, hc0, hy0, ht0⟩ := hff 0 _ rfl
      rw [show ∀ z : Nat, 0 * z + 0 = 0 from fun z => by simp] at hc0
      simpa [Addr.add] using World.cell?_spot hc0
    obtain ⟨l, hlen, hq⟩ := each_act (Q := fun i x => ActWf x ∧ ∃ b o, some a = some (⟨b, o, none⟩ : Addr) ∧ b < W.heap.size ∧ ∀ (j : Nat) (u : Value), (actc x)[j]? = some u → W.cell? ⟨b, o + i * 5 + j, none⟩ = some u) n (fun i hin => by
      obtain ⟨ys, nf, _, _, hyl, hff⟩ := hi i (by rw [hmm]; simp; omega)
      obtain ⟨v0, y0, hc0, hy0, ht0⟩ := hff 0 _ rfl
      obtain ⟨v1, y1, hc1, hy1, ht1⟩ := hff 1 _ rfl
      obtain ⟨v2, y2, hc2, hy2, ht2⟩ := hff 2 _ rfl
      obtain ⟨v3, y3, hc3, hy3, ht3⟩ := hff 3 _ rfl
      obtain ⟨v4, y4, hc4, hy4, ht4⟩ := hff 4 _ rfl
      obtain ⟨K, e0, _, wK⟩ := DataW.trod_int Tryz.underlying5 ht0
      obtain ⟨N, e1, _, wN⟩ := DataW.trod_string Tryz.underlying9 ht1
      obtain ⟨I, e2, _, wI⟩ := DataW.trod_int Tryz.underlying3 ht2
      obtain ⟨T, e3, _, wT⟩ := DataW.trod_string Tryz.underlying9 ht3
      obtain ⟨Z, e4, _, wZ⟩ := DataW.trod_int Tryz.underlying5 ht4
      simp only [List.cons.injEq, and_true] at e0 e1 e2 e3 e4
      subst e0 e1 e2 e3 e4
      have hs := hs0 (by omega)
      obtain ⟨b, o, sp⟩ := a
      simp only at hs
      subst hs
      have b0 : 0 ≤ K ∧ K < 256 := by simp [Lit.wf, IntKind.min, IntKind.max, IntKind.signed, IntKind.bits] at wK; omega
      have b2 : -9223372036854775808 ≤ I ∧ I ≤ 9223372036854775807 := by simp [Lit.wf, IntKind.min, IntKind.max, IntKind.signed, IntKind.bits] at wI; omega
      have b4 : 0 ≤ Z ∧ Z < 256 := by simp [Lit.wf, IntKind.min, IntKind.max, IntKind.signed, IntKind.bits] at wZ; omega
      rw [Addr.add_lit] at hc0 hc1 hc2 hc3 hc4
      refine ⟨⟨K.toNat, N.data.toList, I, T.data.toList, UInt8.ofNat Z.toNat⟩, ⟨by simp only; omega, b2.1, b2.2, ?_, ?_⟩, b, o, rfl, World.block_lt_of_cell? W _ hc0, fun j u hu => ?_⟩
      · have : N.size ≤ maxLen := by assumption
        simp only
        have e : N.data.toList.length = N.size := by simp
        rw [e]; unfold maxLen at this; omega
      · have : T.size ≤ maxLen := by assumption
        simp only
        have e : T.data.toList.length = T.size := by simp
        rw [e]; unfold maxLen at this; omega
      · have hj : j = 0 ∨ j = 1 ∨ j = 2 ∨ j = 3 ∨ j = 4 := by
          have := (Array.getElem?_eq_some_iff.1 hu).1
          simp [actc] at this
          omega
        have hz : (UInt8.ofNat Z.toNat).toNat = Z.toNat := by simp; omega
        rcases hj with rfl | rfl | rfl | rfl | rfl <;> simp [actc, hz] at hu <;> subst hu
        · rw [show max K 0 = K by omega]; simpa [Nat.add_assoc] using hc0
        · simpa [Nat.add_assoc] using hc1
        · simpa [Nat.add_assoc] using hc2
        · simpa [Nat.add_assoc] using hc3
        · rw [show max Z 0 = Z by omega]; simpa [Nat.add_assoc] using hc4)
    exact ⟨_, _, _, l, rfl, hl, hm, hlen, fun x hx => by
      obtain ⟨i, hil, rfl⟩ := List.mem_iff_getElem.1 hx
      exact (hq i _ (List.getElem?_eq_getElem hil)).1, fun i x hx => (hq i x hx).2⟩
end
end Go.Proofs.YtkhbemmcegmdaaaGreatDoor.frame
end
