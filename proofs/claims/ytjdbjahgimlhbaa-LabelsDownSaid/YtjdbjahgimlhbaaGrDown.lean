/- PLAIN LAW of labels: they never rise, and stay among those that there were. No program in sight. -/
import Derived.Test.YtjdbjahgimlhbaaGrTwice
set_option linter.unusedVariables false
namespace Go.Proofs.Ytjdbjahgimlhbaa.Gr
open Go.RowKit

def Among (n : Nat) (xs s : List Nat) : Prop := ∀ v, v < n → s.getD v 0 ≤ xs.getD v 0 ∧ ∃ u, u < n ∧ xs.getD u 0 = s.getD v 0
theorem among_refl (n : Nat) (xs : List Nat) : Among n xs xs := fun v hv => ⟨Nat.le_refl _, v, hv, rfl⟩
theorem among_upd {n : Nat} {xs s : List Nat} (h : Among n xs s) (hl : s.length = n) (v : Nat) {u : Nat} (hu : u < n) : Among n xs (upd s v (least (xs.getD u 0))) := by
  intro i hi
  rw [upd_get]
  split
  · next hc =>
    obtain ⟨h1, w, hw, h2⟩ := h i hi
    unfold least
    refine ⟨by omega, ?_⟩
    by_cases hle : s.getD i 0 ≤ xs.getD u 0
    · exact ⟨w, hw, by rw [Nat.min_eq_left hle]; exact h2⟩
    · exact ⟨u, hu, by rw [Nat.min_eq_right (by omega)]⟩
  · exact h i hi
theorem among_fold {n : Nat} {xs : List Nat} : ∀ (L : List T) (s : List Nat), s.length = n → (∀ e ∈ L, e.1.toNat < n ∧ e.2.1.toNat < n) → Among n xs s → Among n xs (L.foldl (labels.step xs) s)
  | [], s, _, _, h => h
  | e :: L, s, hl, he, h => by
    obtain ⟨h1, h2⟩ := he e (by simp)
    rw [List.foldl_cons]
    refine among_fold L _ (by rw [labels.step_len]; exact hl) (fun x hx => he x (List.mem_cons_of_mem _ hx)) ?_
    rw [labels_step]
    exact among_upd (among_upd h hl _ h1) (by rw [upd_len]; exact hl) _ h2
theorem flat_in {n : Nat} {l : List E} (h : ∀ e ∈ l, e.1 < n ∧ e.2 < n ∧ e.1 ≠ e.2) : ∀ e ∈ flat l, e.1.toNat < n ∧ e.2.1.toNat < n := by
  intro e he
  obtain ⟨x, hx, rfl⟩ := List.mem_map.1 he
  have := h x hx
  simp only [trip, Int.toNat_natCast]
  exact ⟨this.1, this.2.1⟩
theorem down_next {n : Nat} {xs ac : List Nat} (hx : xs.length = n) (ha : ac.length = n) (h : ∀ v, v < n → ac.getD v 0 ≤ xs.getD v 0) : labels.cXs 0 xs ac = ac ∧ labels.cYs 0 xs ac = ac ∧ labels.cDone 0 xs ac = decide (ac = xs) := by
  refine ⟨?_, ?_, ?_⟩
  · unfold labels.cXs
    rw [hx, ← ha]
    exact pre_same (fun i hi => by have := h i (by omega); unfold labels.cX; omega)
  · unfold labels.cYs
    rw [hx, ← ha]
    exact pre_same (fun i hi => rfl)
  · rw [Bool.eq_iff_iff, decide_eq_true_iff]
    unfold labels.cDone labels.cAll labels.cD
    rw [List.all_eq_true, hx]
    constructor
    · intro hall
      apply row_ext (by omega)
      intro i hi
      have h1 := hall i (List.mem_range.2 (by omega))
      have h2 := h i (by omega)
      simp only [Bool.not_eq_true', decide_eq_false_iff_not] at h1
      omega
    · rintro rfl i hi
      simp
end Go.Proofs.Ytjdbjahgimlhbaa.Gr
