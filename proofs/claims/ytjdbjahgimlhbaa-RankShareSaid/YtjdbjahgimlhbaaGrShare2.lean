/- PLAIN LAW of the ranks' shares, place by place; what a round's end makes of the sum. No program in sight. -/
import Derived.Test.YtjdbjahgimlhbaaGrShare
import Derived.Test.YtjdbjahgimlhbaaRankC
set_option linter.unusedVariables false
namespace Go.Proofs.Ytjdbjahgimlhbaa.Gr
open Go.RowKit

theorem deg_pos {l : List E} {e : E} (h : e ∈ l) : deg l e.1 ≠ 0 := by
  unfold deg outs
  rw [List.length_map]
  intro h0
  have : e ∈ l.filter fun x => x.1 == e.1 := List.mem_filter.2 ⟨h, by simp⟩
  rw [List.eq_nil_of_length_eq_zero h0] at this
  cases this
theorem deg_none {l : List E} {v : Nat} (h : ∀ e ∈ l, e.1 ≠ v) : deg l v = 0 := by
  unfold deg outs
  rw [List.length_map, List.length_eq_zero_iff, List.filter_eq_nil_iff]
  intro e he
  simpa using h e he
theorem have_yes {xs : List Nat} {l : List E} {e : E} (h : e ∈ l) : haveK xs l (e.1 + 1) = haveK xs l e.1 + xs.getD e.1 0 := by
  unfold haveK
  simp only [sumTo]
  rw [if_neg (deg_pos h)]
theorem have_no {xs : List Nat} {l : List E} {v : Nat} (h : ∀ e ∈ l, e.1 ≠ v) : haveK xs l (v + 1) = haveK xs l v := by
  unfold haveK
  simp only [sumTo]
  rw [if_pos (deg_none h)]
  rfl
theorem have_le (xs : List Nat) (l : List E) : ∀ k, haveK xs l k ≤ sumTo (fun u => xs.getD u 0) k := fun k => sumTo_le (fun u _ => by split <;> omega)
theorem sumTo_mono (f : Nat → Nat) {j k : Nat} (h : j ≤ k) : sumTo f j ≤ sumTo f k := by
  induction k with
  | zero => rw [show j = 0 by omega]; exact Nat.le_refl _
  | succ k ih =>
    rcases Nat.lt_or_ge j (k + 1) with h1 | h1
    · have := ih (by omega); simp only [sumTo]; omega
    · rw [show j = k + 1 by omega]; exact Nat.le_refl _
theorem sumTo_at (f : Nat → Nat) {j k : Nat} (h : j < k) : f j ≤ sumTo f k := by
  have := sumTo_mono f (show j + 1 ≤ k by omega)
  simp only [sumTo] at this
  omega
theorem cF_le {y : Nat} (h : y ≤ 4398046511104) : rank.cF y ≤ 644245094 + y := by
  unfold rank.cF
  rw [Nat.mod_eq_of_lt (show y * 850 < 18446744073709551616 by omega)]
  have h1 : y * 850 / 1000 ≤ y := by omega
  rw [Nat.mod_eq_of_lt (by omega)]
  omega
theorem cF_sum (ac : List Nat) (n : Nat) (h : sumTo (fun u => ac.getD u 0) n ≤ 4398046511104) : sumTo (fun u => ((List.range n).map fun i => rank.cF (ac.getD i 0)).getD u 0) n ≤ n * 644245094 + sumTo (fun u => ac.getD u 0) n := by
  have h1 : sumTo (fun u => ((List.range n).map fun i => rank.cF (ac.getD i 0)).getD u 0) n ≤ sumTo (fun u => 644245094 + ac.getD u 0) n := sumTo_le (fun u hu => by
    have h2 := sumTo_at (fun u => ac.getD u 0) hu
    have h3 := cF_le (y := ac.getD u 0) (Nat.le_trans h2 h)
    rw [List.getD_eq_getElem?_getD, List.getElem?_map, List.getElem?_range hu]
    exact h3)
  have h4 : sumTo (fun u => 644245094 + ac.getD u 0) n = sumTo (fun _ => 644245094) n + sumTo (fun u => ac.getD u 0) n := sumTo_add _ _ n
  have h5 : ∀ k, sumTo (fun _ => 644245094) k = k * 644245094 := fun k => by
    induction k with
    | zero => simp [sumTo]
    | succ k ih => simp only [sumTo, ih]; omega
  rw [h4, h5] at h1
  exact h1
theorem bX_sum {n : Nat} (h : n ≤ 60) : sumTo (fun u => (rank.bX n).getD u 0) n ≤ (0 + 1) * 257698037760 := by
  have h5 : ∀ (c k : Nat), sumTo (fun _ => c) k = k * c := fun c k => by
    induction k with
    | zero => simp [sumTo]
    | succ k ih => simp only [sumTo, ih, Nat.add_mul, Nat.one_mul]
  have h1 : sumTo (fun u => (rank.bX n).getD u 0) n ≤ sumTo (fun _ => 4294967296) n := sumTo_le (fun u hu => by
    unfold rank.bX
    rw [List.getD_eq_getElem?_getD, List.getElem?_map, List.getElem?_range hu]
    exact Nat.le_refl _)
  refine Nat.le_trans h1 (Nat.le_trans (Nat.le_of_eq (h5 4294967296 n)) ?_)
  omega
/-- a round's sum -/
theorem share_acc (xs : List Nat) (l : List E) (n : Nat) (h : ∀ e ∈ l, e.1 < n ∧ e.2 < n ∧ e.1 ≠ e.2) (hb : sumTo (fun u => xs.getD u 0) n ≤ 4398046511104) :
    sumTo (fun u => ((flat l).foldl (rank.step xs) (rank.bY n)).getD u 0) n ≤ haveK xs l n ∧ haveK xs l n ≤ sumTo (fun u => ((flat l).foldl (rank.step xs) (rank.bY n)).getD u 0) n + l.length := by
  have h1 := share xs l n h
  have h2 := have_le xs l n
  have h3 : sumTo (fun u => ((flat l).foldl (rank.step xs) (rank.bY n)).getD u 0) n = sumTo (adds xs (flat l)) n := sumTo_congr (fun u hu => by
    have h4 : (rank.bY n).getD u 0 = 0 := by
      unfold rank.bY
      rw [List.getD_eq_getElem?_getD, List.getElem?_map, List.getElem?_range hu]
      rfl
    rw [rank_fold xs (flat l) (rank.bY n) (by simpa [rank.bY] using hu) (by omega), h4, Nat.zero_add]
    have h5 := sumTo_at (adds xs (flat l)) hu
    exact Nat.mod_eq_of_lt (by omega))
  rw [h3]
  exact h1
end Go.Proofs.Ytjdbjahgimlhbaa.Gr
