/- PLAIN LAW of the ranks' shares: what all hand on is what those have from which an edge leads, but for less than one an edge. No program in sight. -/
import Derived.Test.YtjdbjahgimlhbaaGrTwice
set_option linter.unusedVariables false
namespace Go.Proofs.Ytjdbjahgimlhbaa.Gr
open Go.RowKit

def sumTo (f : Nat → Nat) : Nat → Nat
  | 0 => 0
  | k + 1 => sumTo f k + f k
theorem sumTo_add (f g : Nat → Nat) : ∀ k, sumTo (fun i => f i + g i) k = sumTo f k + sumTo g k
  | 0 => rfl
  | k + 1 => by simp only [sumTo, sumTo_add f g k]; omega
theorem sumTo_one (n u c : Nat) : ∀ k, sumTo (fun i => if u = i then c else 0) k = if u < k then c else 0
  | 0 => by simp [sumTo]
  | k + 1 => by
    simp only [sumTo, sumTo_one n u c k]
    by_cases h1 : u < k
    · rw [if_pos h1, if_neg (by omega), if_pos (by omega)]; omega
    · by_cases h2 : u = k
      · rw [if_neg h1, if_pos h2, if_pos (by omega)]; omega
      · rw [if_neg h1, if_neg h2, if_neg (by omega)]
theorem sumTo_congr {f g : Nat → Nat} {k : Nat} (h : ∀ i, i < k → f i = g i) : sumTo f k = sumTo g k := by
  induction k with
  | zero => rfl
  | succ k ih => simp only [sumTo]; rw [ih (fun i hi => h i (by omega)), h k (by omega)]
theorem sumTo_zero : ∀ k, sumTo (fun _ => 0) k = 0
  | 0 => rfl
  | k + 1 => by simp [sumTo, sumTo_zero k]
theorem sumTo_le {f g : Nat → Nat} {k : Nat} (h : ∀ i, i < k → f i ≤ g i) : sumTo f k ≤ sumTo g k := by
  induction k with
  | zero => exact Nat.le_refl _
  | succ k ih =>
    simp only [sumTo]
    have h1 := ih (fun i hi => h i (by omega))
    have h2 := h k (by omega)
    omega
/-- over the edges, or over where they begin -/
theorem by_from (g : Nat → Nat) (n : Nat) : ∀ l : List E, (∀ e ∈ l, e.1 < n) → (l.map fun e => g e.1).sum = sumTo (fun u => (l.filter fun e => e.1 == u).length * g u) n
  | [], _ => by simp [sumTo_zero]
  | e :: l, h => by
    rw [List.map_cons, List.sum_cons, by_from g n l (fun x hx => h x (List.mem_cons_of_mem _ hx))]
    have h1 : sumTo (fun u => ((e :: l).filter fun e => e.1 == u).length * g u) n = sumTo (fun u => (if e.1 = u then g e.1 else 0) + (l.filter fun e => e.1 == u).length * g u) n := sumTo_congr (fun u _ => by
      rw [List.filter_cons]
      by_cases hu : e.1 = u
      · subst hu
        simp [Nat.add_mul, Nat.add_comm]
      · simp [hu])
    rw [h1, sumTo_add, sumTo_one n, if_pos (h e (by simp))]
/-- what all get, together -/
theorem all_get (xs : List Nat) (n : Nat) : ∀ L : List T, (∀ e ∈ L, e.2.1.toNat < n) → sumTo (adds xs L) n = (L.map fun e => xs.getD e.1.toNat 0 / e.2.2).sum
  | [], _ => by
    have : (adds xs ([] : List T)) = fun _ => 0 := rfl
    rw [this, sumTo_zero]; rfl
  | e :: L, h => by
    have h1 : adds xs (e :: L) = fun v => part xs e v + adds xs L v := by funext v; simp [adds]
    rw [h1, sumTo_add, all_get xs n L (fun x hx => h x (List.mem_cons_of_mem _ hx)), List.map_cons, List.sum_cons]
    congr 1
    have : part xs e = fun v => if e.2.1.toNat = v then xs.getD e.1.toNat 0 / e.2.2 else 0 := rfl
    rw [this, sumTo_one n, if_pos (h e (by simp))]
theorem ones : ∀ l : List E, (l.map fun _ : E => 1).sum = l.length
  | [] => rfl
  | e :: l => by rw [List.map_cons, List.sum_cons, ones l, List.length_cons]; omega
def haveK (xs : List Nat) (l : List E) (k : Nat) : Nat := sumTo (fun u => if deg l u = 0 then 0 else xs.getD u 0) k
theorem share (xs : List Nat) (l : List E) (n : Nat) (h : ∀ e ∈ l, e.1 < n ∧ e.2 < n ∧ e.1 ≠ e.2) : sumTo (adds xs (flat l)) n ≤ haveK xs l n ∧ haveK xs l n ≤ sumTo (adds xs (flat l)) n + l.length := by
  have h1 : sumTo (adds xs (flat l)) n = sumTo (fun u => deg l u * (xs.getD u 0 / deg l u)) n := by
    rw [all_get xs n (flat l) (fun e he => by
      obtain ⟨x, hx, rfl⟩ := List.mem_map.1 he
      simpa [trip] using (h x hx).2.1)]
    have h2 : (flat l).map (fun e => xs.getD e.1.toNat 0 / e.2.2) = l.map (fun e => (fun u => xs.getD u 0 / deg l u) e.1) := by
      unfold flat
      rw [List.map_map]
      apply List.map_congr_left
      intro e _
      simp [trip]
    rw [h2, by_from (fun u => xs.getD u 0 / deg l u) n l (fun e he => (h e he).1)]
    apply sumTo_congr
    intro u _
    simp [deg, outs]
  have h3 : l.length = sumTo (deg l) n := by
    have h5 : (l.map fun _ : E => 1).sum = sumTo (fun u => (l.filter fun e => e.1 == u).length * 1) n := by_from (fun _ => 1) n l (fun e he => (h e he).1)
    have h4 : (l.map fun _ : E => 1).sum = l.length := ones l
    rw [h4] at h5
    rw [h5]
    apply sumTo_congr
    intro u _
    simp [deg, outs]
  rw [h1, h3]
  unfold haveK
  constructor
  · apply sumTo_le
    intro u _
    by_cases hd : deg l u = 0
    · simp [hd]
    · rw [if_neg hd]; exact Nat.mul_div_le _ _
  · rw [← sumTo_add]
    apply sumTo_le
    intro u _
    by_cases hd : deg l u = 0
    · simp [hd]
    · rw [if_neg hd]
      have h5 := Nat.div_add_mod (xs.getD u 0) (deg l u)
      have h6 := Nat.mod_lt (xs.getD u 0) (show 0 < deg l u by omega)
      omega
end Go.Proofs.Ytjdbjahgimlhbaa.Gr
