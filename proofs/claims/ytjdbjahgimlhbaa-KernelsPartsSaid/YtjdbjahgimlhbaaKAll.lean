/- PLAIN LAW: however many shards a graph is cut into, in whatever order, a job comes to the same. No program in sight, but the kinds' steps. -/
import Derived.Test.YtjdbjahgimlhbaaKPlain
set_option linter.unusedVariables false
namespace Go.Proofs.Ytjdbjahgimlhbaa
open Go.RowKit
open Gr (E T)

theorem kd_comm (k arg : Nat) : ∀ r X t x y, (kdOf k arg).step r X ((kdOf k arg).step r X t x) y = (kdOf k arg).step r X ((kdOf k arg).step r X t y) x := by
  have g4 : ∀ k, k ≠ 1 → k ≠ 2 → k ≠ 3 → kdOf k arg = kdOf 4 arg := fun k h1 h2 h3 => by unfold kdOf; split <;> first | rfl | contradiction
  intro r X t x y
  by_cases h1 : k = 1
  · subst h1; exact Gr.bfs_comm _ _ _ _ _
  by_cases h2 : k = 2
  · subst h2; exact Gr.rank_comm _ _ _ _
  by_cases h3 : k = 3
  · subst h3; exact Gr.labels_comm _ _ _ _
  rw [g4 k h1 h2 h3]
  exact Gr.cores_comm _ _ _ _
theorem kacc_order (k arg : Nat) (l : List E) (n s : Nat) (hs : 0 < s) (h : ∀ e ∈ l, e.1 < n) (o : List Nat) (ho : o.Perm (List.range s)) (r : Nat) (X Y : List Nat) :
    kacc (kdOf k arg) r X Y (o.map (Gr.shardT l n s)) = kacc (kdOf k arg) r X Y [Gr.flat l] := by
  have := accL_all ((kdOf k arg).step r X) (fun t x y => kd_comm k arg r X t x y) l n s hs h Y o ho
  unfold kacc
  rw [List.foldl_map]
  exact this
theorem kst_same {K : Kd} {n : Nat} {Ls Ls' : List (List T)} (h : ∀ r X Y, kacc K r X Y Ls = kacc K r X Y Ls') : ∀ r, kst K n Ls r = kst K n Ls' r
  | 0 => rfl
  | r + 1 => by simp only [kst, kst_same h r, h]
theorem kdn_same {K : Kd} {n : Nat} {Ls Ls' : List (List T)} (h : ∀ r X Y, kacc K r X Y Ls = kacc K r X Y Ls') (r : Nat) : kdn K n Ls r = kdn K n Ls' r := by
  unfold kdn
  rw [kst_same h r, h]
/-- what a job of a graph comes to, and in how many rounds -/
def kruns (k arg n : Nat) (l : List E) : Nat := stopAt (kdn (kdOf k arg) n [Gr.flat l]) (bnd k arg n)
def kout (k arg n : Nat) (l : List E) : List Nat := (kst (kdOf k arg) n [Gr.flat l] (kruns k arg n l)).1
theorem krun_order (k arg : Nat) (l : List E) (n s : Nat) (hs : 0 < s) (h : ∀ e ∈ l, e.1 < n) (o : List Nat) (ho : o.Perm (List.range s)) :
    stopAt (kdn (kdOf k arg) n (o.map (Gr.shardT l n s))) (bnd k arg n) = kruns k arg n l ∧ (kst (kdOf k arg) n (o.map (Gr.shardT l n s)) (kruns k arg n l)).1 = kout k arg n l := by
  have hk := kacc_order k arg l n s hs h o ho
  exact ⟨stop_congr (kdn_same hk), by unfold kout; rw [kst_same hk]⟩
theorem kout_len (k arg n : Nat) (l : List E) : (kout k arg n l).length = n := (kst_len (kd_good k arg) n [Gr.flat l] _).1
end Go.Proofs.Ytjdbjahgimlhbaa
