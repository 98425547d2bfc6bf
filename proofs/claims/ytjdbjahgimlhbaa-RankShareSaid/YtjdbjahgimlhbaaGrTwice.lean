/- PLAIN LAW of the ranks' sums. No program in sight. -/
import Derived.Test.YtjdbjahgimlhbaaFour
set_option linter.unusedVariables false
namespace Go.Proofs.Ytjdbjahgimlhbaa.Gr
open Go.RowKit

def part (xs : List Nat) (e : T) (v : Nat) : Nat := if e.2.1.toNat = v then xs.getD e.1.toNat 0 / e.2.2 else 0
def adds (xs : List Nat) (L : List T) (v : Nat) : Nat := (L.map (fun e => part xs e v)).sum
theorem rank_get (xs s : List Nat) (e : T) {v : Nat} (hv : v < s.length) (hs : s.getD v 0 < 18446744073709551616) : (rank.step xs s e).getD v 0 = (s.getD v 0 + part xs e v) % 18446744073709551616 := by
  rw [rank_step, upd_get]
  unfold part plus
  by_cases h : e.2.1.toNat = v
  · simp [h, hv]
  · rw [if_neg (fun hh => h hh.1), if_neg h, Nat.add_zero, Nat.mod_eq_of_lt hs]
theorem rank_fold (xs : List Nat) {v : Nat} : ∀ (L : List T) (s : List Nat), v < s.length → s.getD v 0 < 18446744073709551616 → (L.foldl (rank.step xs) s).getD v 0 = (s.getD v 0 + adds xs L v) % 18446744073709551616
  | [], s, _, hs => by simp only [adds, List.map_nil, List.sum_nil, Nat.add_zero, List.foldl_nil]; exact (Nat.mod_eq_of_lt hs).symm
  | e :: L, s, hv, hs => by
    rw [List.foldl_cons, rank_fold xs L _ (by rw [rank.step_len]; exact hv) (by rw [rank_get xs s e hv hs]; exact Nat.mod_lt _ (by omega)), rank_get xs s e hv hs]
    unfold adds
    rw [List.map_cons, List.sum_cons]
    omega
/-- taken in twice it adds twice as much -/
theorem rank_twice (xs ys zs : List Nat) (L : List T) {v : Nat} (hy : v < ys.length) (hz : v < zs.length) (hy2 : ys.getD v 0 < 18446744073709551616) (hz0 : zs.getD v 0 = 0) :
    (L.foldl (rank.step xs) (L.foldl (rank.step xs) ys)).getD v 0 = (ys.getD v 0 + (L.foldl (rank.step xs) zs).getD v 0 + (L.foldl (rank.step xs) zs).getD v 0) % 18446744073709551616 := by
  rw [rank_fold xs L _ (by rw [foldl_len (rank.step_len xs)]; exact hy) (by rw [rank_fold xs L ys hy hy2]; exact Nat.mod_lt _ (by omega)), rank_fold xs L ys hy hy2, rank_fold xs L zs hz (by rw [hz0]; omega), hz0]
  omega
def orv (l : List Nat) (d : Nat → Nat) (v : Nat) : Nat := if v < l.length then l.getD v 0 else d v
theorem orv_lt {l : List Nat} (h : ∀ x ∈ l, x < 18446744073709551616) {d : Nat → Nat} (hd : ∀ v, v < 256 → d v < 18446744073709551616) {v : Nat} (hv : v < 256) : orv l d v < 18446744073709551616 := by
  unfold orv
  split
  · next h1 =>
    rw [List.getD_eq_getElem?_getD, List.getElem?_eq_getElem h1]
    exact h _ (List.getElem_mem h1)
  · exact hd v hv
end Go.Proofs.Ytjdbjahgimlhbaa.Gr
