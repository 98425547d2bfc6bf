/- PLAIN LAW of shards taken in in any order, some more than once. No program in sight. -/
import Derived.Test.YtjdbjahgimlhbaaFour
import Derived.Test.YtjdbjahgimlhbaaGrOrd
set_option linter.unusedVariables false
namespace Go.Proofs.Ytjdbjahgimlhbaa.Gr
open Go.RowKit

theorem often (r : Int) (xs : List Nat) (l : List E) (n s : Nat) (ys o more : List Nat) (ho : o.Perm (List.range s)) (hm : ∀ k ∈ more, k < s) :
    accL (bfs.step r xs) l n s ys (o ++ more) = accL (bfs.step r xs) l n s ys (List.range s) := by
  rw [accL_flat, accL_flat]
  refine foldl_same _ (fun t x y => bfs_comm r xs t x y) (fun t x => bfs_same r xs t x) _ _ ys (fun e => ?_)
  rw [List.mem_flatMap, List.mem_flatMap]
  constructor
  · rintro ⟨k, hk, he⟩
    rcases List.mem_append.1 hk with h | h
    · exact ⟨k, ho.mem_iff.1 h, he⟩
    · exact ⟨k, List.mem_range.2 (hm k h), he⟩
  · rintro ⟨k, hk, he⟩
    exact ⟨k, List.mem_append.2 (.inl (ho.mem_iff.2 hk)), he⟩
end Go.Proofs.Ytjdbjahgimlhbaa.Gr
