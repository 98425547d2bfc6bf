/- kernels.Run, over a graph's shards. -/
import Derived.Test.YtjdbjahgimlhbaaKRun
import Derived.Test.YtjdbjahgimlhbaaKAll
set_option linter.unusedVariables false
set_option maxRecDepth 100000
namespace Go.Proofs.Ytjdbjahgimlhbaa
open Go.RowKit
open Gr (E T)

theorem run_order (k arg prio n s c : Nat) (need : Int) (A : Option Addr) (l : List E) (o : List Nat) (w : World) (hp : prio ≤ 7) (hk : okK k arg n) (h1 : 1 ≤ n) (h2 : n ≤ 256) (hs0 : 0 < s) (hs : s ≤ 1000) (hl : ∀ e ∈ l, e.1 < n) (ho : o.Perm (List.range s)) (hS : ShsAt w w.heap.size A s n (o.map (Gr.shardT l n s))) :
    Calls Try.prog 46 #[reqv k arg prio need, .int .i64 (n : Int), .slice A s c] w fun e w' => ∃ B d, e = .returned (.tuple #[.slice B n d, .int .i64 ((kruns k arg n l : Nat) : Int), .int .i64 0]) ∧
      ReadsIn w' w.heap.size 1 B n ((kout k arg n l).map u64v) ∧ Fr (fun _ => False) w w' := by
  have h := run_any k arg prio n s c need A (o.map (Gr.shardT l n s)) w hp hk h1 h2 hs hS
  obtain ⟨e1, e2⟩ := krun_order k arg l n s hs0 hl o ho
  rw [e1, e2] at h
  exact h
theorem run_graph (k arg prio n s c : Nat) (need : Int) (A : Option Addr) (l : List E) (w : World) (hp : prio ≤ 7) (hk : okK k arg n) (h1 : 1 ≤ n) (h2 : n ≤ 256) (hs0 : 0 < s) (hs : s ≤ 1000) (hl : ∀ e ∈ l, e.1 < n ∧ e.2 < n ∧ e.1 ≠ e.2) (hS : ShardsAt w w.heap.size A n s l) :
    Calls Try.prog 46 #[reqv k arg prio need, .int .i64 (n : Int), .slice A s c] w fun e w' => ∃ B d, e = .returned (.tuple #[.slice B n d, .int .i64 ((kruns k arg n l : Nat) : Int), .int .i64 0]) ∧
      ReadsIn w' w.heap.size 1 B n ((kout k arg n l).map u64v) ∧ Fr (fun _ => False) w w' :=
  run_order k arg prio n s c need A l (List.range s) w hp hk h1 h2 hs0 hs (fun e he => (hl e he).1) (List.Perm.refl _) (ShsAt.of hS hs0 (fun e he => (hl e he).2.1))
end Go.Proofs.Ytjdbjahgimlhbaa
