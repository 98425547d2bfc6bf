/- Parts of the proof of KernelsTruth: no conditions of their own. -/
import Derived.Test.YtjdbjahgimlhbaaGreatKernelsTruthPk13
import Derived.Test.YtjdbjahgimlhbaaGreatKernelsTruthPk10
section
set_option linter.unusedVariables false
namespace Go.Proofs.YtjdbjahgimlhbaaGreat
open Go.RowKit
open Gr (E T)

theorem kd_comm (k arg : Nat) : ∀ r X t x y, (kdOf k arg).step r X ((kdOf k arg).step r X t x) y = (kdOf k arg).step r X ((kdOf k arg).step r X t y) x := by
  have g4 : ∀ k, k ≠ 1 → k ≠ 2 → k ≠ 3 → kdOf k arg = kdOf 4 arg := fun k h1 h2 h3 => by unfold kdOf; split <;> first | rfl | contradiction
  intro r X t x y
  by_cases h1 : k = 1
  · subst h1; exact Gr.bfs_comm _ _ _ _ _
  by_cases h2 : k = 2
  · subst h2; exact Gr.rank_comm _ _ _ _
  by_cases h3 : k = 3
  · subst h3; exact Gr.labels_comm _ _ _ _
  rw [g4 k h1 h2 h3]
  exact Gr.cores_comm _ _ _ _
theorem kacc_order (k arg : Nat) (l : List E) (n s : Nat) (hs : 0 < s) (h : ∀ e ∈ l, e.1 < n) (o : List Nat) (ho : o.Perm (List.range s)) (r : Nat) (X Y : List Nat) :
    kacc (kdOf k arg) r X Y (o.map (Gr.shardT l n s)) = kacc (kdOf k arg) r X Y [Gr.flat l] := by
  have := accL_all ((kdOf k arg).step r X) (fun t x y => kd_comm k arg r X t x y) l n s hs h Y o ho
  unfold kacc
  rw [List.foldl_map]
  exact this
theorem kst_same {K : Kd} {n : Nat} {Ls Ls' : List (List T)} (h : ∀ r X Y, kacc K r X Y Ls = kacc K r X Y Ls') : ∀ r, kst K n Ls r = kst K n Ls' r
  | 0 => rfl
  | r + 1 => by simp only [kst, kst_same h r, h]
theorem kdn_same {K : Kd} {n : Nat} {Ls Ls' : List (List T)} (h : ∀ r X Y, kacc K r X Y Ls = kacc K r X Y Ls') (r : Nat) : kdn K n Ls r = kdn K n Ls' r := by
  unfold kdn
  rw [kst_same h r, h]
/-- what a job of a graph comes to, and in how many rounds -/
def kruns (k arg n : Nat) (l : List E) : Nat := stopAt (kdn (kdOf k arg) n [Gr.flat l]) (bnd k arg n)
def kout (k arg n : Nat) (l : List E) : List Nat := (kst (kdOf k arg) n [Gr.flat l] (kruns k arg n l)).1
theorem krun_order (k arg : Nat) (l : List E) (n s : Nat) (hs : 0 < s) (h : ∀ e ∈ l, e.1 < n) (o : List Nat) (ho : o.Perm (List.range s)) :
    stopAt (kdn (kdOf k arg) n (o.map (Gr.shardT l n s))) (bnd k arg n) = kruns k arg n l ∧ (kst (kdOf k arg) n (o.map (Gr.shardT l n s)) (kruns k arg n l)).1 = kout k arg n l := by
  have hk := kacc_order k arg l n s hs h o ho
  exact ⟨stop_congr (kdn_same hk), by unfold kout; rw [kst_same hk]⟩
theorem kout_len (k arg n : Nat) (l : List E) : (kout k arg n l).length = n := (kst_len (kd_good k arg) n [Gr.flat l] _).1
end Go.Proofs.YtjdbjahgimlhbaaGreat
end
section
set_option linter.unusedVariables false
set_option maxRecDepth 100000
namespace Go.Proofs.YtjdbjahgimlhbaaGreat
open Go.RowKit
open Gr (E T)

theorem run_order (k arg prio n s c : Nat) (need : Int) (A : Option Addr) (l : List E) (o : List Nat) (w : World) (hp : prio ≤ 7) (hk : okK k arg n) (h1 : 1 ≤ n) (h2 : n ≤ 256) (hs0 : 0 < s) (hs : s ≤ 1000) (hl : ∀ e ∈ l, e.1 < n) (ho : o.Perm (List.range s)) (hS : ShsAt w w.heap.size A s n (o.map (Gr.shardT l n s))) :
    Calls Tryz.prog 10 #[reqv k arg prio need, .int .i64 (n : Int), .slice A s c] w fun e w' => ∃ B d, e = .returned (.tuple #[.slice B n d, .int .i64 ((kruns k arg n l : Nat) : Int), .int .i64 0]) ∧
      ReadsIn w' w.heap.size 1 B n ((kout k arg n l).map u64v) ∧ Fr (fun _ => False) w w' := by
  have h := run_any k arg prio n s c need A (o.map (Gr.shardT l n s)) w hp hk h1 h2 hs hS
  obtain ⟨e1, e2⟩ := krun_order k arg l n s hs0 hl o ho
  rw [e1, e2] at h
  exact h
theorem run_graph (k arg prio n s c : Nat) (need : Int) (A : Option Addr) (l : List E) (w : World) (hp : prio ≤ 7) (hk : okK k arg n) (h1 : 1 ≤ n) (h2 : n ≤ 256) (hs0 : 0 < s) (hs : s ≤ 1000) (hl : ∀ e ∈ l, e.1 < n ∧ e.2 < n ∧ e.1 ≠ e.2) (hS : ShardsAt w w.heap.size A n s l) :
    Calls Tryz.prog 10 #[reqv k arg prio need, .int .i64 (n : Int), .slice A s c] w fun e w' => ∃ B d, e = .returned (.tuple #[.slice B n d, .int .i64 ((kruns k arg n l : Nat) : Int), .int .i64 0]) ∧
      ReadsIn w' w.heap.size 1 B n ((kout k arg n l).map u64v) ∧ Fr (fun _ => False) w w' :=
  run_order k arg prio n s c need A l (List.range s) w hp hk h1 h2 hs0 hs (fun e he => (hl e he).1) (List.Perm.refl _) (ShsAt.of hS hs0 (fun e he => (hl e he).2.1))
end Go.Proofs.YtjdbjahgimlhbaaGreat
end
section
set_option linter.unusedVariables false
set_option maxRecDepth 100000
namespace Go.Proofs.YtjdbjahgimlhbaaGreat
open Go.RowKit

def reqz (k arg prio need : Int) : Value := .agg #[.int .i64 k, .int .i64 arg, .int .i64 prio, .int .i64 need]
theorem kcheck_nilA (k arg prio need : Int) (p : Nat) (w : World) :
    Calls Tryz.prog 29 #[reqz k arg prio need, .nilIface, vecv p] w fun e w' => e = .returned (.int .i64 1) ∧ Fr (fun _ => False) w w' := by
  have F1 := hide ((Fr.refl (fun _ => False) w).alloc (.cells #[.int .i64 k, .int .i64 arg, .int .i64 prio, .int .i64 need] 45))
  have HC := hide (fun w => check_nilA (vecv p) w (.inr ⟨p, rfl⟩))
  unfold reqz vecv at *
  go_enter Tryz.func29, Tryz.ntmps29
  go_wp2_with fail
  go_at_call 42
  refine (HC.out _).mono ?_
  rintro e w1 ⟨rfl, rfl⟩
  go_wp2
  go_ret
  exact ⟨rfl, F1.out⟩
theorem kcheck_nilB (k arg prio need : Int) (p : Nat) (w : World) :
    Calls Tryz.prog 29 #[reqz k arg prio need, vecv p, .nilIface] w fun e w' => e = .returned (.int .i64 1) ∧ Fr (fun _ => False) w w' := by
  have F1 := hide ((Fr.refl (fun _ => False) w).alloc (.cells #[.int .i64 k, .int .i64 arg, .int .i64 prio, .int .i64 need] 45))
  have HC := hide (fun w => check_nilB p w)
  unfold reqz vecv at *
  go_enter Tryz.func29, Tryz.ntmps29
  go_wp2_with fail
  go_at_call 42
  refine (HC.out _).mono ?_
  rintro e w1 ⟨rfl, rfl⟩
  go_wp2
  go_ret
  exact ⟨rfl, F1.out⟩
section
variable {va vb : Value} {k arg prio need z : Int} {w : World}
theorem kbegin_bad (hz : z = 1 ∨ z = 2) (hC : ∀ W, Fr (fun _ => False) w W → Calls Tryz.prog 29 #[reqz k arg prio need, va, vb] W fun e w' => e = .returned (.int .i64 z) ∧ Fr (fun _ => False) W w') :
    Calls Tryz.prog 19 #[reqz k arg prio need, va, vb] w fun e w' => e = .returned (.int .i64 z) ∧ Fr (fun _ => False) w w' := by
  have F1 := hide ((Fr.refl (fun _ => False) w).alloc (.cells #[.int .i64 k, .int .i64 arg, .int .i64 prio, .int .i64 need] 45))
  have HC := hide (hC _ F1.out)
  clear hC
  unfold reqz at *
  go_enter Tryz.func19, Tryz.ntmps19
  go_wp2_with fail
  go_at_call 29
  refine HC.out.mono ?_
  rintro e w1 ⟨rfl, hf⟩
  have HF := hide (F1.out.then_ hf)
  clear hf HC
  rcases hz with rfl | rfl
  · go_wp2
    go_ret
    exact ⟨rfl, HF.out⟩
  · go_wp2
    go_ret
    exact ⟨rfl, HF.out⟩
theorem kcommit_bad (r : Int) (hz : z = 1 ∨ z = 2) (hC : ∀ W, Fr (fun _ => False) w W → Calls Tryz.prog 29 #[reqz k arg prio need, va, vb] W fun e w' => e = .returned (.int .i64 z) ∧ Fr (fun _ => False) W w') :
    Calls Tryz.prog 22 #[reqz k arg prio need, va, vb, .int .i64 r] w fun e w' => e = .returned (.tuple #[.bool false, .int .i64 z]) ∧ Fr (fun _ => False) w w' := by
  have F1 := hide ((Fr.refl (fun _ => False) w).alloc (.cells #[.int .i64 k, .int .i64 arg, .int .i64 prio, .int .i64 need] 45))
  have HC := hide (hC _ F1.out)
  clear hC
  unfold reqz at *
  go_enter Tryz.func22, Tryz.ntmps22
  go_wp2_with fail
  go_at_call 29
  refine HC.out.mono ?_
  rintro e w1 ⟨rfl, hf⟩
  have HF := hide (F1.out.then_ hf)
  clear hf HC
  rcases hz with rfl | rfl
  · go_wp2
    go_ret2
    exact ⟨rfl, HF.out⟩
  · go_wp2
    go_ret2
    exact ⟨rfl, HF.out⟩
theorem kshard_bad (a b : Int) (A : Option Addr) (m c : Nat) (r : Int) (hz : z = 1 ∨ z = 2) (hC : ∀ W, Fr (fun _ => False) w W → Calls Tryz.prog 29 #[reqz k arg prio need, va, vb] W fun e w' => e = .returned (.int .i64 z) ∧ Fr (fun _ => False) W w') :
    Calls Tryz.prog 21 #[reqz k arg prio need, va, vb, .agg #[.int .i64 a, .int .i64 b, .slice A m c], .int .i64 r] w fun e w' => e = .returned (.int .i64 z) ∧ Fr (fun _ => False) w w' := by
  have F1 := hide (((Fr.refl (fun _ => False) w).alloc (.cells #[.int .i64 k, .int .i64 arg, .int .i64 prio, .int .i64 need] 45)).alloc (.cells #[.int .i64 a, .int .i64 b, .slice A m c] 43))
  have HC := hide (hC _ F1.out)
  clear hC
  unfold reqz at *
  go_enter Tryz.func21, Tryz.ntmps21
  go_wp2_with fail
  go_at_call 29
  refine HC.out.mono ?_
  rintro e w1 ⟨rfl, hf⟩
  have HF := hide (F1.out.then_ hf)
  clear hf HC
  rcases hz with rfl | rfl
  · go_wp2
    go_ret
    exact ⟨rfl, HF.out⟩
  · go_wp2
    go_ret
    exact ⟨rfl, HF.out⟩
/-- a job that may not be asked for comes to nothing -/
theorem run_bad (n : Int) (A : Option Addr) (s c : Nat) (hC : ∀ W, Calls Tryz.prog 17 #[reqz k arg prio need, .int .i64 n] W fun e w' => e = .returned (.int .i64 2) ∧ Fr (fun _ => False) W w') :
    Calls Tryz.prog 10 #[reqz k arg prio need, .int .i64 n, .slice A s c] w fun e w' => e = .returned (.tuple #[.slice none 0 0, .int .i64 0, .int .i64 2]) ∧ Fr (fun _ => False) w w' := by
  have F1 := hide ((Fr.refl (fun _ => False) w).alloc (.cells #[.int .i64 k, .int .i64 arg, .int .i64 prio, .int .i64 need] 45))
  have HC := hide hC
  clear hC
  unfold reqz at *
  go_enter Tryz.func10, Tryz.ntmps10
  go_wp2_with fail
  go_at_call 17
  refine (HC.out _).mono ?_
  rintro e w1 ⟨rfl, hf⟩
  have HF := hide (F1.out.then_ hf)
  clear hf HC
  go_wp2
  go_ret3
  exact ⟨rfl, HF.out⟩
end
end Go.Proofs.YtjdbjahgimlhbaaGreat
end
