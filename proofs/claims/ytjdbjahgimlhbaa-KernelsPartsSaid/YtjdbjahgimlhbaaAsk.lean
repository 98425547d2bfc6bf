/- A JOB THAT MAY BE ASKED FOR, by contract. -/
import Derived.Test.YtjdbjahgimlhbaaKern
set_option linter.unusedVariables false
set_option maxRecDepth 100000
namespace Go.Proofs.Ytjdbjahgimlhbaa
open Go.RowKit

def askK (K : Nat) : Nat := 1 + K % 4
def askA (K a n : Nat) : Nat := if K % 4 = 0 then a % n else if K % 4 = 1 then 1 + a % 12 else if K % 4 = 3 then a % 9 else 0
theorem ask_ok (K a : Nat) {n : Nat} (h : 1 ≤ n) : okK (askK K) (askA K a n) n := by
  unfold okK askK askA
  have := Nat.mod_lt a (show 0 < n by omega)
  have := Nat.mod_lt a (show 0 < 12 by omega)
  have := Nat.mod_lt a (show 0 < 9 by omega)
  have hk : K % 4 = 0 ∨ K % 4 = 1 ∨ K % 4 = 2 ∨ K % 4 = 3 := by omega
  rcases hk with h | h | h | h <;> simp [h] <;> omega
theorem ask_made (K a p d n : Nat) (hK : K < 256) (ha : a < 256) (hp : p < 256) (hd : d < 65536) (h1 : 1 ≤ n) (h2 : n ≤ 256) (w : World) :
    Calls Try.prog 45 #[.agg #[.int .u8 (K : Int), .int .u8 (a : Int), .int .u8 (p : Int), .int .u16 (d : Int)], .int .i64 (n : Int)] w fun e w' => e = .returned (reqv (askK K) (askA K a n) (p % 8) ((256 + d % 1000 : Nat) : Int)) ∧ Fr (fun _ => False) w w' := by
  have hk : K % 4 = 0 ∨ K % 4 = 1 ∨ K % 4 = 2 ∨ K % 4 = 3 := by omega
  rcases hk with h | h | h | h
  · go_enter Try.func45, Try.ntmps45
    go_wp2
    try simp only [Exit.inBlock, Exit.then]
    refine bodyPost_ret (results_cell1 rfl _ _ _ (.agg #[.int .i64 (1 + (K : Int) % 4), .int .i64 ((a : Int) % (n : Int)), .int .i64 ((p : Int) % 8), .int .i64 (256 + (d : Int) % 1000)]) ?hv) rfl ?_
    case hv => go_simp
    exact ⟨by have h' : (K : Int) % 4 = ((K % 4 : Nat) : Int) := rfl; rw [h] at h'; unfold reqv askK askA; simp [h, h'], (((Fr.refl _ _).alloc _).alloc _).alloc _⟩
  · go_enter Try.func45, Try.ntmps45
    go_wp2
    try simp only [Exit.inBlock, Exit.then]
    refine bodyPost_ret (results_cell1 rfl _ _ _ (.agg #[.int .i64 (1 + (K : Int) % 4), .int .i64 (1 + (a : Int) % 12), .int .i64 ((p : Int) % 8), .int .i64 (256 + (d : Int) % 1000)]) ?hv) rfl ?_
    case hv => go_simp
    exact ⟨by have h' : (K : Int) % 4 = ((K % 4 : Nat) : Int) := rfl; rw [h] at h'; unfold reqv askK askA; simp [h, h'], (((Fr.refl _ _).alloc _).alloc _).alloc _⟩
  · go_enter Try.func45, Try.ntmps45
    go_wp2
    try simp only [Exit.inBlock, Exit.then]
    refine bodyPost_ret (results_cell1 rfl _ _ _ (.agg #[.int .i64 (1 + (K : Int) % 4), .int .i64 (0), .int .i64 ((p : Int) % 8), .int .i64 (256 + (d : Int) % 1000)]) ?hv) rfl ?_
    case hv => go_simp
    exact ⟨by have h' : (K : Int) % 4 = ((K % 4 : Nat) : Int) := rfl; rw [h] at h'; unfold reqv askK askA; simp [h, h'], (((Fr.refl _ _).alloc _).alloc _).alloc _⟩
  · go_enter Try.func45, Try.ntmps45
    go_wp2
    try simp only [Exit.inBlock, Exit.then]
    refine bodyPost_ret (results_cell1 rfl _ _ _ (.agg #[.int .i64 (1 + (K : Int) % 4), .int .i64 ((a : Int) % 9), .int .i64 ((p : Int) % 8), .int .i64 (256 + (d : Int) % 1000)]) ?hv) rfl ?_
    case hv => go_simp
    exact ⟨by have h' : (K : Int) % 4 = ((K % 4 : Nat) : Int) := rfl; rw [h] at h'; unfold reqv askK askA; simp [h, h'], (((Fr.refl _ _).alloc _).alloc _).alloc _⟩
end Go.Proofs.Ytjdbjahgimlhbaa
