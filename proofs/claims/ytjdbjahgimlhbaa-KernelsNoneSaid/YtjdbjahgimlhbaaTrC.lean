/- truth.Check, truth.Bound, by contract. -/
import Derived.Test.YtjdbjahgimlhbaaBase
set_option linter.unusedVariables false
set_option maxRecDepth 100000
namespace Go.Proofs.Ytjdbjahgimlhbaa
open Go.RowKit

/-- a job's kind and argument, of so many vertices, that may be asked for -/
def okK (k arg n : Nat) : Prop := (k = 1 ∧ arg < n) ∨ (k = 2 ∧ 1 ≤ arg ∧ arg ≤ 64) ∨ (k = 3 ∧ arg = 0) ∨ (k = 4 ∧ arg ≤ 4096)
/-- how many rounds at most -/
def bnd (k arg n : Nat) : Nat := if k = 2 then arg else n + 1
def reqv (k arg prio : Nat) (need : Int) : Value := .agg #[.int .i64 (k : Int), .int .i64 (arg : Int), .int .i64 (prio : Int), .int .i64 need]
def reqc (k arg prio : Nat) (need : Int) : Obj := .cells #[.int .i64 (k : Int), .int .i64 (arg : Int), .int .i64 (prio : Int), .int .i64 need] 76
set_option maxHeartbeats 1600000 in
theorem tcheck1 (arg prio n : Nat) (need : Int) (h1 : 1 ≤ n) (h2 : n ≤ 256) (hp : prio ≤ 7) (h : arg < n) (w : World) :
    Calls Try.prog 76 #[reqv 1 arg prio need, .int .i64 (n : Int)] w fun e w' => e = .returned (.int .i64 0) ∧ Fr (fun _ => False) w w' := by
  have F1 := hide ((Fr.refl (fun _ => False) w).alloc (reqc 1 arg prio need))
  have b1 : decide ((1 : Int) ≤ (n : Int)) = true := by simp; omega
  have b1' : decide (1 ≤ n) = true := by simp; omega
  have b2 : decide ((n : Int) ≤ 256) = true := by simp; omega
  have b2' : decide (n ≤ 256) = true := by simp; omega
  have b3 : decide ((0 : Int) ≤ (prio : Int)) = true := by simp
  have b4 : decide ((prio : Int) ≤ 7) = true := by simp; omega
  have b4' : decide (prio ≤ 7) = true := by simp; omega
  have b5 : decide ((0 : Int) ≤ (arg : Int)) = true := by simp
  have b6 : decide ((arg : Int) < (n : Int)) = true := by simp; omega
  have b6' : decide (arg < n) = true := by simp; omega
  clear h
  unfold reqv reqc at *
  clear h1 h2 hp
  go_enter Try.func76, Try.ntmps76
  go_wp2
  go_ret
  exact ⟨rfl, F1.out⟩
set_option maxHeartbeats 1600000 in
theorem tcheck2 (arg prio n : Nat) (need : Int) (h1 : 1 ≤ n) (h2 : n ≤ 256) (hp : prio ≤ 7) (h : 1 ≤ arg ∧ arg ≤ 64) (w : World) :
    Calls Try.prog 76 #[reqv 2 arg prio need, .int .i64 (n : Int)] w fun e w' => e = .returned (.int .i64 0) ∧ Fr (fun _ => False) w w' := by
  have F1 := hide ((Fr.refl (fun _ => False) w).alloc (reqc 2 arg prio need))
  have b1 : decide ((1 : Int) ≤ (n : Int)) = true := by simp; omega
  have b1' : decide (1 ≤ n) = true := by simp; omega
  have b2 : decide ((n : Int) ≤ 256) = true := by simp; omega
  have b2' : decide (n ≤ 256) = true := by simp; omega
  have b3 : decide ((0 : Int) ≤ (prio : Int)) = true := by simp
  have b4 : decide ((prio : Int) ≤ 7) = true := by simp; omega
  have b4' : decide (prio ≤ 7) = true := by simp; omega
  have b5 : decide ((0 : Int) ≤ (arg : Int)) = true := by simp
  have b6 : decide ((arg : Int) ≤ 64) = true := by simp; omega
  have b6' : decide (arg ≤ 64) = true := by simp; omega
  have b7 : decide ((1 : Int) ≤ (arg : Int)) = true := by simp; omega
  have b7' : decide (1 ≤ arg) = true := by simp; omega
  clear h
  unfold reqv reqc at *
  clear h1 h2 hp
  go_enter Try.func76, Try.ntmps76
  go_wp2
  go_ret
  exact ⟨rfl, F1.out⟩
set_option maxHeartbeats 1600000 in
theorem tcheck3 (arg prio n : Nat) (need : Int) (h1 : 1 ≤ n) (h2 : n ≤ 256) (hp : prio ≤ 7) (h : arg = 0) (w : World) :
    Calls Try.prog 76 #[reqv 3 arg prio need, .int .i64 (n : Int)] w fun e w' => e = .returned (.int .i64 0) ∧ Fr (fun _ => False) w w' := by
  have F1 := hide ((Fr.refl (fun _ => False) w).alloc (reqc 3 arg prio need))
  subst h
  have b1 : decide ((1 : Int) ≤ (n : Int)) = true := by simp; omega
  have b1' : decide (1 ≤ n) = true := by simp; omega
  have b2 : decide ((n : Int) ≤ 256) = true := by simp; omega
  have b2' : decide (n ≤ 256) = true := by simp; omega
  have b3 : decide ((0 : Int) ≤ (prio : Int)) = true := by simp
  have b4 : decide ((prio : Int) ≤ 7) = true := by simp; omega
  have b4' : decide (prio ≤ 7) = true := by simp; omega
  have b5 : decide ((0 : Int) ≤ (0 : Int)) = true := by simp
  unfold reqv reqc at *
  clear h1 h2 hp
  go_enter Try.func76, Try.ntmps76
  go_wp2
  go_ret
  exact ⟨rfl, F1.out⟩
set_option maxHeartbeats 1600000 in
theorem tcheck4 (arg prio n : Nat) (need : Int) (h1 : 1 ≤ n) (h2 : n ≤ 256) (hp : prio ≤ 7) (h : arg ≤ 4096) (w : World) :
    Calls Try.prog 76 #[reqv 4 arg prio need, .int .i64 (n : Int)] w fun e w' => e = .returned (.int .i64 0) ∧ Fr (fun _ => False) w w' := by
  have F1 := hide ((Fr.refl (fun _ => False) w).alloc (reqc 4 arg prio need))
  have b1 : decide ((1 : Int) ≤ (n : Int)) = true := by simp; omega
  have b1' : decide (1 ≤ n) = true := by simp; omega
  have b2 : decide ((n : Int) ≤ 256) = true := by simp; omega
  have b2' : decide (n ≤ 256) = true := by simp; omega
  have b3 : decide ((0 : Int) ≤ (prio : Int)) = true := by simp
  have b4 : decide ((prio : Int) ≤ 7) = true := by simp; omega
  have b4' : decide (prio ≤ 7) = true := by simp; omega
  have b5 : decide ((0 : Int) ≤ (arg : Int)) = true := by simp
  have b6 : decide ((arg : Int) ≤ 4096) = true := by simp; omega
  have b6' : decide (arg ≤ 4096) = true := by simp; omega
  clear h
  unfold reqv reqc at *
  clear h1 h2 hp
  go_enter Try.func76, Try.ntmps76
  go_wp2
  go_ret
  exact ⟨rfl, F1.out⟩
set_option maxHeartbeats 1600000 in
theorem tcheck_far (arg prio n : Nat) (need : Int) (h1 : 1 ≤ n) (h2 : n ≤ 256) (hp : prio ≤ 7) (h : n ≤ arg) (w : World) :
    Calls Try.prog 76 #[reqv 1 arg prio need, .int .i64 (n : Int)] w fun e w' => e = .returned (.int .i64 2) ∧ Fr (fun _ => False) w w' := by
  have F1 := hide ((Fr.refl (fun _ => False) w).alloc (reqc 1 arg prio need))
  have b1 : decide ((1 : Int) ≤ (n : Int)) = true := by simp; omega
  have b1' : decide (1 ≤ n) = true := by simp; omega
  have b2 : decide ((n : Int) ≤ 256) = true := by simp; omega
  have b2' : decide (n ≤ 256) = true := by simp; omega
  have b3 : decide ((0 : Int) ≤ (prio : Int)) = true := by simp
  have b4 : decide ((prio : Int) ≤ 7) = true := by simp; omega
  have b4' : decide (prio ≤ 7) = true := by simp; omega
  have b5 : decide ((0 : Int) ≤ (arg : Int)) = true := by simp
  have b6 : decide ((arg : Int) < (n : Int)) = false := by simp; omega
  have b6' : decide (arg < n) = false := by simp; omega
  unfold reqv reqc at *
  clear h1 h2 hp h
  go_enter Try.func76, Try.ntmps76
  go_wp2
  go_ret
  exact ⟨rfl, F1.out⟩
theorem tcheck_ok (k arg prio n : Nat) (need : Int) (h1 : 1 ≤ n) (h2 : n ≤ 256) (hp : prio ≤ 7) (h : okK k arg n) (w : World) :
    Calls Try.prog 76 #[reqv k arg prio need, .int .i64 (n : Int)] w fun e w' => e = .returned (.int .i64 0) ∧ Fr (fun _ => False) w w' := by
  rcases h with ⟨rfl, h⟩ | ⟨rfl, h⟩ | ⟨rfl, h⟩ | ⟨rfl, h⟩
  · exact tcheck1 arg prio n need h1 h2 hp h w
  · exact tcheck2 arg prio n need h1 h2 hp h w
  · exact tcheck3 arg prio n need h1 h2 hp h w
  · exact tcheck4 arg prio n need h1 h2 hp h w
theorem bound_ok (k arg prio n : Nat) (need : Int) (h1 : 1 ≤ n) (h2 : n ≤ 256) (hp : prio ≤ 7) (h : okK k arg n) (w : World) :
    Calls Try.prog 77 #[.int .i64 (n : Int), reqv k arg prio need] w fun e w' => e = .returned (.int .i64 ((bnd k arg n : Nat) : Int)) ∧ Fr (fun _ => False) w w' := by
  have F1 := hide ((Fr.refl (fun _ => False) w).alloc (reqc k arg prio need))
  have HC := hide (fun w => tcheck_ok k arg prio n need h1 h2 hp h w)
  have c0 : (w.alloc (reqc k arg prio need)).cell? ⟨w.heap.size, 0, none⟩ = some (.int .i64 (k : Int)) := by unfold reqc; simp
  have c1 : (w.alloc (reqc k arg prio need)).cell? ⟨w.heap.size, 1, none⟩ = some (.int .i64 (arg : Int)) := by unfold reqc; simp
  have hk : 1 ≤ k ∧ k ≤ 4 := by unfold okK at h; omega
  have hb2 : k ≠ 2 → bnd k arg n = n + 1 := fun h => by unfold bnd; rw [if_neg h]
  have hadd : IntKind.i64.wrap ((n : Int) + 1) = ((n + 1 : Nat) : Int) := by simp only [IntKind.wrap, IntKind.bits, IntKind.signed]; simp; omega
  unfold reqv reqc at *
  clear h hp
  go_enter Try.func77, Try.ntmps77
  go_wp2_with fail
  go_at_call 76
  refine (HC.out _).mono ?_
  rintro e w1 ⟨rfl, hf⟩
  have HF := hide (F1.out.then_ hf)
  have d0 := hf.cell c0 id
  have d1 := hf.cell c1 id
  clear c0 c1 hf
  by_cases h2k : k = 2
  · subst h2k
    go_wp2
    go_ret
    exact ⟨rfl, HF.out⟩
  · have e0 : ((k : Int) == 2) = false := by simp; omega
    have HB2 := hide (hb2 h2k)
    clear hb2
    go_wp2
    go_ret
    exact ⟨by rw [HB2.out]; go_num, HF.out⟩
end Go.Proofs.Ytjdbjahgimlhbaa
