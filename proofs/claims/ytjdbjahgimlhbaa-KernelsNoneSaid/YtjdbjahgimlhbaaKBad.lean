/- KERNELS, refused: rows that are none; a job that may not be asked for. -/
import Derived.Test.YtjdbjahgimlhbaaKern
set_option linter.unusedVariables false
set_option maxRecDepth 100000
namespace Go.Proofs.Ytjdbjahgimlhbaa
open Go.RowKit

def reqz (k arg prio need : Int) : Value := .agg #[.int .i64 k, .int .i64 arg, .int .i64 prio, .int .i64 need]
theorem kcheck_nilA (k arg prio need : Int) (p : Nat) (w : World) :
    Calls Try.prog 74 #[reqz k arg prio need, .nilIface, vecv p] w fun e w' => e = .returned (.int .i64 1) ∧ Fr (fun _ => False) w w' := by
  have F1 := hide ((Fr.refl (fun _ => False) w).alloc (.cells #[.int .i64 k, .int .i64 arg, .int .i64 prio, .int .i64 need] 76))
  have HC := hide (fun w => check_nilA (vecv p) w (.inr ⟨p, rfl⟩))
  unfold reqz vecv at *
  go_enter Try.func74, Try.ntmps74
  go_wp2_with fail
  go_at_call 53
  refine (HC.out _).mono ?_
  rintro e w1 ⟨rfl, rfl⟩
  go_wp2
  go_ret
  exact ⟨rfl, F1.out⟩
theorem kcheck_nilB (k arg prio need : Int) (p : Nat) (w : World) :
    Calls Try.prog 74 #[reqz k arg prio need, vecv p, .nilIface] w fun e w' => e = .returned (.int .i64 1) ∧ Fr (fun _ => False) w w' := by
  have F1 := hide ((Fr.refl (fun _ => False) w).alloc (.cells #[.int .i64 k, .int .i64 arg, .int .i64 prio, .int .i64 need] 76))
  have HC := hide (fun w => check_nilB p w)
  unfold reqz vecv at *
  go_enter Try.func74, Try.ntmps74
  go_wp2_with fail
  go_at_call 53
  refine (HC.out _).mono ?_
  rintro e w1 ⟨rfl, rfl⟩
  go_wp2
  go_ret
  exact ⟨rfl, F1.out⟩
section
variable {va vb : Value} {k arg prio need z : Int} {w : World}
theorem kbegin_bad (hz : z = 1 ∨ z = 2) (hC : ∀ W, Fr (fun _ => False) w W → Calls Try.prog 74 #[reqz k arg prio need, va, vb] W fun e w' => e = .returned (.int .i64 z) ∧ Fr (fun _ => False) W w') :
    Calls Try.prog 42 #[reqz k arg prio need, va, vb] w fun e w' => e = .returned (.int .i64 z) ∧ Fr (fun _ => False) w w' := by
  have F1 := hide ((Fr.refl (fun _ => False) w).alloc (.cells #[.int .i64 k, .int .i64 arg, .int .i64 prio, .int .i64 need] 76))
  have HC := hide (hC _ F1.out)
  clear hC
  unfold reqz at *
  go_enter Try.func42, Try.ntmps42
  go_wp2_with fail
  go_at_call 74
  refine HC.out.mono ?_
  rintro e w1 ⟨rfl, hf⟩
  have HF := hide (F1.out.then_ hf)
  clear hf HC
  rcases hz with rfl | rfl
  · go_wp2
    go_ret
    exact ⟨rfl, HF.out⟩
  · go_wp2
    go_ret
    exact ⟨rfl, HF.out⟩
theorem kcommit_bad (r : Int) (hz : z = 1 ∨ z = 2) (hC : ∀ W, Fr (fun _ => False) w W → Calls Try.prog 74 #[reqz k arg prio need, va, vb] W fun e w' => e = .returned (.int .i64 z) ∧ Fr (fun _ => False) W w') :
    Calls Try.prog 41 #[reqz k arg prio need, va, vb, .int .i64 r] w fun e w' => e = .returned (.tuple #[.bool false, .int .i64 z]) ∧ Fr (fun _ => False) w w' := by
  have F1 := hide ((Fr.refl (fun _ => False) w).alloc (.cells #[.int .i64 k, .int .i64 arg, .int .i64 prio, .int .i64 need] 76))
  have HC := hide (hC _ F1.out)
  clear hC
  unfold reqz at *
  go_enter Try.func41, Try.ntmps41
  go_wp2_with fail
  go_at_call 74
  refine HC.out.mono ?_
  rintro e w1 ⟨rfl, hf⟩
  have HF := hide (F1.out.then_ hf)
  clear hf HC
  rcases hz with rfl | rfl
  · go_wp2
    go_ret2
    exact ⟨rfl, HF.out⟩
  · go_wp2
    go_ret2
    exact ⟨rfl, HF.out⟩
theorem kshard_bad (a b : Int) (A : Option Addr) (m c : Nat) (r : Int) (hz : z = 1 ∨ z = 2) (hC : ∀ W, Fr (fun _ => False) w W → Calls Try.prog 74 #[reqz k arg prio need, va, vb] W fun e w' => e = .returned (.int .i64 z) ∧ Fr (fun _ => False) W w') :
    Calls Try.prog 43 #[reqz k arg prio need, va, vb, .agg #[.int .i64 a, .int .i64 b, .slice A m c], .int .i64 r] w fun e w' => e = .returned (.int .i64 z) ∧ Fr (fun _ => False) w w' := by
  have F1 := hide (((Fr.refl (fun _ => False) w).alloc (.cells #[.int .i64 k, .int .i64 arg, .int .i64 prio, .int .i64 need] 76)).alloc (.cells #[.int .i64 a, .int .i64 b, .slice A m c] 45))
  have HC := hide (hC _ F1.out)
  clear hC
  unfold reqz at *
  go_enter Try.func43, Try.ntmps43
  go_wp2_with fail
  go_at_call 74
  refine HC.out.mono ?_
  rintro e w1 ⟨rfl, hf⟩
  have HF := hide (F1.out.then_ hf)
  clear hf HC
  rcases hz with rfl | rfl
  · go_wp2
    go_ret
    exact ⟨rfl, HF.out⟩
  · go_wp2
    go_ret
    exact ⟨rfl, HF.out⟩
/-- a job that may not be asked for comes to nothing -/
theorem run_bad (n : Int) (A : Option Addr) (s c : Nat) (hC : ∀ W, Calls Try.prog 76 #[reqz k arg prio need, .int .i64 n] W fun e w' => e = .returned (.int .i64 2) ∧ Fr (fun _ => False) W w') :
    Calls Try.prog 46 #[reqz k arg prio need, .int .i64 n, .slice A s c] w fun e w' => e = .returned (.tuple #[.slice none 0 0, .int .i64 0, .int .i64 2]) ∧ Fr (fun _ => False) w w' := by
  have F1 := hide ((Fr.refl (fun _ => False) w).alloc (.cells #[.int .i64 k, .int .i64 arg, .int .i64 prio, .int .i64 need] 76))
  have HC := hide hC
  clear hC
  unfold reqz at *
  go_enter Try.func46, Try.ntmps46
  go_wp2_with fail
  go_at_call 76
  refine (HC.out _).mono ?_
  rintro e w1 ⟨rfl, hf⟩
  have HF := hide (F1.out.then_ hf)
  clear hf HC
  go_wp2
  go_ret3
  exact ⟨rfl, HF.out⟩
end
end Go.Proofs.Ytjdbjahgimlhbaa
