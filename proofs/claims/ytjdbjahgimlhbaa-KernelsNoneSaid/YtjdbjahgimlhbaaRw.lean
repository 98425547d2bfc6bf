/- ROWS: what calls through the interface come to; Check, Each. -/
import Derived.Test.YtjdbjahgimlhbaaVec
set_option linter.unusedVariables false
set_option maxRecDepth 100000
namespace Go.Proofs.Ytjdbjahgimlhbaa
open Go.RowKit

/-- a plain vector in an interface -/
def vecv (p : Nat) : Value := .iface 31 (.pointer (some ⟨p, 0, none⟩))

theorem meth_len (p : Nat) (w : World) : (method 321 31 (.pointer (some ⟨p, 0, none⟩)) "Len").run Try.prog w = .ok (61, .pointer (some ⟨p, 0, none⟩)) w := by kernel_rfl
theorem meth_get (p : Nat) (w : World) : (method 321 31 (.pointer (some ⟨p, 0, none⟩)) "Get").run Try.prog w = .ok (21, .pointer (some ⟨p, 0, none⟩)) w := by kernel_rfl
theorem meth_set (p : Nat) (w : World) : (method 321 31 (.pointer (some ⟨p, 0, none⟩)) "Set").run Try.prog w = .ok (24, .pointer (some ⟨p, 0, none⟩)) w := by kernel_rfl

theorem check_ok {pa ga pb gb : Nat} {xs ys : List Nat} {w : World} (ha : PlainAt w pa ga xs) (hb : PlainAt w pb gb ys) (h1 : 1 ≤ xs.length) (h2 : ys.length = xs.length) :
    Calls Try.prog 53 #[vecv pa, vecv pb] w fun e w' => e = .returned (.int .i64 0) ∧ w = w' := by
  have h3 := ha.len
  have hm := fun p => meth_len p
  have hbe : ((xs.length : Int) != (xs.length : Int)) = false := by simp
  unfold vecv
  go_enter Try.func53, Try.ntmps53
  go_wp2_with fail
  go_at_call 61
  refine (len_any ha).mono ?_
  rintro e w1 ⟨rfl, rfl⟩
  go_wp2_with fail
  go_at_call 61
  refine (len_any hb).mono ?_
  rintro e w1 ⟨rfl, rfl⟩
  rw [h2]
  go_wp2
  go_ret
  exact ⟨rfl, rfl⟩

def mayB (n m : Nat) : Bool := decide (1 ≤ n ∧ n ≤ 256 ∧ m = n)

/-- What a closure does at each place, done at each. -/
theorem each_any (F : Nat) (hF : ∀ args w, (callFunc F args).run Try.prog w = .ok (.enter F args) w) (cap : Array Value) (n : Nat) (I : Nat → World → Prop) (w : World) (h0 : I 0 w)
    (step : ∀ i w, i < n → I i w → Calls Try.prog F (#[.int .i64 (i : Int)] ++ cap) w fun e w' => e = .returned (.int .i64 0) ∧ I (i + 1) w') (hn : n ≤ 256) :
    Calls Try.prog 54 #[.int .i64 n, .func (.func F) #[] cap] w fun e w' => e = .returned (.int .i64 0) ∧ I n w' := by
  go_enter Try.func54, Try.ntmps54
  go_wp2
  go_loopw [8] (fun i wr => ∃ k : Nat, k ≤ n ∧ i = .int .i64 k ∧ Hid (I k wr)) (fun i _ => n - (intOf i).toNat)
  case atStart => exact ⟨0, by omega, rfl, h0⟩
  case round =>
    obtain ⟨k, hk, rfl, HI⟩ := hrel
    by_cases hlt : k < n
    · go_wp2_with fail
      refine (step k _ hlt HI.out).mono ?_
      rintro e w1 ⟨rfl, HJ⟩
      have HK := hide HJ
      clear HJ step
      go_wp2
      go_roundw
      case rel => exact ⟨k + 1, by omega, by go_num, HK⟩
      case measure => simp [intOf]; omega
    · obtain rfl : k = n := by omega
      go_wp2
      go_ret
      exact ⟨rfl, HI.out⟩
end Go.Proofs.Ytjdbjahgimlhbaa
