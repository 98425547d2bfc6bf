/- rows.Less, rows.Two, by contract. -/
import Derived.Test.YtjdbjahgimlhbaaTwo
import Derived.OwnWalk
set_option linter.unusedVariables false
set_option maxRecDepth 100000
namespace Go.Proofs.Ytjdbjahgimlhbaa
open Go.RowKit

theorem beqT {a b : Int} (h : a = b) : (a == b) = true := by simp [h]
theorem beqF {a b : Int} (h : a ≠ b) : (a == b) = false := by simpa using h
theorem bneT {a b : Int} (h : a ≠ b) : (a != b) = true := by simpa using h
theorem bneF {a b : Int} (h : a = b) : (a != b) = false := by simp [h]
theorem wrap_succ {n : Nat} (h : n ≤ 9223372036854775807) : IntKind.u64.wrap ((n : Int) + 1) = ((n + 1 : Nat) : Int) := by simp [IntKind.wrap, IntKind.bits, IntKind.signed]; omega
theorem wrap_same {n : Int} (h0 : 0 ≤ n) (h : n ≤ 9223372036854775807) : IntKind.u64.wrap n = n := by simp [IntKind.wrap, IntKind.bits, IntKind.signed]; omega

theorem set_same (xs : List Nat) (i : Nat) : xs.set i (xs.getD i 0) = xs := by
  apply List.ext_getElem
  · simp
  · intro j h1 h2
    rw [List.getElem_set]
    split
    · rename_i h
      subst h
      simp [List.getD, h2]
    · rfl

theorem less_any {p g : Nat} {xs : List Nat} {w : World} (h : PlainAt w p g xs) (i x : Nat) (hi : i < xs.length) (hx : x < 18446744073709551616) :
    Calls Try.prog 63 #[vecv p, .int .i64 i, .int .u64 x] w fun e w' => e = .returned (.tuple #[.bool (decide (x < xs.getD i 0)), .int .i64 0]) ∧ PlainAt w' p g (xs.set i (min (xs.getD i 0) x)) ∧ Fr (fun k => k = g) w w' := by
  have hms := fun p => meth_set p
  have hmg := fun p => meth_get p
  have H := hide h
  have G := hide (get_in h i hi)
  unfold vecv
  by_cases hlt : x < xs.getD i 0
  · have hz : min (xs.getD i 0) x = x := by omega
    rw [hz, decide_eq_true hlt]
    generalize xs.getD i 0 = y at *
    clear h hz
    go_enter Try.func63, Try.ntmps63
    go_wp2_with fail
    go_at_call 21
    refine G.out.mono ?_
    rintro e w1 ⟨rfl, rfl⟩
    go_wp2_with fail
    go_at_call 24
    refine (set_in H.out i x hi hx).mono ?_
    rintro e w1 ⟨rfl, hP, hf⟩
    have H2 := hide hP
    have HF := hide hf
    clear hP hf
    go_wp2
    go_ret2
    exact ⟨rfl, H2.out, HF.out⟩
  · have hz : xs.set i (min (xs.getD i 0) x) = xs := by rw [show min (xs.getD i 0) x = xs.getD i 0 by omega]; exact set_same xs i
    rw [hz, decide_eq_false hlt]
    generalize xs.getD i 0 = y at *
    clear h hz
    go_enter Try.func63, Try.ntmps63
    go_wp2_with fail
    go_at_call 21
    refine G.out.mono ?_
    rintro e w1 ⟨rfl, rfl⟩
    go_wp2
    go_ret2
    exact ⟨rfl, H.out, Fr.refl _ _⟩

theorem two_any {pa ga pb gb : Nat} {xs ys : List Nat} {w : World} (h : TwoAt w pa ga pb gb xs ys) (i : Nat) (hi : i < xs.length) (hj : i < ys.length) :
    Calls Try.prog 73 #[vecv pa, vecv pb, .int .i64 i] w fun e w' => e = .returned (.tuple #[.int .u64 (xs.getD i 0 : Nat), .int .u64 (ys.getD i 0 : Nat), .int .i64 0]) ∧ w = w' := by
  have hmg := fun p => meth_get p
  have G := hide (get_in h.a i hi)
  have G2 := hide (get_in h.b i hj)
  unfold vecv
  clear h
  generalize xs.getD i 0 = x at *
  generalize ys.getD i 0 = y at *
  go_enter Try.func73, Try.ntmps73
  go_wp2_with fail
  go_at_call 21
  refine G.out.mono ?_
  rintro e w1 ⟨rfl, rfl⟩
  go_wp2_with fail
  go_at_call 21
  refine G2.out.mono ?_
  rintro e w1 ⟨rfl, rfl⟩
  go_wp2
  go_ret3
  exact ⟨rfl, rfl⟩

theorem ls_any {w : World} {B : Nat} {vs : List Value} {L : List (List Int)} {n : Nat} (hB : Blk w B 64 vs.toArray) (hn : n = L.length)
    (h : ∀ (i : Nat) (l : List Int), L[i]? = some l → ∃ A' c, vs[i]? = some (.slice A' l.length c) ∧ Reads w w.heap.size 1 A' l.length (l.map (Value.int .i64)) ∧ l.length ≤ 9223372036854775807) (hv : vs.length = n := by rfl) : LsAt w vs (some ⟨B, 0, none⟩) n L :=
  ⟨hn, Reads.blk hB hv, h⟩
end Go.Proofs.Ytjdbjahgimlhbaa
