/- RANK's Commit, by contract, for any argument. -/
import Derived.Test.YtjdbjahgimlhbaaRank
set_option linter.unusedVariables false
set_option maxRecDepth 100000
namespace Go.Proofs.Ytjdbjahgimlhbaa.rank
open Go.RowKit

section
variable {w : World} {pa ga pb gb ca cb : Nat} {xs ys : List Nat}
theorem commit_any (h : TwoAt w pa ga pb gb xs ys) (hm : mayB xs.length ys.length = true) (arg round : Int) (ha1 : 1 ≤ arg) (ha2 : arg ≤ 64) (hr0 : 0 ≤ round) (hr1 : round ≤ 1000) :
    Calls Try.prog 23 #[vecv pa, vecv pb, .int .i64 arg, .int .i64 round] w fun e w' => e = .returned (.tuple #[.bool (decide (arg ≤ round + 1)), .int .i64 0]) ∧ TwoAt w' pa ga pb gb ((List.range xs.length).map fun i => cF (ys.getD i 0)) (bY xs.length) ∧ Fr (fun k => k = ga ∨ k = gb) w w' := by
  have hmv := fun p => meth_len p
  have hm' : 1 ≤ xs.length ∧ xs.length ≤ 256 ∧ ys.length = xs.length := by simpa [mayB] using hm
  obtain ⟨W2, hW2⟩ : ∃ W2, W2 = (w.alloc (.cells #[vecv pa] 102)).alloc (.cells #[vecv pb] 102) := ⟨_, rfl⟩
  have F2 : Fr (fun _ => False) w W2 := by rw [hW2]; exact ((Fr.refl _ _).alloc _).alloc _
  have c0 : W2.cell? ⟨w.heap.size, 0, none⟩ = some (vecv pa) := by rw [hW2]; simp
  have c1 : W2.cell? ⟨w.heap.size + 1, 0, none⟩ = some (vecv pb) := by rw [hW2]; simp
  have H2 := h.still F2
  have la := h.a.row.lt
  have lb := h.b.row.lt
  have key : Calls Try.prog 54 #[.int .i64 xs.length, .func (.func 60) #[] #[.pointer (some ⟨w.heap.size + 1, 0, none⟩), .pointer (some ⟨w.heap.size, 0, none⟩)]] W2 fun e w' => e = .returned (.int .i64 0) ∧ TwoAt w' pa ga pb gb ((List.range xs.length).map fun i => cF (ys.getD i 0)) (bY xs.length) ∧ Fr (fun k => k = ga ∨ k = gb) W2 w' := by
    refine (each_any 60 (fun args w => by kernel_rfl) #[.pointer (some ⟨w.heap.size + 1, 0, none⟩), .pointer (some ⟨w.heap.size, 0, none⟩)] xs.length
      (fun i w' => TwoAt w' pa ga pb gb (pre (fun i => cF (ys.getD i 0)) i xs) (pre (fun _ => 0) i ys) ∧ Fr (fun k => k = ga ∨ k = gb) W2 w') W2 ⟨by rw [pre_zero, pre_zero]; exact H2, Fr.refl _ _⟩ ?_ (by omega)).mono ?_
    · rintro i w' hi ⟨hT, hF⟩
      refine (commit_step hT (hF.cell c0 (by simp; omega)) (hF.cell c1 (by simp; omega)) (by omega) i (by rw [pre_len _ (by omega)]; omega) (by rw [pre_len _ (by omega)]; omega)).mono ?_
      rintro e w'' ⟨rfl, hT', hF'⟩
      rw [pre_get (fun _ => 0) (show i < ys.length by omega), pre_set (fun i => cF (ys.getD i 0)) hi, pre_set (fun _ => 0) (show i < ys.length by omega)] at hT'
      exact ⟨rfl, hT', hF.trans hF' (fun k h => .inl h)⟩
    · rintro e w' ⟨rfl, hT, hF⟩
      rw [pre_full _ rfl, pre_full _ hm'.2.2] at hT
      exact ⟨rfl, hT, hF⟩
  have CK := check_any H2
  rw [hm] at CK
  have LN := len_any H2.a
  have K : ∀ e w', (e = Ending.returned (.tuple #[.bool (decide (arg ≤ round + 1)), .int .i64 0]) ∧ TwoAt w' pa ga pb gb ((List.range xs.length).map fun i => cF (ys.getD i 0)) (bY xs.length) ∧ Fr (fun k => k = ga ∨ k = gb) W2 w') → (e = .returned (.tuple #[.bool (decide (arg ≤ round + 1)), .int .i64 0]) ∧ TwoAt w' pa ga pb gb ((List.range xs.length).map fun i => cF (ys.getD i 0)) (bY xs.length) ∧ Fr (fun k => k = ga ∨ k = gb) w w') := by
    rintro e w' ⟨h1, h2, h3⟩
    exact ⟨h1, h2, (F2.mono (fun _ h => h.elim)).trans h3 (fun k h => .inl h)⟩
  refine Calls.mono ?_ K
  have HL := hide LN
  have HC := hide CK
  have HK := hide key
  unfold vecv at *
  clear K key CK LN H2 h F2 hm hm'
  have hw : IntKind.i64.wrap (arg - 1) = arg - 1 := by simp only [IntKind.wrap, IntKind.bits, IntKind.signed]; simp; omega
  rcases (show arg ≤ round ∨ (round < arg ∧ round = arg - 1) ∨ (round < arg ∧ round ≠ arg - 1 ∧ round + 1 < arg) by omega) with hc | ⟨hc, hc2⟩ | ⟨hc, hc2, hc3⟩
  · have hdn : decide (arg ≤ round + 1) = true := by simp; omega
    go_enter Try.func23, Try.ntmps23
    go_wp2_with fail
    go_at_call 53
    rw [← hW2]
    refine HC.out.mono ?_
    rintro e w1 ⟨rfl, rfl⟩
    clear hW2
    unfold errB
    go_wp2_with fail
    go_at_call 61
    refine HL.out.mono ?_
    rintro e w1 ⟨rfl, rfl⟩
    go_wp2_with fail
    go_at_call 54
    refine HK.out.mono ?_
    rintro e w1 ⟨rfl, hT, hF⟩
    have H1 := hide hT
    have H2 := hide hF
    clear hT hF
    go_wp2
    go_ret2
    exact ⟨by rw [hdn]; rfl, H1.out, H2.out⟩
  · have hdn : decide (arg ≤ round + 1) = true := by simp; omega
    have hle : decide (arg ≤ round) = false := by simp; omega
    have hbe : (round == arg - 1) = true := by simp; omega
    go_enter Try.func23, Try.ntmps23
    go_wp2_with fail
    go_at_call 53
    rw [← hW2]
    refine HC.out.mono ?_
    rintro e w1 ⟨rfl, rfl⟩
    clear hW2
    unfold errB
    go_wp2_with fail
    go_at_call 61
    refine HL.out.mono ?_
    rintro e w1 ⟨rfl, rfl⟩
    go_wp2_with fail
    go_at_call 54
    refine HK.out.mono ?_
    rintro e w1 ⟨rfl, hT, hF⟩
    have H1 := hide hT
    have H2 := hide hF
    clear hT hF
    go_wp2
    go_ret2
    exact ⟨by rw [hdn]; rfl, H1.out, H2.out⟩
  · have hdn : decide (arg ≤ round + 1) = false := by simp; omega
    have hle : decide (arg ≤ round) = false := by simp; omega
    have hbe : (round == arg - 1) = false := by simp; omega
    go_enter Try.func23, Try.ntmps23
    go_wp2_with fail
    go_at_call 53
    rw [← hW2]
    refine HC.out.mono ?_
    rintro e w1 ⟨rfl, rfl⟩
    clear hW2
    unfold errB
    go_wp2_with fail
    go_at_call 61
    refine HL.out.mono ?_
    rintro e w1 ⟨rfl, rfl⟩
    go_wp2_with fail
    go_at_call 54
    refine HK.out.mono ?_
    rintro e w1 ⟨rfl, hT, hF⟩
    have H1 := hide hT
    have H2 := hide hF
    clear hT hF
    go_wp2
    go_ret2
    exact ⟨by rw [hdn]; rfl, H1.out, H2.out⟩
end
end Go.Proofs.Ytjdbjahgimlhbaa.rank
