/- KernelsNone, walked. -/
import Derived.Test.YtjdbjahgimlhbaaTurns
set_option linter.unusedVariables false
set_option maxRecDepth 100000
namespace Go.Proofs.Ytjdbjahgimlhbaa.knone
open Go.RowKit

theorem far_check {pa ga pb gb : Nat} {w : World} (h : TwoAt w pa ga pb gb (List.replicate 3 0) (List.replicate 3 0)) (W : World) (hf : Fr (fun _ => False) w W) :
    Calls Try.prog 74 #[reqz 1 3 0 0, vecv pa, vecv pb] W fun e w' => e = .returned (.int .i64 2) ∧ Fr (fun _ => False) W w' :=
  kcheck_of (h.still hf) (by decide) 1 3 0 0 2 (fun W => tcheck_far 3 0 3 0 (by omega) (by omega) (by omega) (by omega) W)
set_option maxHeartbeats 2000000 in
theorem walk (k arg prio need : Int) (w : World) :
    Calls Try.prog 10 #[.agg #[.int .i64 k, .int .i64 arg, .int .i64 prio, .int .i64 need]] w fun e w' => e = .returned (.bool true) ∧ Fr (fun _ => False) w w' := by
  have F0 := hide ((Fr.refl (fun _ => False) w).alloc (.cells #[.int .i64 k, .int .i64 arg, .int .i64 prio, .int .i64 need] 76))
  have B0 := hide (Blk.new w 76 #[.int .i64 k, .int .i64 arg, .int .i64 prio, .int .i64 need])
  have KC := hide (fun (w : World) (p : Nat) => kcommit_bad (w := w) (va := vecv p) (vb := .nilIface) (k := k) (arg := arg) (prio := prio) (need := need) 0 (.inl rfl) (fun W _ => kcheck_nilB k arg prio need p W))
  have KB := hide (fun (w : World) (p : Nat) => kbegin_bad (w := w) (va := .nilIface) (vb := vecv p) (k := k) (arg := arg) (prio := prio) (need := need) (.inl rfl) (fun W _ => kcheck_nilA k arg prio need p W))
  have KS := hide (fun (w : World) (p : Nat) => kshard_bad (w := w) (va := vecv p) (vb := .nilIface) (k := k) (arg := arg) (prio := prio) (need := need) 0 0 none 0 0 0 (.inl rfl) (fun W _ => kcheck_nilB k arg prio need p W))
  unfold reqz vecv at KC KB KS
  go_enter Try.func10, Try.ntmps10
  go_wp2_with fail
  go_at_call 19
  refine (fresh_any 3 _ (by omega)).mono ?_
  rintro e w1 ⟨pa, ga, pb, gb, rfl, hga, hgb, hT, hf⟩
  have HT := hide hT
  have HF := hide (F0.out.then_ hf)
  have HB := hide (B0.out.fr hf id)
  have x0 := (HB.out.cell 0).trans rfl
  have x1 := (HB.out.cell 1).trans rfl
  have x2 := (HB.out.cell 2).trans rfl
  have x3 := (HB.out.cell 3).trans rfl
  clear hT hf
  go_wp2_with fail
  go_at_call 41
  refine (KC.out _ pa).mono ?_
  rintro e w2 ⟨rfl, hf⟩
  have HT2 := hide (HT.out.still hf)
  have HF2 := hide (HF.out.then_ hf)
  have HB2 := hide (HB.out.fr hf id)
  clear hf x0 x1 x2 x3
  have x0 := (HB2.out.cell 0).trans rfl
  have x1 := (HB2.out.cell 1).trans rfl
  have x2 := (HB2.out.cell 2).trans rfl
  have x3 := (HB2.out.cell 3).trans rfl
  go_wp2_with fail
  go_at_call 42
  refine (KB.out _ pb).mono ?_
  rintro e w3 ⟨rfl, hf⟩
  have HT3 := hide (HT2.out.still hf)
  have HF3 := hide (HF2.out.then_ hf)
  have HB3 := hide (HB2.out.fr hf id)
  clear hf x0 x1 x2 x3
  have x0 := (HB3.out.cell 0).trans rfl
  have x1 := (HB3.out.cell 1).trans rfl
  have x2 := (HB3.out.cell 2).trans rfl
  have x3 := (HB3.out.cell 3).trans rfl
  go_wp2_with fail
  go_at_call 43
  refine (KS.out _ pa).mono ?_
  rintro e w4 ⟨rfl, hf⟩
  have HT4 := hide (HT3.out.still hf)
  have HF4 := hide (HF3.out.then_ hf)
  clear hf x0 x1 x2 x3
  obtain ⟨W5, hW5⟩ : ∃ W5, W5 = w4.alloc (.cells #[.int .i64 1, .int .i64 3, .int .i64 0, .int .i64 0] 76) := ⟨_, rfl⟩
  have F5 : Fr (fun _ => False) w4 W5 := by rw [hW5]; exact (Fr.refl _ _).alloc _
  have b5 : Blk W5 w4.heap.size 76 #[.int .i64 1, .int .i64 3, .int .i64 0, .int .i64 0] := by rw [hW5]; exact Blk.new _ _ _
  have HT5 := hide (HT4.out.still F5)
  have HF5 := hide (HF4.out.then_ F5)
  have HB5 := hide b5
  have HZ := hide hW5
  have FC := hide (fun (W : World) (hf : Fr (fun _ => False) W5 W) => kcommit_bad (w := W) (k := 1) (arg := 3) (prio := 0) (need := 0) 0 (.inr rfl) (fun V hv => far_check HT5.out V (hf.then_ hv)))
  have FB := hide (fun (W : World) (hf : Fr (fun _ => False) W5 W) => kbegin_bad (w := W) (k := 1) (arg := 3) (prio := 0) (need := 0) (.inr rfl) (fun V hv => far_check HT5.out V (hf.then_ hv)))
  have FS := hide (fun (W : World) (hf : Fr (fun _ => False) W5 W) => kshard_bad (w := W) (k := 1) (arg := 3) (prio := 0) (need := 0) 0 0 none 0 0 0 (.inr rfl) (fun V hv => far_check HT5.out V (hf.then_ hv)))
  unfold reqz vecv at FC FB FS
  clear F5 b5 hW5
  go_wp2_with fail
  rw [← HZ.out]
  go_at_call 41
  refine (FC.out _ (Fr.refl _ _)).mono ?_
  rintro e w6 ⟨rfl, hf⟩
  have HF6 := hide hf
  have HB6 := hide (HB5.out.fr hf id)
  clear hf
  have x0 := (HB6.out.cell 0).trans rfl
  have x1 := (HB6.out.cell 1).trans rfl
  have x2 := (HB6.out.cell 2).trans rfl
  have x3 := (HB6.out.cell 3).trans rfl
  go_wp2_with fail
  go_at_call 42
  refine (FB.out _ HF6.out).mono ?_
  rintro e w7 ⟨rfl, hf⟩
  have HF7 := hide (HF6.out.then_ hf)
  have HB7 := hide (HB6.out.fr hf id)
  clear hf x0 x1 x2 x3
  have x0 := (HB7.out.cell 0).trans rfl
  have x1 := (HB7.out.cell 1).trans rfl
  have x2 := (HB7.out.cell 2).trans rfl
  have x3 := (HB7.out.cell 3).trans rfl
  go_wp2_with fail
  go_at_call 43
  refine (FS.out _ HF7.out).mono ?_
  rintro e w8 ⟨rfl, hf⟩
  have HF8 := hide (HF7.out.then_ hf)
  clear hf x0 x1 x2 x3
  go_wp2_with fail
  go_at_call 44
  refine (k21.turns_true _).mono ?_
  rintro e w9 ⟨rfl, hf⟩
  have HF9 := hide (HF5.out.trans (HF8.out.then_ hf) (fun k h => h.elim))
  clear hf
  go_wp2
  go_ret
  exact ⟨rfl, HF9.out⟩
end Go.Proofs.Ytjdbjahgimlhbaa.knone
