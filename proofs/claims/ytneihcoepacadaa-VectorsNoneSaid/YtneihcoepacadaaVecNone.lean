/-
  VectorsNone: a vector that is none, nil or not made by New, has no numbers and takes none; at any place and number. No condition.
-/
import Derived.Test.YtneihcoepacadaaVecSame
import Derived.Test.YtneihcoepacadaaFrame
set_option linter.unusedVariables false
namespace Go.Proofs.Ytneihcoepacadaa.vectorsNone
open Go.RowKit Go.ChangeShapes Go.WideShapes Go.ChangeAt

theorem walk (i y : Int) (w : World) (_ : (Lit.int .i64 i).wf = true) (_ : (Lit.int .u64 y).wf = true) : Calls Try.prog 4 #[.int .i64 i, .int .u64 y] w fun e w' => e = .returned (.bool true) ∧ Below w.heap.size w w' := by
  have K : ∀ e w', (e = Ending.returned (.bool true) ∧ Fr (fun _ => False) w w') → (e = Ending.returned (.bool true) ∧ Below w.heap.size w w') := fun e w' ⟨h1, h2⟩ => ⟨h1, h2.below (Nat.le_refl _) (fun _ h => h.elim)⟩
  refine Calls.mono ?_ K
  clear K
  go_enter Try.func4, Try.ntmps4
  go_wp2
  go_loopw [5, 6] (fun p t wr => ∃ k : Nat, k ≤ 2 ∧ t = .int .i64 k ∧ NoneAt wr p ∧ Fr (fun _ => False) w wr) (fun _ t _ => 2 - (intOf t).toNat)
  case atStart => exact ⟨0, by omega, rfl, .inl rfl, Fr.refl _ _⟩
  case round =>
    obtain ⟨k, hk, rfl, hn, hfr⟩ := hrel
    by_cases hk2 : k < 2
    · have HN := hide hn
      clear hn
      go_wp2_with (first
        | (go_at_call 12; refine (get_none HN.out _).mono ?_; rintro e w' ⟨rfl, rfl⟩)
        | (go_at_call 11; refine (set_none HN.out _ _).mono ?_; rintro e w' ⟨rfl, rfl⟩)
        | (go_at_call 13; refine (fill_none HN.out _).mono ?_; rintro e w' ⟨rfl, rfl⟩)
        | (go_at_call 10; refine (len_none HN.out).mono ?_; rintro e w' ⟨rfl, rfl⟩))
      go_roundw
      case rel =>
        refine ⟨k + 1, by omega, by go_num, .inr ⟨_, rfl, ?_, ?_⟩, hfr.alloc _⟩
        · exact ((Blk.new wr 40 _).cell 0).trans rfl
        · exact ((Blk.new wr 40 _).cell 1).trans rfl
      case measure => simp [intOf]; omega
    · go_wp2_with (go_at_call 9; refine (does_true _).mono ?_; rintro e w' ⟨rfl, hf⟩)
      go_ret
      exact ⟨rfl, hfr.then_ hf⟩

set_option maxRecDepth 100000 in
theorem lifted (os : Os) (started : os.Started) (H : Type) (enc : TypeId × Value → H) :
    ReturnsInHanded {} Try.checked os 4 .any (Rows.vectorsNoneSpec.pre6 enc Try.prog Try.f4 Rows.vectorsNoneRow.domain false) (Rows.vectorsNoneSpec.post enc Try.prog Try.f4 false true false false) := by
  refine returnsInHanded_of_change (C := Try.checked) frame.own started (by kernel_rfl) Try.func4
    (ChangeSpec.witness6 (enc := enc) (C := Try.checked) false ⟨#[], #[.int .i64 0, .int .u64 0], []⟩ 8 (by kernel_rfl) (by kernel_rfl) (by kernel_rfl) (by kernel_rfl)) ?_
  intro W base args ds gs before hval0 hW hcnd _
  have hval : ∀ (j : Nat) t v, Try.f4.params[j]? = some t → args[j]? = some v → Value.okWide Try.prog W .any base t v := hval0
  have hW' := hW
  obtain ⟨p, q, hA0, hV, rfl, hfz, hnd⟩ := hW
  have hA : DataW.TrodAll enc Try.prog W 0 (fun _ => true) true Try.f4.params.toList args.toList ds p := hA0
  rw [Try.params4] at hA hval
  obtain ⟨v0, vs0, d0, ds0, p0, q0, hargs, rfl, rfl, h0, r0⟩ := trodAll_cons hA
  obtain ⟨v1, vs1, d1, ds1, p1, q1, rfl, rfl, rfl, h1, r1⟩ := trodAll_cons r0
  obtain ⟨rfl, rfl, rfl⟩ := trodAll_nil r1
  obtain rfl : args = #[v0, v1] := by cases args; simp_all
  obtain ⟨rfl, rfl⟩ := trodVars_none hV
  have k0 := h0
  obtain ⟨a0, rfl, rfl, rfl, w0⟩ := open_int Try.underlying3 (hval 0 3 v0 rfl rfl) h0
  have k1 := h1
  obtain ⟨a1, rfl, rfl, rfl, w1⟩ := open_int Try.underlying29 (hval 1 29 v1 rfl rfl) h1
  clear hA0 hval0
  refine (walk a0 a1 W w0 w1).mono fun e W' ⟨he, bel⟩ => ?_
  subst he
  exact ⟨_, rfl, _, _, _, [], _, [], hW', trodAll_mk1 (shut_bool Try.underlying4 _), (trodAll_cons_mk (frame.keep (by kernel_rfl) (of_decide_eq_true (by kernel_rfl)) k0 bel) (trodAll_cons_mk (frame.keep (by kernel_rfl) (of_decide_eq_true (by kernel_rfl)) k1 bel) (trodAll_mk0))), rfl, bel.frame _, fun h => by cases h⟩

/-- THE STATEMENT -/
theorem proved : Rows.VectorsNoneSaid :=
  OpenClaim.holds_of_wide 4 Try.f4 rfl rfl rfl rfl rfl rfl rfl ⟨rfl, rfl, rfl, rfl, rfl⟩ rfl rfl rfl rfl rfl (by kernel_rfl) Try.func4 (by kernel_rfl)
    (of_decide_eq_true (by kernel_rfl)) (by unfold Func.isWrapper; first | (rw [if_pos (by decide +kernel)]; kernel_rfl) | (rw [if_neg (by decide +kernel)]; exact ⟨rfl, rfl⟩))
    (fun os started H enc _ => lifted os started H enc)
#print axioms proved
end Go.Proofs.Ytneihcoepacadaa.vectorsNone
