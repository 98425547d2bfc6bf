/-
  VectorsWay: any 64 bytes are a segment's, and only those; of at most 200 bytes. No condition.
-/
import Derived.Test.YtneihcoepacadaaVecSame
import Derived.Test.YtneihcoepacadaaFrame
set_option linter.unusedVariables false
namespace Go.Proofs.Ytneihcoepacadaa.vectorsWay
open Go.RowKit Go.ChangeShapes Go.WideShapes Go.ChangeAt
open Go.ChangeMaps (open_string shut_string)

theorem walk (s : ByteArray) (w : World) : Calls Try.prog 7 #[.string s] w fun e w' => e = .returned (.bool true) ∧ Below w.heap.size w w' := by
  have K : ∀ e w', (e = Ending.returned (.bool true) ∧ Fr (fun _ => False) w w') → (e = Ending.returned (.bool true) ∧ Below w.heap.size w w') := fun e w' ⟨h1, h2⟩ => ⟨h1, h2.below (Nat.le_refl _) (fun _ h => h.elim)⟩
  refine Calls.mono ?_ K
  clear K
  by_cases hlong : 200 < s.size
  · go_enter Try.func7, Try.ntmps7
    go_wp2
    go_ret
    exact ⟨rfl, Fr.refl _ _⟩
  · by_cases h64 : s.size = 64
    · have hb : ((s.size : Int) != 64) = false := by simp [h64]
      have H64 := hide h64
      clear h64
      go_enter Try.func7, Try.ntmps7
      go_wp2_with fail
      refine (decode_any s _ H64.out).mono ?_
      rintro e w1 ⟨g, rfl, hg, hblk, hf1⟩
      have hl : (decs s.data.toList).length = 8 := decs_len _
      have hr : Reads w1 w1.heap.size 1 (some ⟨g, 0, none⟩) 8 ((decs s.data.toList).map u64v) := ⟨by simp [hl], fun _ => ⟨g, 0, rfl, hblk.lt, fun j u hu => by rw [Nat.zero_add, hblk.cell]; simpa using hu⟩⟩
      have e1 : (decs s.data.toList ++ List.replicate (8 - 8) 0).flatMap (encW 8) = s.data.toList := by
        rw [show 8 - 8 = 0 from rfl, List.replicate_zero, List.append_nil]
        exact encs_decs _ (by rw [Array.length_toList]; exact H64.out)
      have e2 : (⟨((decs s.data.toList ++ List.replicate (8 - 8) 0).flatMap (encW 8)).toArray⟩ : ByteArray) = s := by rw [e1]
      have E2 := hide e2
      have HR := hide hr
      clear e1 e2 hr hl hblk
      go_wp2_with fail
      refine (encode_any _ 8 8 _ _ HR.out (by omega)).mono ?_
      rintro e w2 ⟨rfl, hf2⟩
      rw [E2.out]
      go_wp2_with (go_at_call 9; refine (does_true _).mono ?_; rintro e w3 ⟨rfl, hf3⟩)
      go_ret
      exact ⟨rfl, (hf1.then_ hf2).then_ hf3⟩
    · have hb : ((s.size : Int) != 64) = true := by simp; omega
      go_enter Try.func7, Try.ntmps7
      go_wp2_with fail
      refine (decode_out s _ h64).mono ?_
      rintro e w1 ⟨rfl, rfl⟩
      go_wp2_with (go_at_call 9; refine (does_true _).mono ?_; rintro e w3 ⟨rfl, hf3⟩)
      go_ret
      exact ⟨rfl, hf3⟩

set_option maxRecDepth 100000 in
theorem lifted (os : Os) (started : os.Started) (H : Type) (enc : TypeId × Value → H) :
    ReturnsInHanded {} Try.checked os 7 .any (Rows.vectorsWaySpec.pre6 enc Try.prog Try.f7 Rows.vectorsWayRow.domain false) (Rows.vectorsWaySpec.post enc Try.prog Try.f7 false true false false) := by
  refine returnsInHanded_of_change (C := Try.checked) frame.own started (by kernel_rfl) Try.func7
    (ChangeSpec.witness6 (enc := enc) (C := Try.checked) false ⟨#[], #[.string .empty], []⟩ 8 (by kernel_rfl) (by kernel_rfl) (by kernel_rfl) (by kernel_rfl)) ?_
  intro W base args ds gs before hval0 hW hcnd _
  have hval : ∀ (j : Nat) t v, Try.f7.params[j]? = some t → args[j]? = some v → Value.okWide Try.prog W .any base t v := hval0
  have hW' := hW
  obtain ⟨p, q, hA0, hV, rfl, hfz, hnd⟩ := hW
  have hA : DataW.TrodAll enc Try.prog W 0 (fun _ => true) true Try.f7.params.toList args.toList ds p := hA0
  rw [Try.params7] at hA hval
  obtain ⟨v0, vs0, d0, ds0, p0, q0, hargs, rfl, rfl, h0, r0⟩ := trodAll_cons hA
  obtain ⟨rfl, rfl, rfl⟩ := trodAll_nil r0
  obtain rfl : args = #[v0] := by cases args; simp_all
  obtain ⟨rfl, rfl⟩ := trodVars_none hV
  have k0 := h0
  obtain ⟨s0, rfl, rfl, rfl, w0⟩ := open_string Try.underlying9 (hval 0 9 v0 rfl rfl) h0
  clear hA0 hval0
  refine (walk s0 W).mono fun e W' ⟨he, bel⟩ => ?_
  subst he
  exact ⟨_, rfl, _, _, _, [], _, [], hW', trodAll_mk1 (shut_bool Try.underlying4 _), (trodAll_cons_mk (frame.keep (by kernel_rfl) (of_decide_eq_true (by kernel_rfl)) k0 bel) (trodAll_mk0)), rfl, bel.frame _, fun h => by cases h⟩

/-- THE STATEMENT -/
theorem proved : Rows.VectorsWaySaid :=
  OpenClaim.holds_of_wide 7 Try.f7 rfl rfl rfl rfl rfl rfl rfl ⟨rfl, rfl, rfl, rfl, rfl⟩ rfl rfl rfl rfl rfl (by kernel_rfl) Try.func7 (by kernel_rfl)
    (of_decide_eq_true (by kernel_rfl)) (by unfold Func.isWrapper; first | (rw [if_pos (by decide +kernel)]; kernel_rfl) | (rw [if_neg (by decide +kernel)]; exact ⟨rfl, rfl⟩))
    (fun os started H enc _ => lifted os started H enc)
#print axioms proved
end Go.Proofs.Ytneihcoepacadaa.vectorsWay
