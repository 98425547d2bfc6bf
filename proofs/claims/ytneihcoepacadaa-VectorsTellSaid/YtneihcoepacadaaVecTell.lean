/-
  VectorsTell: the bytes of any numbers, the numbers of any bytes, and how many segments any length takes, are the document's; the list stays. No condition.
-/
import Derived.Test.YtneihcoepacadaaVecSame
import Derived.Test.YtneihcoepacadaaFrame
set_option linter.unusedVariables false
namespace Go.Proofs.Ytneihcoepacadaa.vectorsTell
open Go.RowKit Go.ChangeShapes Go.WideShapes Go.ChangeAt
open Go.ChangeMaps (open_string shut_string)

theorem walk (A : Option Addr) (n c : Nat) (xs : List Nat) (s : ByteArray) (m : Int) (w : World) (hr : Reads w w.heap.size 1 A n (xs.map u64v)) (hx : ∀ x ∈ xs, x < 18446744073709551616) (hm : (Lit.int .i64 m).wf = true) :
    Calls Try.prog 5 #[.slice A n c, .string s, .int .i64 m] w fun e w' => e = .returned (.bool true) ∧ Below w.heap.size w w' := by
  have K : ∀ e w', (e = Ending.returned (.bool true) ∧ Fr (fun _ => False) w w') → (e = Ending.returned (.bool true) ∧ Below w.heap.size w w') := fun e w' ⟨h1, h2⟩ => ⟨h1, h2.below (Nat.le_refl _) (fun _ h => h.elim)⟩
  refine Calls.mono ?_ K
  clear K
  have hmb : -9223372036854775808 ≤ m ∧ m ≤ 9223372036854775807 := by
    simp [Lit.wf, IntKind.min, IntKind.max, IntKind.signed, IntKind.bits] at hm
    omega
  obtain ⟨i64, hi64, hz640, hz641, hz642⟩ := info_parts u64_info
  by_cases hlong : 100 < n ∨ 1000 < s.size
  · have : n ≤ 100 → 1000 < s.size := by omega
    by_cases h1 : 100 < n
    · go_enter Try.func5, Try.ntmps5
      go_wp2
      go_ret
      exact ⟨rfl, Fr.refl _ _⟩
    · have h2 : 1000 < s.size := by omega
      go_enter Try.func5, Try.ntmps5
      go_wp2
      go_ret
      exact ⟨rfl, Fr.refl _ _⟩
  · have hn : n ≤ 100 := by omega
    have hs : s.size ≤ 1000 := by omega
    have HM := hide hmb
    have h1c : ∀ u ∈ xs.map u64v, u.oneCell' = true := by intro u hu; obtain ⟨x, _, rfl⟩ := List.mem_map.1 hu; rfl
    clear hlong hm hmb
    go_enter Try.func5, Try.ntmps5
    go_wp2_with (at_builtin; refine wpList_append_reads rfl _ (.tmp 24) _ rfl w.heap.size 29 i64 _ 1 8 Try.underlying38 hi64 hz640 hz641 hz642 rfl (by decide) _ 0 [] rfl (World.ownsRow_nil _ _ _ _) w.heap.size A n c _ rfl hr h1c (by unfold maxLen; omega) (by omega) (Nat.le_refl _) ?_)
    intro v w1 hown hg _
    have hf1 := (Fr.refl (fun _ => False) w).grown hg (fun k hk => by cases hk)
    obtain ⟨A1, c1, rfl⟩ := Reads.own_val hown
    have ho1 := Reads.of_own hown
    clear hown hg h1c
    have hr1 := hr.up hf1
    go_wp2_with fail
    refine (encode_tot A1 n c1 xs _ ho1).mono ?_
    rintro e w2 ⟨rfl, hf2⟩
    have hr2 := hr1.up hf2
    have ho2 := ho1.up hf2
    have hf := hf1.then_ hf2
    clear hr hr1 ho1 hf1 hf2
    go_wp2_with fail
    refine (rencode_tot A n c xs _ hr2 hx).mono ?_
    rintro e w3 ⟨rfl, hf3⟩
    have hr3 := hr2.up hf3
    have ho3 := ho2.up hf3
    have hf' := hf.then_ hf3
    clear hr2 ho2 hf hf3
    go_wp2_with fail
    refine (decode_tot s _).mono ?_
    rintro e w4 ⟨B, b, d, rfl, hB, hb8, hf4⟩
    have hr4 := hr3.up hf4
    have ho4 := ho3.up hf4
    have hf'' := hf'.then_ hf4
    clear hr3 ho3 hf' hf4
    go_wp2_with fail
    refine (rdecode_tot s _).mono ?_
    rintro e w5 ⟨B2, b2, d2, rfl, hB2, hb28, hf5⟩
    have hr5 := hr4.up hf5
    have ho5 := ho4.up hf5
    have hB5 := hB.up hf5
    have hf := hf''.then_ hf5
    clear hr4 ho4 hf'' hf5 hB
    generalize encS xs = S
    generalize encE xs = E
    go_wp2_with fail
    refine (same_any B B2 b d b2 d2 _ _ _ _ hB5 hB2 (by omega)).mono ?_
    rintro e w6 ⟨rfl, hf6⟩
    have hr6 := hr5.up hf6
    have ho6 := ho5.up hf6
    have hfa := hf.then_ hf6
    clear hr5 ho5 hf hf6 hB5 hB2
    rw [decide_eq_true (rfl : decL s = decL s)]
    generalize decE s = E2
    go_wp2_with fail
    refine (count_any m _ HM.out.1 HM.out.2).mono ?_
    rintro e w7 ⟨rfl, rfl⟩
    go_wp2_with fail
    refine (rcount_any m _ HM.out.1 HM.out.2).mono ?_
    rintro e w7 ⟨rfl, rfl⟩
    generalize cnt m = q
    go_wp2_with fail
    refine (same_any A1 A n c1 n c _ _ _ _ ho6 hr6 (by omega)).mono ?_
    rintro e w8 ⟨rfl, hf8⟩
    rw [decide_eq_true (rfl : xs = xs)]
    have hfb := hfa.then_ hf8
    clear hfa hf8 hr6 ho6
    go_wp2_with (go_at_call 9; refine (does_true _).mono ?_; rintro e w9 ⟨rfl, hf9⟩)
    go_ret
    exact ⟨rfl, hfb.then_ hf9⟩

set_option maxRecDepth 100000 in
theorem lifted (os : Os) (started : os.Started) (H : Type) (enc : TypeId × Value → H) :
    ReturnsInHanded {} Try.checked os 5 .any (Rows.vectorsTellSpec.pre6 enc Try.prog Try.f5 Rows.vectorsTellRow.domain false) (Rows.vectorsTellSpec.post enc Try.prog Try.f5 false true false false) := by
  refine returnsInHanded_of_change (C := Try.checked) frame.own started (by kernel_rfl) Try.func5
    (ChangeSpec.witness6 (enc := enc) (C := Try.checked) false ⟨#[], #[.slice none 0 0, .string .empty, .int .i64 0], []⟩ 8 (by kernel_rfl) (by kernel_rfl) (by kernel_rfl) (by kernel_rfl)) ?_
  intro W base args ds gs before hval0 hW hcnd _
  have hval : ∀ (j : Nat) t v, Try.f5.params[j]? = some t → args[j]? = some v → Value.okWide Try.prog W .any base t v := hval0
  have hW' := hW
  obtain ⟨p, q, hA0, hV, rfl, hfz, hnd⟩ := hW
  have hA : DataW.TrodAll enc Try.prog W 0 (fun _ => true) true Try.f5.params.toList args.toList ds p := hA0
  rw [Try.params5] at hA hval
  obtain ⟨v0, vs0, d0, ds0, p0, q0, hargs, rfl, rfl, h0, r0⟩ := trodAll_cons hA
  obtain ⟨v1, vs1, d1, ds1, p1, q1, rfl, rfl, rfl, h1, r1⟩ := trodAll_cons r0
  obtain ⟨v2, vs2, d2, ds2, p2, q2, rfl, rfl, rfl, h2, r2⟩ := trodAll_cons r1
  obtain ⟨rfl, rfl, rfl⟩ := trodAll_nil r2
  obtain rfl : args = #[v0, v1, v2] := by cases args; simp_all
  obtain ⟨rfl, rfl⟩ := trodVars_none hV
  have k0 := h0
  obtain ⟨A0, n0, c0, x0, rfl, w0, hn0, hm0, hb0⟩ := frame.open_u64s (hval 0 38 v0 rfl rfl) h0
  have k1 := h1
  obtain ⟨s1, rfl, rfl, rfl, w1⟩ := open_string Try.underlying9 (hval 1 9 v1 rfl rfl) h1
  have k2 := h2
  obtain ⟨a2, rfl, rfl, rfl, w2⟩ := open_int Try.underlying3 (hval 2 3 v2 rfl rfl) h2
  clear hA0 hval0
  refine (walk A0 n0 c0 x0 s1 a2 W w0 hb0 w2).mono fun e W' ⟨he, bel⟩ => ?_
  subst he
  exact ⟨_, rfl, _, _, _, [], _, [], hW', trodAll_mk1 (shut_bool Try.underlying4 _), (trodAll_cons_mk (frame.keep (by kernel_rfl) (of_decide_eq_true (by kernel_rfl)) k0 bel) (trodAll_cons_mk (frame.keep (by kernel_rfl) (of_decide_eq_true (by kernel_rfl)) k1 bel) (trodAll_cons_mk (frame.keep (by kernel_rfl) (of_decide_eq_true (by kernel_rfl)) k2 bel) (trodAll_mk0)))), rfl, bel.frame _, fun h => by cases h⟩

/-- THE STATEMENT -/
theorem proved : Rows.VectorsTellSaid :=
  OpenClaim.holds_of_wide 5 Try.f5 rfl rfl rfl rfl rfl rfl rfl ⟨rfl, rfl, rfl, rfl, rfl⟩ rfl rfl rfl rfl rfl (by kernel_rfl) Try.func5 (by kernel_rfl)
    (of_decide_eq_true (by kernel_rfl)) (by unfold Func.isWrapper; first | (rw [if_pos (by decide +kernel)]; kernel_rfl) | (rw [if_neg (by decide +kernel)]; exact ⟨rfl, rfl⟩))
    (fun os started H enc _ => lifted os started H enc)
#print axioms proved
end Go.Proofs.Ytneihcoepacadaa.vectorsTell
