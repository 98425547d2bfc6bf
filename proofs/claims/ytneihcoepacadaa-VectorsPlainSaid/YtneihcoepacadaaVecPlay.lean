/-
  VectorsPlain: a number of a plain vector is what it was set to last, alone or with all, or 0; places that are none are refused, and change nothing. No condition.
-/
import Derived.Test.YtneihcoepacadaaVecActs
set_option linter.unusedVariables false
namespace Go.Proofs.Ytneihcoepacadaa.vectorsPlain
open Go.RowKit Go.ChangeShapes Go.WideShapes Go.ChangeAt

section
variable {H : Type} {enc : TypeId × Value → H} {W : World} {base : Nat} {v : Value} {d : DataW H} {ps : List MemPlace}
theorem open_acts (hv : Value.okWide Try.prog W .any base 22 v) (h : DataW.Trod enc Try.prog W 0 (fun _ => true) true 22 v d ps) :
    ∃ A n c, v = .slice A n c ∧ n ≤ c ∧ c ≤ maxLen ∧ ActsAt W W.heap.size A n := by
  obtain ⟨A, n, c, rfl⟩ := okWide_slice Try.underlying22 hv
  obtain ⟨fuel, hf⟩ := h
  rcases frame.open_slice_fields Try.underlying22 Try.underlying32 (by kernel_rfl) (by kernel_rfl) hf with ⟨hcs, _⟩ | ⟨a, len, cap, m, D, Pl, hcs, hb, hl, hm, hmm, hx, hi⟩
  · simp [Value.cells] at hcs
    obtain ⟨rfl, rfl, rfl⟩ := hcs
    exact ⟨_, _, _, rfl, Nat.le_refl _, by unfold maxLen; omega, fun i h => by omega⟩
  · simp [Value.cells] at hcs
    obtain ⟨rfl, rfl, rfl⟩ := hcs
    have hs0 : 0 < n → a.spot = none := fun h0 => by
      obtain ⟨ys, nf, _, _, hyl, hff⟩ := hi 0 (by rw [hmm]; simp; omega)
      obtain ⟨v0, y0, hc0, hy0, ht0⟩ := hff 0 _ rfl
      rw [show ∀ z : Nat, 0 * z + 0 = 0 from fun z => by simp] at hc0
      simpa [Addr.add] using World.cell?_spot hc0
    refine ⟨_, _, _, rfl, hl, hm, fun i hin => ?_⟩
    obtain ⟨ys, nf, _, _, hyl, hff⟩ := hi i (by rw [hmm]; simp; omega)
    obtain ⟨v0, y0, hc0, hy0, ht0⟩ := hff 0 _ rfl
    obtain ⟨v1, y1, hc1, hy1, ht1⟩ := hff 1 _ rfl
    obtain ⟨v2, y2, hc2, hy2, ht2⟩ := hff 2 _ rfl
    obtain ⟨K, e0, _, wK⟩ := DataW.trod_int Try.underlying5 ht0
    obtain ⟨I, e1, _, wI⟩ := DataW.trod_int Try.underlying3 ht1
    obtain ⟨V, e2, _, wV⟩ := DataW.trod_int Try.underlying29 ht2
    simp only [List.cons.injEq, and_true] at e0 e1 e2
    subst e0 e1 e2
    have hs := hs0 (by omega)
    obtain ⟨b, o, s⟩ := a
    simp only at hs
    subst hs
    have b0 : 0 ≤ K ∧ K < 256 := by simp [Lit.wf, IntKind.min, IntKind.max, IntKind.signed, IntKind.bits] at wK; omega
    have b1 : -9223372036854775808 ≤ I ∧ I ≤ 9223372036854775807 := by simp [Lit.wf, IntKind.min, IntKind.max, IntKind.signed, IntKind.bits] at wI; omega
    have b2 : 0 ≤ V ∧ V < 18446744073709551616 := by simp [Lit.wf, IntKind.min, IntKind.max, IntKind.signed, IntKind.bits] at wV; omega
    rw [Addr.add_lit] at hc0 hc1 hc2
    refine ⟨b, o, K.toNat, I, V.toNat, rfl, by have := World.block_lt_of_cell? W _ hc0; exact this, ?_, ?_, ?_, by omega, b1.1, b1.2, by omega⟩
    · rw [Int.toNat_of_nonneg b0.1]; exact hc0
    · exact hc1
    · rw [Int.toNat_of_nonneg b2.1]; exact hc2
end

theorem walk (n : Int) (A : Option Addr) (m c : Nat) (w : World) (hn : (Lit.int .i64 n).wf = true) (ha : ActsAt w w.heap.size A m) : Calls Try.prog 3 #[.int .i64 n, .slice A m c] w fun e w' => e = .returned (.bool true) ∧ Below w.heap.size w w' := by
  have K : ∀ e w', (e = Ending.returned (.bool true) ∧ Fr (fun _ => False) w w') → (e = Ending.returned (.bool true) ∧ Below w.heap.size w w') := fun e w' ⟨h1, h2⟩ => ⟨h1, h2.below (Nat.le_refl _) (fun _ h => h.elim)⟩
  refine Calls.mono ?_ K
  by_cases hm : 200 < m
  · exact walk_long n A m c w hm
  · by_cases h : n < 0 ∨ 256 < n
    · exact walk_out n A m c w (by omega) h
    · obtain ⟨k, rfl⟩ : ∃ k : Nat, n = k := ⟨n.toNat, by omega⟩
      exact walk_in k A m c w (by omega) (by omega) ha

set_option maxRecDepth 100000 in
theorem lifted (os : Os) (started : os.Started) (H : Type) (enc : TypeId × Value → H) :
    ReturnsInHanded {} Try.checked os 3 .any (Rows.vectorsPlainSpec.pre6 enc Try.prog Try.f3 Rows.vectorsPlainRow.domain false) (Rows.vectorsPlainSpec.post enc Try.prog Try.f3 false true false false) := by
  refine returnsInHanded_of_change (C := Try.checked) frame.own started (by kernel_rfl) Try.func3
    (ChangeSpec.witness6 (enc := enc) (C := Try.checked) false ⟨#[], #[.int .i64 0, .slice none 0 0], []⟩ 8 (by kernel_rfl) (by kernel_rfl) (by kernel_rfl) (by kernel_rfl)) ?_
  intro W base args ds gs before hval0 hW hcnd _
  have hval : ∀ (j : Nat) t v, Try.f3.params[j]? = some t → args[j]? = some v → Value.okWide Try.prog W .any base t v := hval0
  have hW' := hW
  obtain ⟨p, q, hA0, hV, rfl, hfz, hnd⟩ := hW
  have hA : DataW.TrodAll enc Try.prog W 0 (fun _ => true) true Try.f3.params.toList args.toList ds p := hA0
  rw [Try.params3] at hA hval
  obtain ⟨v0, vs0, d0, ds0, p0, q0, hargs, rfl, rfl, h0, r0⟩ := trodAll_cons hA
  obtain ⟨v1, vs1, d1, ds1, p1, q1, rfl, rfl, rfl, h1, r1⟩ := trodAll_cons r0
  obtain ⟨rfl, rfl, rfl⟩ := trodAll_nil r1
  obtain rfl : args = #[v0, v1] := by cases args; simp_all
  obtain ⟨rfl, rfl⟩ := trodVars_none hV
  have k0 := h0
  obtain ⟨a0, rfl, rfl, rfl, w0⟩ := open_int Try.underlying3 (hval 0 3 v0 rfl rfl) h0
  have k1 := h1
  obtain ⟨A1, n1, c1, rfl, hn1, hm1, w1⟩ := open_acts (hval 1 22 v1 rfl rfl) h1
  clear hA0 hval0
  refine (walk a0 A1 n1 c1 W w0 w1).mono fun e W' ⟨he, bel⟩ => ?_
  subst he
  exact ⟨_, rfl, _, _, _, [], _, [], hW', trodAll_mk1 (shut_bool Try.underlying4 _), (trodAll_cons_mk (frame.keep (by kernel_rfl) (of_decide_eq_true (by kernel_rfl)) k0 bel) (trodAll_cons_mk (frame.keep (by kernel_rfl) (of_decide_eq_true (by kernel_rfl)) k1 bel) (trodAll_mk0))), rfl, bel.frame _, fun h => by cases h⟩

/-- THE STATEMENT -/
theorem proved : Rows.VectorsPlainSaid :=
  OpenClaim.holds_of_wide 3 Try.f3 rfl rfl rfl rfl rfl rfl rfl ⟨rfl, rfl, rfl, rfl, rfl⟩ rfl rfl rfl rfl rfl (by kernel_rfl) Try.func3 (by kernel_rfl)
    (of_decide_eq_true (by kernel_rfl)) (by unfold Func.isWrapper; first | (rw [if_pos (by decide +kernel)]; kernel_rfl) | (rw [if_neg (by decide +kernel)]; exact ⟨rfl, rfl⟩))
    (fun os started H enc _ => lifted os started H enc)
#print axioms proved
end Go.Proofs.Ytneihcoepacadaa.vectorsPlain
