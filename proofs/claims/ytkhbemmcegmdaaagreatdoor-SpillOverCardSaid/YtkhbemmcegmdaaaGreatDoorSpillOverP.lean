/- SpillOver: the card. -/
import Derived.Test.YtkhbemmcegmdaaaGreatDoorSpillOverPk0
import Derived.Test.YtkhbemmcegmdaaaGreatDoorSpillOverPk1
set_option linter.all false
set_option linter.unusedVariables false
set_option maxRecDepth 100000
namespace Go.Proofs.YtkhbemmcegmdaaaGreatDoor.spillOverCard
open Go.RowKit
open Go.ChangeShapes Go.WideShapes Go.ChangeAt
open Go.ChangeMaps (open_string shut_string)

theorem walk (nm : List UInt8) (yn ym z0 z1 : Int) (A : Option Addr) (n c : Nat) (l : List SAct) (x : Int) (w : World) (h0 : 0 ≤ z0 ∧ z0 < 256) (h1 : 0 ≤ z1 ∧ z1 < 256) (hn : n ≤ c) (hc : c ≤ maxLen) (ha : SActsR w w.heap.size A n l) (hx : (Lit.int .u8 x).wf = true) :
    Calls Tryz.prog 12 #[.agg #[.string ⟨nm.toArray⟩, .int .i64 yn, .int .i64 ym, .int .u8 z0, .int .u8 z1], .slice A n c, .int .u8 x] w fun e w' => e = .returned (.bool true) ∧ Below w.heap.size w w' := by
  have b : 0 ≤ x ∧ x < 256 := by simp [Lit.wf, IntKind.min, IntKind.max, IntKind.signed, IntKind.bits] at hx; omega
  obtain ⟨q, rfl⟩ : ∃ q : Nat, x = (q : Int) := ⟨x.toNat, by omega⟩
  obtain ⟨u0, rfl⟩ : ∃ q : Nat, z0 = (q : Int) := ⟨z0.toNat, by omega⟩
  obtain ⟨u1, rfl⟩ : ∃ q : Nat, z1 = (q : Int) := ⟨z1.toNat, by omega⟩
  exact (law_over nm yn ym u0 u1 (by omega) (by omega) A n c l q (by omega) w ha (by unfold maxLen at hc; omega)).mono fun e w' h => ⟨h.1, h.2.below (Nat.le_refl _) (fun _ h => h.elim)⟩

set_option maxRecDepth 100000 in
theorem lifted (os : Os) (started : os.Started) (H : Type) (enc : TypeId × Value → H) :
    ReturnsInHanded {} Tryz.checked os 12 .any (fun w args => (Rows.spillOverSpec.pre enc Tryz.prog Tryz.f12 [] false w args ∧ laidMetH Tryz.prog Rows.spillOverRow.laid w) ∧ sizedMet enc Tryz.prog Tryz.f12 (OpenSpec.ofChange Rows.spillOverSpec) false w args)
      (Rows.spillOverSpec.post enc Tryz.prog Tryz.f12 false true false false) := by
  refine returnsInHanded_of_change_and (C := Tryz.checked) (X := (fun w _ => laidMetH Tryz.prog Rows.spillOverRow.laid w)) (fun _ _ _ hh h => h.of_heap hh) frame.own started (by kernel_rfl) Tryz.func12
    (ChangeSpec.witness_shaped (enc := enc) (C := Tryz.checked) (os := os) (X := (fun w _ => laidMetH Tryz.prog Rows.spillOverRow.laid w)) false (World.laidAll Tryz.prog os Rows.spillOverRow.laid) #[.agg #[.string .empty, .int .i64 0, .int .i64 0, .int .u8 0, .int .u8 0], .slice none 0 0, .int .u8 0] 8 (World.laidAll_os _ _ _)
      (World.shaped_of_ZipB (by kernel_rfl) (by kernel_rfl)) (by kernel_rfl) (by kernel_rfl) (by kernel_rfl)
      (by rw [MakeChecks.laidMetH_plain _ _ _ (by kernel_rfl)]; exact laidMet_laidAll _ (by kernel_rfl) (by kernel_rfl))) ?_
  intro W base args ds gs before hval0 hW _ _ _ _
  have hval : ∀ (j : Nat) t v, Tryz.f12.params[j]? = some t → args[j]? = some v → Value.okWide Tryz.prog W .any base t v := hval0
  have hW' := hW
  obtain ⟨p, q, hA0, hV, rfl, hfz, hnd⟩ := hW
  have hA : DataW.TrodAll enc Tryz.prog W 0 (fun _ => true) true Tryz.f12.params.toList args.toList ds p := hA0
  rw [Tryz.params12] at hA hval
  obtain ⟨v0, vs0, d0, ds0, p0, q0, hargs, rfl, rfl, h0, r0⟩ := trodAll_cons hA
  obtain ⟨v1, vs1, d1, ds1, p1, q1, rfl, rfl, rfl, h1, r1⟩ := trodAll_cons r0
  obtain ⟨v2, vs2, d2, ds2, p2, q2, rfl, rfl, rfl, h2, r2⟩ := trodAll_cons r1
  obtain ⟨rfl, rfl, rfl⟩ := trodAll_nil r2
  obtain rfl : args = #[v0, v1, v2] := by cases args; simp_all
  obtain ⟨rfl, rfl⟩ := trodVars_none hV
  have k0 := h0
  obtain ⟨n0, y0, m0, z0, x0, rfl, e0, g0, h0, i0, j0⟩ := frame.open_ask (hval 0 85 v0 rfl rfl) h0
  have k1 := h1
  obtain ⟨A1, n1, c1, l1, rfl, e1, m1, f1⟩ := frame.open_sacts (hval 1 87 v1 rfl rfl) h1
  have k2 := h2
  obtain ⟨a2, rfl, rfl, rfl, w2⟩ := open_int Tryz.underlying5 (hval 2 5 v2 rfl rfl) h2
  clear hA0 hval0
  refine (walk n0 y0 m0 z0 x0 A1 n1 c1 l1 a2 W i0 j0 e1 m1 f1 w2).mono fun e W' ⟨he, bel⟩ => ?_
  subst he
  exact ⟨_, rfl, _, _, _, [], _, [], hW', trodAll_mk1 (shut_bool Tryz.underlying4 _), (trodAll_cons_mk (frame.keep (by kernel_rfl) (of_decide_eq_true (by kernel_rfl)) k0 bel) (trodAll_cons_mk (frame.keep (by kernel_rfl) (of_decide_eq_true (by kernel_rfl)) k1 bel) (trodAll_cons_mk (frame.keep (by kernel_rfl) (of_decide_eq_true (by kernel_rfl)) k2 bel) (trodAll_mk0)))), rfl, bel.frame _, fun h => by cases h⟩

theorem row_holds : Rows.SpillOverSaid :=
  OpenClaim.holds_of_wide 12 Tryz.f12 rfl rfl rfl rfl rfl rfl rfl ⟨rfl, rfl, rfl, rfl, rfl⟩ rfl rfl rfl rfl rfl (by kernel_rfl) Tryz.func12 (by kernel_rfl)
    (of_decide_eq_true (by kernel_rfl)) (by unfold Func.isWrapper; first | (rw [if_pos (by decide +kernel)]; kernel_rfl) | (rw [if_neg (by decide +kernel)]; exact ⟨rfl, rfl⟩))
    (fun os started H enc _ => lifted os started H enc)

/-- THE STATEMENT -/
theorem proved : Rows.SpillOverCardSaid :=
  Claim7.holds_tied_plain_at .later [] [.data, .pinned] true (true, "b23b387701c56147577ea9f78c367987d96565d28f61feafb7f0f880ff21aab5") false row_holds (fun _ h => by cases h) (by kernel_rfl) (fun _ h => by cases h) spillOver_row_tie rfl ⟨rfl, rfl⟩ (by kernel_rfl) rfl
    (fun f fn hf hfn => by
      obtain rfl : f = 12 := Option.some.inj ((show Tryz.prog.funcNamed "carousel/carousellaw15.SpillOver" = some 12 by kernel_rfl).symm.trans hf) |>.symm
      obtain rfl : fn = Tryz.f12 := (Option.some.inj (Tryz.func12.symm.trans hfn)).symm
      exact ⟨by kernel_rfl, fun j t ht => by
        rw [Tryz.params12] at ht
        have hm : t ∈ [85, 87, 5] := by simpa using Array.mem_of_getElem? ht
        have hall : ([85, 87, 5].all fun u => !Tryz.prog.wantsStandIn u) = true := by kernel_rfl
        exact (show Tryz.prog.wantsStandIn t = false by simpa using List.all_eq_true.1 hall t hm)⟩)
    (by kernel_rfl)
#print axioms proved
end Go.Proofs.YtkhbemmcegmdaaaGreatDoor.spillOverCard
