/- Proved: the law RankTwice comes to true for every input. There are no conditions. -/
import Derived.Test.YtjdbjahgimlhbaaTwosArg
import Derived.Test.YtjdbjahgimlhbaaLwTwice
set_option linter.unusedVariables false
namespace Go.Proofs.Ytjdbjahgimlhbaa.rankTwice
open Go.RowKit
open Go.ChangeShapes Go.WideShapes Go.ChangeAt
open Go.ChangeMaps (open_string shut_string)
open Gr (E)

theorem walk (A : Option Addr) (G m c : Nat) (l : List E) (A0 A1' : Option Addr) (n0 d0 n1 d1 : Nat) (x0 x1 : List Nat) (w : World) (h : Reads w w.heap.size 2 A m (gcells l)) (hm : l.length = m) (hm63 : m ≤ 9223372036854775807) (hG : G < 256) (hl : ∀ e ∈ l, e.1 < 256 ∧ e.2 < 256)
    (hr0 : Reads w w.heap.size 1 A0 n0 (x0.map u64v)) (hr1 : Reads w w.heap.size 1 A1' n1 (x1.map u64v)) (hx0 : ∀ x ∈ x0, x < 18446744073709551616) (hx1 : ∀ x ∈ x1, x < 18446744073709551616) (h63a : n0 ≤ 9223372036854775807) (h63b : n1 ≤ 9223372036854775807) :
    Calls Try.prog 4 #[.agg #[.int .u8 (G : Int), .slice A m c], .agg #[.slice A0 n0 d0, .slice A1' n1 d1]] w fun e w' => e = .returned (.bool true) ∧ Below w.heap.size w w' :=
  (twice.walk A G m c l A0 A1' n0 d0 n1 d1 x0 x1 w h hm hm63 hG hl hr0 hr1 hx0 hx1 h63a h63b).mono fun e w' h => ⟨h.1, h.2.below (Nat.le_refl _) (fun _ h => h.elim)⟩

set_option maxRecDepth 100000 in
theorem lifted (os : Os) (started : os.Started) (H : Type) (enc : TypeId × Value → H) :
    ReturnsInHanded {} Try.checked os 4 .any (Rows.rankTwiceSpec.pre6 enc Try.prog Try.f4 Rows.rankTwiceRow.domain false) (Rows.rankTwiceSpec.post enc Try.prog Try.f4 false true false false) := by
  refine returnsInHanded_of_change (C := Try.checked) frame.own started (by kernel_rfl) Try.func4
    (ChangeSpec.witness6 (enc := enc) (C := Try.checked) false ⟨#[], #[.agg #[.int .u8 0, .slice none 0 0], .agg #[.slice none 0 0, .slice none 0 0]], []⟩ 8 (by kernel_rfl) (by kernel_rfl) (by kernel_rfl) (by kernel_rfl)) ?_
  intro W base args ds gs before hval0 hW hcnd _
  have hval : ∀ (j : Nat) t v, Try.f4.params[j]? = some t → args[j]? = some v → Value.okWide Try.prog W .any base t v := hval0
  have hW' := hW
  obtain ⟨p, q, hA0, hV, rfl, hfz, hnd⟩ := hW
  have hA : DataW.TrodAll enc Try.prog W 0 (fun _ => true) true Try.f4.params.toList args.toList ds p := hA0
  rw [Try.params4] at hA hval
  obtain ⟨v0, vs0, d0, ds0, p0, q0, hargs, rfl, rfl, h0, r0⟩ := trodAll_cons hA
  obtain ⟨v1, vs1, d1, ds1, p1, q1, rfl, rfl, rfl, h1, r1⟩ := trodAll_cons r0
  obtain ⟨rfl, rfl, rfl⟩ := trodAll_nil r1
  obtain rfl : args = #[v0, v1] := by cases args; simp_all
  obtain ⟨rfl, rfl⟩ := trodVars_none hV
  have k0 := h0
  obtain ⟨G0, A0, m0, c0, l0, rfl, f0, x0, y0, z0, e0⟩ := frame.open_graph (hval 0 24 v0 rfl rfl) h0
  have k1 := h1
  obtain ⟨A1, n1, c1, B1, m1, e1, x1, y1, rfl, f1, g1, bx1, by1, cx1, cy1⟩ := frame.open_twos (hval 1 50 v1 rfl rfl) h1
  clear hA0 hval0
  refine (walk A0 G0 m0 c0 l0 A1 B1 n1 c1 m1 e1 x1 y1 W f0 x0 y0 z0 e0 f1 g1 bx1 by1 cx1 cy1).mono fun e W' ⟨he, bel⟩ => ?_
  subst he
  exact ⟨_, rfl, _, _, _, [], _, [], hW', trodAll_mk1 (shut_bool Try.underlying4 _), (trodAll_cons_mk (frame.keep (by kernel_rfl) (of_decide_eq_true (by kernel_rfl)) k0 bel) (trodAll_cons_mk (frame.keep (by kernel_rfl) (of_decide_eq_true (by kernel_rfl)) k1 bel) (trodAll_mk0))), rfl, bel.frame _, fun h => by cases h⟩

/-- THE STATEMENT -/
theorem proved : Rows.RankTwiceSaid :=
  OpenClaim.holds_of_wide 4 Try.f4 rfl rfl rfl rfl rfl rfl rfl ⟨rfl, rfl, rfl, rfl, rfl⟩ rfl rfl rfl rfl rfl (by kernel_rfl) Try.func4 (by kernel_rfl)
    (of_decide_eq_true (by kernel_rfl)) (by unfold Func.isWrapper; first | (rw [if_pos (by decide +kernel)]; kernel_rfl) | (rw [if_neg (by decide +kernel)]; exact ⟨rfl, rfl⟩))
    (fun os started H enc _ => lifted os started H enc)
#print axioms proved
end Go.Proofs.Ytjdbjahgimlhbaa.rankTwice
