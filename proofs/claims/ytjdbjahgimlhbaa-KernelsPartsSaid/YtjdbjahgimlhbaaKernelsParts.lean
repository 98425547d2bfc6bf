/- Proved: the law KernelsParts comes to true for every input. There are no conditions. -/
import Derived.Test.YtjdbjahgimlhbaaJobArg
import Derived.Test.YtjdbjahgimlhbaaLwParts
set_option linter.unusedVariables false
namespace Go.Proofs.Ytjdbjahgimlhbaa.kernelsParts
open Go.RowKit
open Go.ChangeShapes Go.WideShapes Go.ChangeAt
open Go.ChangeMaps (open_string shut_string)
open Gr (E)

theorem walk (A : Option Addr) (G m c : Nat) (l : List E) (K a p d m0 m1 : Nat) (w : World) (h : Reads w w.heap.size 2 A m (gcells l)) (hm : l.length = m) (hm63 : m ≤ 9223372036854775807) (hG : G < 256) (hl : ∀ e ∈ l, e.1 < 256 ∧ e.2 < 256) (hK : K < 256) (ha : a < 256) (hp : p < 256) (hd : d < 65536) (hm0 : m0 < 256) (hm1 : m1 < 256) :
    Calls Try.prog 11 #[.agg #[.int .u8 (G : Int), .slice A m c], .agg #[.int .u8 (K : Int), .int .u8 (a : Int), .int .u8 (p : Int), .int .u16 (d : Int)], .agg #[.int .u8 (m0 : Int), .int .u8 (m1 : Int)]] w fun e w' => e = .returned (.bool true) ∧ Below w.heap.size w w' :=
  (parts.walk A G m c l K a p d m0 m1 w h hm hm63 hG hl hK ha hp hd hm0 hm1).mono fun e w' h => ⟨h.1, h.2.below (Nat.le_refl _) (fun _ h => h.elim)⟩

set_option maxRecDepth 100000 in
theorem lifted (os : Os) (started : os.Started) (H : Type) (enc : TypeId × Value → H) :
    ReturnsInHanded {} Try.checked os 11 .any (Rows.kernelsPartsSpec.pre6 enc Try.prog Try.f11 Rows.kernelsPartsRow.domain false) (Rows.kernelsPartsSpec.post enc Try.prog Try.f11 false true false false) := by
  refine returnsInHanded_of_change (C := Try.checked) frame.own started (by kernel_rfl) Try.func11
    (ChangeSpec.witness6 (enc := enc) (C := Try.checked) false ⟨#[], #[.agg #[.int .u8 0, .slice none 0 0], .agg #[.int .u8 0, .int .u8 0, .int .u8 0, .int .u16 0], .agg #[.int .u8 0, .int .u8 0]], []⟩ 8 (by kernel_rfl) (by kernel_rfl) (by kernel_rfl) (by kernel_rfl)) ?_
  intro W base args ds gs before hval0 hW hcnd _
  have hval : ∀ (j : Nat) t v, Try.f11.params[j]? = some t → args[j]? = some v → Value.okWide Try.prog W .any base t v := hval0
  have hW' := hW
  obtain ⟨p, q, hA0, hV, rfl, hfz, hnd⟩ := hW
  have hA : DataW.TrodAll enc Try.prog W 0 (fun _ => true) true Try.f11.params.toList args.toList ds p := hA0
  rw [Try.params11] at hA hval
  obtain ⟨v0, vs0, d0, ds0, p0, q0, hargs, rfl, rfl, h0, r0⟩ := trodAll_cons hA
  obtain ⟨v1, vs1, d1, ds1, p1, q1, rfl, rfl, rfl, h1, r1⟩ := trodAll_cons r0
  obtain ⟨v2, vs2, d2, ds2, p2, q2, rfl, rfl, rfl, h2, r2⟩ := trodAll_cons r1
  obtain ⟨rfl, rfl, rfl⟩ := trodAll_nil r2
  obtain rfl : args = #[v0, v1, v2] := by cases args; simp_all
  obtain ⟨rfl, rfl⟩ := trodVars_none hV
  have k0 := h0
  obtain ⟨G0, A0, m0, c0, l0, rfl, f0, x0, y0, z0, e0⟩ := frame.open_graph (hval 0 24 v0 rfl rfl) h0
  have k1 := h1
  obtain ⟨K1, a1, p1, d1, rfl, bK1, ba1, bp1, bd1⟩ := frame.open_ask (hval 1 85 v1 rfl rfl) h1
  have k2 := h2
  obtain ⟨u2, v2, rfl, bu2, bv2⟩ := frame.open_pair8 (hval 2 58 v2 rfl rfl) h2
  clear hA0 hval0
  refine (walk A0 G0 m0 c0 l0 K1 a1 p1 d1 u2 v2 W f0 x0 y0 z0 e0 bK1 ba1 bp1 bd1 bu2 bv2).mono fun e W' ⟨he, bel⟩ => ?_
  subst he
  exact ⟨_, rfl, _, _, _, [], _, [], hW', trodAll_mk1 (shut_bool Try.underlying4 _), (trodAll_cons_mk (frame.keep (by kernel_rfl) (of_decide_eq_true (by kernel_rfl)) k0 bel) (trodAll_cons_mk (frame.keep (by kernel_rfl) (of_decide_eq_true (by kernel_rfl)) k1 bel) (trodAll_cons_mk (frame.keep (by kernel_rfl) (of_decide_eq_true (by kernel_rfl)) k2 bel) (trodAll_mk0)))), rfl, bel.frame _, fun h => by cases h⟩

/-- THE STATEMENT -/
theorem proved : Rows.KernelsPartsSaid :=
  OpenClaim.holds_of_wide 11 Try.f11 rfl rfl rfl rfl rfl rfl rfl ⟨rfl, rfl, rfl, rfl, rfl⟩ rfl rfl rfl rfl rfl (by kernel_rfl) Try.func11 (by kernel_rfl)
    (of_decide_eq_true (by kernel_rfl)) (by unfold Func.isWrapper; first | (rw [if_pos (by decide +kernel)]; kernel_rfl) | (rw [if_neg (by decide +kernel)]; exact ⟨rfl, rfl⟩))
    (fun os started H enc _ => lifted os started H enc)
#print axioms proved
end Go.Proofs.Ytjdbjahgimlhbaa.kernelsParts
