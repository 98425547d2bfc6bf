/- Proved: the law LabelsWhole comes to true for every input. There are no conditions. -/
import Derived.Test.YtjdbjahgimlhbaaWhPk19
import Derived.Test.YtjdbjahgimlhbaaLabelsWholePk3
set_option linter.unusedVariables false
namespace Go.Proofs.Ytjdbjahgimlhbaa.labelsWhole
open Go.RowKit
open Go.ChangeShapes Go.WideShapes Go.ChangeAt
open Go.ChangeMaps (open_string shut_string)
open Gr (E)

theorem walk (A : Option Addr) (G m c : Nat) (l : List E) (many argt : Nat) (AB : Option Addr) (nB cB : Nat) (AM : Option Addr) (nM cM : Nat) (yb zm : List Nat) (w : World) (h : Reads w w.heap.size 2 A m (gcells l)) (hm : l.length = m) (hm63 : m ≤ 9223372036854775807) (hG : G < 256) (hl : ∀ e ∈ l, e.1 < 256 ∧ e.2 < 256) (hmany : many < 256) (hargt : argt < 256)
    (hrb : Reads w w.heap.size 1 AB nB (yb.map fun x : Nat => .int .u8 (x : Int))) (hyb : ∀ x ∈ yb, x < 256) (hnb : nB ≤ 9223372036854775807) (hrm : Reads w w.heap.size 1 AM nM (zm.map fun x : Nat => .int .u8 (x : Int))) (hzm : ∀ x ∈ zm, x < 256) (hnm : nM ≤ 9223372036854775807) :
    Calls Try.prog 13 #[.agg #[.int .u8 (G : Int), .slice A m c], .agg #[.int .u8 (many : Int), .int .u8 (argt : Int), .slice AB nB cB, .slice AM nM cM]] w fun e w' => e = .returned (.bool true) ∧ Below w.heap.size w w' :=
  (lwhole.walk A G m c l many argt AB nB cB AM nM cM yb zm w h hm hm63 hG hl hmany hargt hrb hyb hnb hrm hzm hnm).mono fun e w' h => ⟨h.1, h.2.below (Nat.le_refl _) (fun _ h => h.elim)⟩

set_option maxRecDepth 100000 in
theorem lifted (os : Os) (started : os.Started) (H : Type) (enc : TypeId × Value → H) :
    ReturnsInHanded {} Try.checked os 13 .any (Rows.labelsWholeSpec.pre6 enc Try.prog Try.f13 Rows.labelsWholeRow.domain false) (Rows.labelsWholeSpec.post enc Try.prog Try.f13 false true false false) := by
  refine returnsInHanded_of_change (C := Try.checked) frame.own started (by kernel_rfl) Try.func13
    (ChangeSpec.witness6 (enc := enc) (C := Try.checked) false ⟨#[], #[.agg #[.int .u8 0, .slice none 0 0], .agg #[.int .u8 0, .int .u8 0, .slice none 0 0, .slice none 0 0]], []⟩ 8 (by kernel_rfl) (by kernel_rfl) (by kernel_rfl) (by kernel_rfl)) ?_
  intro W base args ds gs before hval0 hW hcnd _
  have hval : ∀ (j : Nat) t v, Try.f13.params[j]? = some t → args[j]? = some v → Value.okWide Try.prog W .any base t v := hval0
  have hW' := hW
  obtain ⟨p, q, hA0, hV, rfl, hfz, hnd⟩ := hW
  have hA : DataW.TrodAll enc Try.prog W 0 (fun _ => true) true Try.f13.params.toList args.toList ds p := hA0
  rw [Try.params13] at hA hval
  obtain ⟨v0, vs0, d0, ds0, p0, q0, hargs, rfl, rfl, h0, r0⟩ := trodAll_cons hA
  obtain ⟨v1, vs1, d1, ds1, p1, q1, rfl, rfl, rfl, h1, r1⟩ := trodAll_cons r0
  obtain ⟨rfl, rfl, rfl⟩ := trodAll_nil r1
  obtain rfl : args = #[v0, v1] := by cases args; simp_all
  obtain ⟨rfl, rfl⟩ := trodVars_none hV
  have k0 := h0
  obtain ⟨G0, A0, m0, c0, l0, rfl, f0, x0, y0, z0, e0⟩ := frame.open_graph (hval 0 24 v0 rfl rfl) h0
  have k1 := h1
  obtain ⟨a1, b1, A1, n1, c1, B1, m1, e1, x1, y1, rfl, ha1, hb1, f1, fx1, fn1, g1, gx1, gn1⟩ := frame.open_trip (hval 1 62 v1 rfl rfl) h1
  clear hA0 hval0
  refine (walk A0 G0 m0 c0 l0 a1 b1 A1 n1 c1 B1 m1 e1 x1 y1 W f0 x0 y0 z0 e0 ha1 hb1 f1 fx1 fn1 g1 gx1 gn1).mono fun e W' ⟨he, bel⟩ => ?_
  subst he
  exact ⟨_, rfl, _, _, _, [], _, [], hW', trodAll_mk1 (shut_bool Try.underlying4 _), (trodAll_cons_mk (frame.keep (by kernel_rfl) (of_decide_eq_true (by kernel_rfl)) k0 bel) (trodAll_cons_mk (frame.keep (by kernel_rfl) (of_decide_eq_true (by kernel_rfl)) k1 bel) (trodAll_mk0))), rfl, bel.frame _, fun h => by cases h⟩

/-- THE STATEMENT -/
theorem proved : Rows.LabelsWholeSaid :=
  OpenClaim.holds_of_wide 13 Try.f13 rfl rfl rfl rfl rfl rfl rfl ⟨rfl, rfl, rfl, rfl, rfl⟩ rfl rfl rfl rfl rfl (by kernel_rfl) Try.func13 (by kernel_rfl)
    (of_decide_eq_true (by kernel_rfl)) (by unfold Func.isWrapper; first | (rw [if_pos (by decide +kernel)]; kernel_rfl) | (rw [if_neg (by decide +kernel)]; exact ⟨rfl, rfl⟩))
    (fun os started H enc _ => lifted os started H enc)
#print axioms proved
end Go.Proofs.Ytjdbjahgimlhbaa.labelsWhole
