/- Proved: the law KernelsTruth comes to true for every input. There are no conditions. -/
import Derived.Test.YtjdbjahgimlhbaaGreatKernelsTruthPk4
import Derived.Test.YtjdbjahgimlhbaaGreatKernelsTruthPk26
set_option linter.unusedVariables false
namespace Go.Proofs.YtjdbjahgimlhbaaGreat.kernelsTruth
open Go.RowKit
open Go.ChangeShapes Go.WideShapes Go.ChangeAt
open Go.ChangeMaps (open_string shut_string)
open Gr (E)

theorem walk (A : Option Addr) (G m c : Nat) (l : List E) (K a p d : Nat) (many argt : Nat) (AB : Option Addr) (nB cB : Nat) (AM : Option Addr) (nM cM : Nat) (yb zm : List Nat) (w : World) (h : Reads w w.heap.size 2 A m (gcells l)) (hm : l.length = m) (hm63 : m ≤ 9223372036854775807) (hG : G < 256) (hl : ∀ e ∈ l, e.1 < 256 ∧ e.2 < 256) (hK : K < 256) (ha : a < 256) (hp : p < 256) (hd : d < 65536) (hmany : many < 256) (hargt : argt < 256)
    (hrb : Reads w w.heap.size 1 AB nB (yb.map fun x : Nat => .int .u8 (x : Int))) (hyb : ∀ x ∈ yb, x < 256) (hnb : nB ≤ 9223372036854775807) (hrm : Reads w w.heap.size 1 AM nM (zm.map fun x : Nat => .int .u8 (x : Int))) (hzm : ∀ x ∈ zm, x < 256) (hnm : nM ≤ 9223372036854775807) :
    Calls Tryz.prog 3 #[.agg #[.int .u8 (G : Int), .slice A m c], .agg #[.int .u8 (K : Int), .int .u8 (a : Int), .int .u8 (p : Int), .int .u16 (d : Int)], .agg #[.int .u8 (many : Int), .int .u8 (argt : Int), .slice AB nB cB, .slice AM nM cM]] w fun e w' => e = .returned (.bool true) ∧ Below w.heap.size w w' :=
  (ktruth.walk A G m c l K a p d many argt AB nB cB AM nM cM yb zm w h hm hm63 hG hl hK ha hp hd hmany hargt hrb hyb hnb hrm hzm hnm).mono fun e w' h => ⟨h.1, h.2.below (Nat.le_refl _) (fun _ h => h.elim)⟩

set_option maxRecDepth 100000 in
theorem lifted (os : Os) (started : os.Started) (H : Type) (enc : TypeId × Value → H) :
    ReturnsInHanded {} Tryz.checked os 3 .any (Rows.kernelsTruthSpec.pre6 enc Tryz.prog Tryz.f3 Rows.kernelsTruthRow.domain false) (Rows.kernelsTruthSpec.post enc Tryz.prog Tryz.f3 false true false false) := by
  refine returnsInHanded_of_change (C := Tryz.checked) frame.own started (by kernel_rfl) Tryz.func3
    (ChangeSpec.witness6 (enc := enc) (C := Tryz.checked) false ⟨#[], #[.agg #[.int .u8 0, .slice none 0 0], .agg #[.int .u8 0, .int .u8 0, .int .u8 0, .int .u16 0], .agg #[.int .u8 0, .int .u8 0, .slice none 0 0, .slice none 0 0]], []⟩ 8 (by kernel_rfl) (by kernel_rfl) (by kernel_rfl) (by kernel_rfl)) ?_
  intro W base args ds gs before hval0 hW hcnd _
  have hval : ∀ (j : Nat) t v, Tryz.f3.params[j]? = some t → args[j]? = some v → Value.okWide Tryz.prog W .any base t v := hval0
  have hW' := hW
  obtain ⟨p, q, hA0, hV, rfl, hfz, hnd⟩ := hW
  have hA : DataW.TrodAll enc Tryz.prog W 0 (fun _ => true) true Tryz.f3.params.toList args.toList ds p := hA0
  rw [Tryz.params3] at hA hval
  obtain ⟨v0, vs0, d0, ds0, p0, q0, hargs, rfl, rfl, h0, r0⟩ := trodAll_cons hA
  obtain ⟨v1, vs1, d1, ds1, p1, q1, rfl, rfl, rfl, h1, r1⟩ := trodAll_cons r0
  obtain ⟨v2, vs2, d2, ds2, p2, q2, rfl, rfl, rfl, h2, r2⟩ := trodAll_cons r1
  obtain ⟨rfl, rfl, rfl⟩ := trodAll_nil r2
  obtain rfl : args = #[v0, v1, v2] := by cases args; simp_all
  obtain ⟨rfl, rfl⟩ := trodVars_none hV
  have k0 := h0
  obtain ⟨G0, A0, m0, c0, l0, rfl, f0, x0, y0, z0, e0⟩ := frame.open_graph (hval 0 24 v0 rfl rfl) h0
  have k1 := h1
  obtain ⟨K1, a1, p1, d1, rfl, bK1, ba1, bp1, bd1⟩ := frame.open_ask (hval 1 27 v1 rfl rfl) h1
  have k2 := h2
  obtain ⟨a2, b2, A2, n2, c2, B2, m2, e2, x2, y2, rfl, ha2, hb2, f2, fx2, fn2, g2, gx2, gn2⟩ := frame.open_trip (hval 2 30 v2 rfl rfl) h2
  clear hA0 hval0
  refine (walk A0 G0 m0 c0 l0 K1 a1 p1 d1 a2 b2 A2 n2 c2 B2 m2 e2 x2 y2 W f0 x0 y0 z0 e0 bK1 ba1 bp1 bd1 ha2 hb2 f2 fx2 fn2 g2 gx2 gn2).mono fun e W' ⟨he, bel⟩ => ?_
  subst he
  exact ⟨_, rfl, _, _, _, [], _, [], hW', trodAll_mk1 (shut_bool Tryz.underlying4 _), (trodAll_cons_mk (frame.keep (by kernel_rfl) (of_decide_eq_true (by kernel_rfl)) k0 bel) (trodAll_cons_mk (frame.keep (by kernel_rfl) (of_decide_eq_true (by kernel_rfl)) k1 bel) (trodAll_cons_mk (frame.keep (by kernel_rfl) (of_decide_eq_true (by kernel_rfl)) k2 bel) (trodAll_mk0)))), rfl, bel.frame _, fun h => by cases h⟩

/-- THE STATEMENT -/
theorem proved : Rows.KernelsTruthSaid :=
  OpenClaim.holds_of_wide 3 Tryz.f3 rfl rfl rfl rfl rfl rfl rfl ⟨rfl, rfl, rfl, rfl, rfl⟩ rfl rfl rfl rfl rfl (by kernel_rfl) Tryz.func3 (by kernel_rfl)
    (of_decide_eq_true (by kernel_rfl)) (by unfold Func.isWrapper; first | (rw [if_pos (by decide +kernel)]; kernel_rfl) | (rw [if_neg (by decide +kernel)]; exact ⟨rfl, rfl⟩))
    (fun os started H enc _ => lifted os started H enc)
#print axioms proved
end Go.Proofs.YtjdbjahgimlhbaaGreat.kernelsTruth
