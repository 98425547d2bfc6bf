/- A cache's calls that read, and use, by contract. -/
import Derived.Test.YtkhbemmcegmdaaaGreatDoorCs
import Derived.Laws.LoneSync
set_option linter.all false
set_option linter.unusedVariables false
set_option maxRecDepth 100000
namespace Go.Proofs.YtkhbemmcegmdaaaGreatDoor
open Go.RowKit
open Go.ChangeMaps (setBlock)

theorem mapc : Tryz.prog.underlying 59 = some (.map 139 128) := Tryz.underlying59
theorem framep_zero (w : World) : (zeroValue 128).run Tryz.prog w = .ok (.pointer none) w := by simp [Tryz.zeroValue128]
theorem add64_ok {b i : Nat} {x y s : Int} {w : World} (hc : w.cell? ⟨b, i, none⟩ = some (.int .i64 x)) (hz : w.frozen? ⟨b, i, none⟩ = false) (hs : (Op.intArith .add .i64 x y).run Tryz.prog w = .ok (.int .i64 s) w) :
    (callFunc 154 #[.pointer (some ⟨b, i, none⟩), .int .i64 y]).run Tryz.prog w = .ok (.value (.int .i64 s)) (w.setCell ⟨b, i, none⟩ (.int .i64 s)) :=
  run_call_add (P := Tryz.prog) (f := 154) (fn := Tryz.f154) rfl rfl rfl rfl .i64 rfl hc hz hs
section
variable {w w1 : World} {cb fb tb clock most : Nat} {X XF : Nat → Prop} {room left mst clk : Int} {F : FileL} {ME : List (Ent CKey)} {Q : List CF} {s : CSt}
theorem cnone_ok (h : CAt w cb fb X room most s) : Calls Tryz.prog 61 #[.pointer (some ⟨cb, 0, none⟩)] w fun e w' => e = .returned (.bool false) ∧ w = w' := by
  obtain ⟨tb, X1, XF, ME, Q, clock, h, _⟩ := h
  have c0 : w.cell? ⟨cb, 0, none⟩ = some (.pointer (some ⟨fb, 0, none⟩)) := (h.blk.cell 0).trans rfl
  clear h
  go_enter Tryz.func61, Tryz.ntmps61
  go_wp2
  go_ret
  exact ⟨rfl, rfl⟩
theorem cfs_ok (h : CAt w cb fb X room most s) : Calls Tryz.prog 18 #[.pointer (some ⟨cb, 0, none⟩)] w fun e w' => e = .returned (.pointer (some ⟨fb, 0, none⟩)) ∧ w = w' := by
  have HN := hide (cnone_ok h)
  obtain ⟨tb, X1, XF, ME, Q, clock, h, _⟩ := h
  have c0 : w.cell? ⟨cb, 0, none⟩ = some (.pointer (some ⟨fb, 0, none⟩)) := (h.blk.cell 0).trans rfl
  clear h
  go_enter Tryz.func18, Tryz.ntmps18
  go_wp2_with fail
  go_at_call 61
  refine HN.out.mono ?_
  rintro e w1 ⟨rfl, rfl⟩
  go_wp2
  go_ret
  exact ⟨rfl, rfl⟩
theorem cuse_ok (h : CRep w cb fb tb X XF room left F mst ME Q clk clock) {x : CF} (hx : x ∈ Q) (h0 : 0 ≤ clk) (h1 : clk + 1 ≤ 9223372036854775807) : Calls Tryz.prog 86 #[.pointer (some ⟨cb, 0, none⟩), .pointer (some ⟨x.blk, 0, none⟩)] w fun e w' => e = .returned (.tuple #[]) ∧
    w' = (w.setCell ⟨cb, 3, none⟩ (.int .i64 (clk + 1))).setCell ⟨x.blk, 2, none⟩ (.int .i64 (clk + 1)) := by
  have c3 := (h.blk.cell 3).trans rfl
  have f3 := h.blk.frozen 3
  obtain ⟨hb, _, hne, _⟩ := h.frm x hx
  have d2 := ((hb.fr (Fr.one w cb 3 (.int .i64 (clk + 1))) hne).cell 2).trans rfl
  have g2 := (hb.fr (Fr.one w cb 3 (.int .i64 (clk + 1))) hne).frozen 2
  have hs : (Op.intArith .add .i64 clk 1).run Tryz.prog w = .ok (.int .i64 (clk + 1)) w := by
    have : IntKind.i64.wrap (clk + 1) = clk + 1 := by simp only [IntKind.wrap, IntKind.bits, IntKind.signed]; simp; omega
    simp [Op.intArith, this]
  have ha := add64_ok c3 f3 hs
  generalize x.blk = xb at *
  clear h hb hs
  go_enter Tryz.func86, Tryz.ntmps86
  go_wp2
  go_end0
  exact ⟨rfl, rfl⟩
end
end Go.Proofs.YtkhbemmcegmdaaaGreatDoor
