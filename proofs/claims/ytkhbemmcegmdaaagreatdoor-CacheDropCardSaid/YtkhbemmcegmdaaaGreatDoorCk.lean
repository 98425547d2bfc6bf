/- A cache's keys, told apart. -/
import Derived.Test.YtkhbemmcegmdaaaGreatDoorCs
set_option linter.all false
set_option linter.unusedVariables false
set_option maxRecDepth 100000
namespace Go.Proofs.YtkhbemmcegmdaaaGreatDoor
open Go.RowKit
open Go.ChangeMaps (setBlock)

theorem eq_strs (d : Nat) (x y : ByteArray) (w : World) : (Op.equalIn (d + 1) 9 (.string x) (.string y)).run Tryz.prog w = .ok (x == y) w := by
  simp [Op.equalIn, run_underlying (Tryz.underlying9)]
theorem eq_ints (d : Nat) (x y : Int) (w : World) : (Op.equalIn (d + 1) 3 (.int .i64 x) (.int .i64 y)).run Tryz.prog w = .ok (x == y) w := by
  simp [Op.equalIn, run_underlying (Tryz.underlying3)]
theorem part_str (x : Value) (y : Value) (w : World) : (part 9 #[x, y] 0).run Tryz.prog w = .ok x w := run_part_plain w (by kernel_rfl) rfl
theorem part_int (x : Value) (y : Value) (w : World) : (part 3 #[x, y] 1).run Tryz.prog w = .ok y w := run_part_plain w (by kernel_rfl) rfl
theorem stood_ck : Tryz.prog.stoodInHeld 139 = false := by kernel_rfl
theorem eq_ckd (d : Nat) (a b : CKey) (w : World) : (Op.equalIn (d + 1 + 1) 139 (ckey a) (ckey b)).run Tryz.prog w = .ok (decide (a = b)) w := by
  have e1 : ((⟨a.1.toArray⟩ : ByteArray) == ⟨b.1.toArray⟩) = decide (a.1 = b.1) := by
    rw [Bool.eq_iff_iff, MapKept.bytes_beq]
    simp
  have e2 : decide (a = b) = (decide (a.1 = b.1) && decide (a.2 = b.2)) := by
    rw [Bool.eq_iff_iff]
    simp [Prod.ext_iff]
  unfold ckey strk Op.equalIn
  simp only [Sem.run_bind, run_underlying (Tryz.underlying139), Result.andThen]
  simp [part_str, part_int, eq_strs, eq_ints, stood_ck, Result.andThen, e1, e2]
  by_cases h1 : a.1 = b.1
  · by_cases h2 : a.2 = b.2
    · simp [h1, h2, part_int, eq_ints]
    · simp [h1, h2, part_int, eq_ints]
  · simp [h1]
theorem eq_ck (a b : CKey) (w : World) : (Op.equal 139 (ckey a) (ckey b)).run Tryz.prog w = .ok (decide (a = b)) w := eq_ckd 9998 a b w
theorem key_ck : KeyE Tryz.prog 139 ckey where
  check k e w := by
    unfold ckey strk
    have h1 : ∀ s : ByteArray, (Instr.checkKey e 9999 9 (.string s)).run Tryz.prog w = .ok () w := fun s => by
      show (Instr.checkKey e (9998 + 1) 9 (.string s)).run Tryz.prog w = .ok () w
      unfold Instr.checkKey
      simp [run_underlying (Tryz.underlying9)]
    have h2 : ∀ z : Int, (Instr.checkKey e 9999 3 (.int .i64 z)).run Tryz.prog w = .ok () w := fun s => by
      show (Instr.checkKey e (9998 + 1) 3 (.int .i64 s)).run Tryz.prog w = .ok () w
      unfold Instr.checkKey
      simp [run_underlying (Tryz.underlying3)]
    show (Instr.checkKey e (9999 + 1) 139 (.agg #[.string ⟨k.1.toArray⟩, .int .i64 k.2])).run Tryz.prog w = .ok () w
    generalize hn : (9999 : Nat) = n at *
    unfold Instr.checkKey
    simp only [Sem.run_bind, run_underlying (Tryz.underlying139), Result.andThen]
    simp [part_str, part_int, h1, h2, Result.andThen]
  find k L w := by
    rw [run_findKey_eq w (by rw [Tryz.underlying139])]
    have : ∀ (L : List (Ent CKey)) (i : Nat), (Instr.findAsking 139 (ckey k) (L.map (ent ckey)) i).run Tryz.prog w = .ok (look k L i) w := by
      intro L
      induction L with
      | nil => intro i; rfl
      | cons x L ih =>
        intro i
        rw [List.map_cons]
        unfold Instr.findAsking look
        rw [Sem.run_bind, show (ent ckey x).key = ckey x.1 from rfl, eq_ck]
        by_cases h : k = x.1
        · simp [h, Result.andThen, ent]
        · simp [h, Result.andThen, ih]
    exact this L 0
  bits k := by
    unfold ckey strk
    simp [Instr.sameBits, MapKept.bytes_beq]
end Go.Proofs.YtkhbemmcegmdaaaGreatDoor
