/- Parts of the proof of several laws: no conditions of their own. -/
import Derived.Test.YtkhbemmcegmdaaaGreatDoorWhPk9
import Derived.Test.YtkhbemmcegmdaaaGreatDoorWhPk5
import Derived.Laws.LoneSync
section
set_option linter.all false
set_option linter.unusedVariables false
set_option maxRecDepth 100000
namespace Go.Proofs.YtkhbemmcegmdaaaGreatDoor
open Go.RowKit

section
variable {w : World} {fb cb most : Nat} {X : Nat → Prop} {room left : Int} {F : FileL} {s : CSt}
theorem fwrite_any (h : FSAt w fb X room left F) (hI : FInv room F) (n : Name) (hn : n.length ≤ 9223372036854775807) (A : Option Addr) (c B : Nat) (pg : List (List UInt8)) (hr : Reads w B 1 A pg.length (pg.map strv)) (hB : B ≤ w.heap.size) (hl : ∀ s ∈ pg, s.length = 128) (hm : pg.length ≤ 100000) (hne : pg ≠ []) :
    Calls Tryz.prog 55 #[.pointer (some ⟨fb, 0, none⟩), .string ⟨n.toArray⟩, .slice A pg.length c] w fun e w' => e = .returned (.int .i64 (fswrite room F n pg).1) ∧ (∃ X', FSAt w' fb X' room left (fswrite room F n pg).2 ∧ ∀ k, X' k → X k ∨ w.heap.size ≤ k) ∧ Fr X w w' := by
  unfold fswrite
  cases hnb : nameB n with
  | false =>
    rw [if_pos rfl]
    refine (fwrite_bad h n A _ c hn hnb).mono ?_
    rintro e w' ⟨rfl, hf⟩
    exact ⟨rfl, ⟨X, h.up hf, fun k hk => .inl hk⟩, hf.mono (fun _ h => h.elim)⟩
  | true =>
    rw [if_neg (by simp)]
    by_cases hfit : room - ((total F : Nat) : Int) + ((fpg n F).length : Int) < (pg.length : Int)
    · rw [if_pos hfit]
      refine (fwrite_room h hI n hnb A _ c B pg hr hB hl hm hfit).mono ?_
      rintro e w' ⟨rfl, hf⟩
      exact ⟨rfl, ⟨X, h.up hf, fun k hk => .inl hk⟩, hf.mono (fun _ h => h.elim)⟩
    · rw [if_neg hfit]
      exact fwrite_ok h hI n hnb A _ c B pg hr hB hl hm hne hfit
theorem ffail_any (h : FSAt w fb X room left F) (i : Int) :
    Calls Tryz.prog 22 #[.pointer (some ⟨fb, 0, none⟩), .int .i64 i] w fun e w' => e = .returned (.int .i64 (fsfail left i).1) ∧ (∃ X', FSAt w' fb X' room (fsfail left i).2 F ∧ ∀ k, X' k → X k ∨ w.heap.size ≤ k) ∧ Fr X w w' := by
  unfold fsfail
  by_cases hi : i < 0
  · rw [if_pos hi]
    refine (ffail_bad h i hi).mono ?_
    rintro e w' ⟨rfl, rfl⟩
    exact ⟨rfl, ⟨X, h, fun k hk => .inl hk⟩, Fr.refl _ _⟩
  · rw [if_neg hi]
    refine (ffail_ok h i (by omega)).mono ?_
    rintro e w' ⟨rfl, h1, hf⟩
    exact ⟨rfl, ⟨X, h1, fun k hk => .inl hk⟩, hf⟩
theorem fflip_any (h : FSAt w fb X room left F) (hI : FInv room F) (n : Name) (i : Int) (x : UInt8) :
    Calls Tryz.prog 67 #[.pointer (some ⟨fb, 0, none⟩), .string ⟨n.toArray⟩, .int .i64 i, .int .i64 2, .int .u8 (x.toNat : Int)] w fun e w' => e = .returned (.int .i64 (fsflip F n i x).1) ∧ (∃ X', FSAt w' fb X' room left (fsflip F n i x).2 ∧ ∀ k, X' k → X k ∨ w.heap.size ≤ k) ∧ Fr X w w' := by
  unfold fsflip
  rcases Decidable.em (0 ≤ i ∧ i < ((fpg n F).length : Int)) with hi | hi
  · obtain ⟨j, rfl⟩ : ∃ j : Nat, i = (j : Int) := ⟨i.toNat, by omega⟩
    rw [if_pos hi]
    refine (fflip_ok h hI n j x (by omega)).mono ?_
    rintro e w' ⟨rfl, h1, hf⟩
    exact ⟨rfl, by simpa using h1, hf⟩
  · rw [if_neg hi]
    refine (fflip_none h n i _ hi).mono ?_
    rintro e w' ⟨rfl, rfl⟩
    exact ⟨rfl, ⟨X, h, fun k hk => .inl hk⟩, Fr.refl _ _⟩
theorem fremove_any (h : FSAt w fb X room left F) (n : Name) :
    Calls Tryz.prog 68 #[.pointer (some ⟨fb, 0, none⟩), .string ⟨n.toArray⟩] w fun e w' => e = .returned (.int .i64 (fsremove F n).1) ∧ (∃ X', FSAt w' fb X' room left (fsremove F n).2 ∧ ∀ k, X' k → X k ∨ w.heap.size ≤ k) ∧ Fr X w w' := by
  unfold fsremove
  by_cases hn : fpg n F = []
  · rw [if_pos hn]
    refine (fremove_none h n hn).mono ?_
    rintro e w' ⟨rfl, rfl⟩
    exact ⟨rfl, ⟨X, h, fun k hk => .inl hk⟩, Fr.refl _ _⟩
  · rw [if_neg hn]
    refine (fremove_ok h n hn).mono ?_
    rintro e w' ⟨rfl, h1, hf⟩
    exact ⟨rfl, ⟨X, h1, fun k hk => .inl hk⟩, hf⟩
/-- a call on a cache's file system alone -/
theorem CAt.lift (h : CAt w cb fb X room most s) {f : FuncId} {args : Array Value} {v : Value} {left' : Int} {F' : FileL}
    (hc : ∀ XF, FSAt w fb XF room s.left s.F → Calls Tryz.prog f args w fun e w' => e = .returned v ∧ (∃ X', FSAt w' fb X' room left' F' ∧ ∀ k, X' k → XF k ∨ w.heap.size ≤ k) ∧ Fr XF w w') :
    Calls Tryz.prog f args w fun e w' => e = .returned v ∧ (∃ X', CAt w' cb fb X' room most { s with left := left', F := F' } ∧ ∀ k, X' k → X k ∨ w.heap.size ≤ k) ∧ Fr X w w' := by
  obtain ⟨XF, hat, hsub, hl⟩ := h.fs
  refine (hc XF hat).mono ?_
  rintro e w' ⟨rfl, ⟨X', h1, h2⟩, hf⟩
  exact ⟨rfl, hl w' XF X' left' F' hf (fun _ h => h) h1 h2, hf.mono hsub⟩
end
end Go.Proofs.YtkhbemmcegmdaaaGreatDoor
end
section
set_option linter.all false
set_option linter.unusedVariables false
set_option maxRecDepth 100000
namespace Go.Proofs.YtkhbemmcegmdaaaGreatDoor
open Go.RowKit
open Go.ChangeMaps (setBlock)

theorem mapc : Tryz.prog.underlying 59 = some (.map 139 128) := Tryz.underlying59
theorem framep_zero (w : World) : (zeroValue 128).run Tryz.prog w = .ok (.pointer none) w := by simp [Tryz.zeroValue128]
theorem add64_ok {b i : Nat} {x y s : Int} {w : World} (hc : w.cell? ⟨b, i, none⟩ = some (.int .i64 x)) (hz : w.frozen? ⟨b, i, none⟩ = false) (hs : (Op.intArith .add .i64 x y).run Tryz.prog w = .ok (.int .i64 s) w) :
    (callFunc 154 #[.pointer (some ⟨b, i, none⟩), .int .i64 y]).run Tryz.prog w = .ok (.value (.int .i64 s)) (w.setCell ⟨b, i, none⟩ (.int .i64 s)) :=
  run_call_add (P := Tryz.prog) (f := 154) (fn := Tryz.f154) rfl rfl rfl rfl .i64 rfl hc hz hs
section
variable {w w1 : World} {cb fb tb clock most : Nat} {X XF : Nat → Prop} {room left mst clk : Int} {F : FileL} {ME : List (Ent CKey)} {Q : List CF} {s : CSt}
theorem cnone_ok (h : CAt w cb fb X room most s) : Calls Tryz.prog 61 #[.pointer (some ⟨cb, 0, none⟩)] w fun e w' => e = .returned (.bool false) ∧ w = w' := by
  obtain ⟨tb, X1, XF, ME, Q, clock, h, _⟩ := h
  have c0 : w.cell? ⟨cb, 0, none⟩ = some (.pointer (some ⟨fb, 0, none⟩)) := (h.blk.cell 0).trans rfl
  clear h
  go_enter Tryz.func61, Tryz.ntmps61
  go_wp2
  go_ret
  exact ⟨rfl, rfl⟩
theorem cfs_ok (h : CAt w cb fb X room most s) : Calls Tryz.prog 18 #[.pointer (some ⟨cb, 0, none⟩)] w fun e w' => e = .returned (.pointer (some ⟨fb, 0, none⟩)) ∧ w = w' := by
  have HN := hide (cnone_ok h)
  obtain ⟨tb, X1, XF, ME, Q, clock, h, _⟩ := h
  have c0 : w.cell? ⟨cb, 0, none⟩ = some (.pointer (some ⟨fb, 0, none⟩)) := (h.blk.cell 0).trans rfl
  clear h
  go_enter Tryz.func18, Tryz.ntmps18
  go_wp2_with fail
  go_at_call 61
  refine HN.out.mono ?_
  rintro e w1 ⟨rfl, rfl⟩
  go_wp2
  go_ret
  exact ⟨rfl, rfl⟩
theorem cuse_ok (h : CRep w cb fb tb X XF room left F mst ME Q clk clock) {x : CF} (hx : x ∈ Q) (h0 : 0 ≤ clk) (h1 : clk + 1 ≤ 9223372036854775807) : Calls Tryz.prog 86 #[.pointer (some ⟨cb, 0, none⟩), .pointer (some ⟨x.blk, 0, none⟩)] w fun e w' => e = .returned (.tuple #[]) ∧
    w' = (w.setCell ⟨cb, 3, none⟩ (.int .i64 (clk + 1))).setCell ⟨x.blk, 2, none⟩ (.int .i64 (clk + 1)) := by
  have c3 := (h.blk.cell 3).trans rfl
  have f3 := h.blk.frozen 3
  obtain ⟨hb, _, hne, _⟩ := h.frm x hx
  have d2 := ((hb.fr (Fr.one w cb 3 (.int .i64 (clk + 1))) hne).cell 2).trans rfl
  have g2 := (hb.fr (Fr.one w cb 3 (.int .i64 (clk + 1))) hne).frozen 2
  have hs : (Op.intArith .add .i64 clk 1).run Tryz.prog w = .ok (.int .i64 (clk + 1)) w := by
    have : IntKind.i64.wrap (clk + 1) = clk + 1 := by simp only [IntKind.wrap, IntKind.bits, IntKind.signed]; simp; omega
    simp [Op.intArith, this]
  have ha := add64_ok c3 f3 hs
  generalize x.blk = xb at *
  clear h hb hs
  go_enter Tryz.func86, Tryz.ntmps86
  go_wp2
  go_end0
  exact ⟨rfl, rfl⟩
end
end Go.Proofs.YtkhbemmcegmdaaaGreatDoor
end
section
set_option linter.all false
set_option linter.unusedVariables false
set_option maxRecDepth 100000
namespace Go.Proofs.YtkhbemmcegmdaaaGreatDoor
open Go.RowKit
open Go.ChangeMaps (setBlock)

theorem eq_strs (d : Nat) (x y : ByteArray) (w : World) : (Op.equalIn (d + 1) 9 (.string x) (.string y)).run Tryz.prog w = .ok (x == y) w := by
  simp [Op.equalIn, run_underlying (Tryz.underlying9)]
theorem eq_ints (d : Nat) (x y : Int) (w : World) : (Op.equalIn (d + 1) 3 (.int .i64 x) (.int .i64 y)).run Tryz.prog w = .ok (x == y) w := by
  simp [Op.equalIn, run_underlying (Tryz.underlying3)]
theorem part_str (x : Value) (y : Value) (w : World) : (part 9 #[x, y] 0).run Tryz.prog w = .ok x w := run_part_plain w (by kernel_rfl) rfl
theorem part_int (x : Value) (y : Value) (w : World) : (part 3 #[x, y] 1).run Tryz.prog w = .ok y w := run_part_plain w (by kernel_rfl) rfl
theorem stood_ck : Tryz.prog.stoodInHeld 139 = false := by kernel_rfl
theorem eq_ckd (d : Nat) (a b : CKey) (w : World) : (Op.equalIn (d + 1 + 1) 139 (ckey a) (ckey b)).run Tryz.prog w = .ok (decide (a = b)) w := by
  have e1 : ((⟨a.1.toArray⟩ : ByteArray) == ⟨b.1.toArray⟩) = decide (a.1 = b.1) := by
    rw [Bool.eq_iff_iff, MapKept.bytes_beq]
    simp
  have e2 : decide (a = b) = (decide (a.1 = b.1) && decide (a.2 = b.2)) := by
    rw [Bool.eq_iff_iff]
    simp [Prod.ext_iff]
  unfold ckey strk Op.equalIn
  simp only [Sem.run_bind, run_underlying (Tryz.underlying139), Result.andThen]
  simp [part_str, part_int, eq_strs, eq_ints, stood_ck, Result.andThen, e1, e2]
  by_cases h1 : a.1 = b.1
  · by_cases h2 : a.2 = b.2
    · simp [h1, h2, part_int, eq_ints]
    · simp [h1, h2, part_int, eq_ints]
  · simp [h1]
theorem eq_ck (a b : CKey) (w : World) : (Op.equal 139 (ckey a) (ckey b)).run Tryz.prog w = .ok (decide (a = b)) w := eq_ckd 9998 a b w
theorem key_ck : KeyE Tryz.prog 139 ckey where
  check k e w := by
    unfold ckey strk
    have h1 : ∀ s : ByteArray, (Instr.checkKey e 9999 9 (.string s)).run Tryz.prog w = .ok () w := fun s => by
      show (Instr.checkKey e (9998 + 1) 9 (.string s)).run Tryz.prog w = .ok () w
      unfold Instr.checkKey
      simp [run_underlying (Tryz.underlying9)]
    have h2 : ∀ z : Int, (Instr.checkKey e 9999 3 (.int .i64 z)).run Tryz.prog w = .ok () w := fun s => by
      show (Instr.checkKey e (9998 + 1) 3 (.int .i64 s)).run Tryz.prog w = .ok () w
      unfold Instr.checkKey
      simp [run_underlying (Tryz.underlying3)]
    show (Instr.checkKey e (9999 + 1) 139 (.agg #[.string ⟨k.1.toArray⟩, .int .i64 k.2])).run Tryz.prog w = .ok () w
    generalize hn : (9999 : Nat) = n at *
    unfold Instr.checkKey
    simp only [Sem.run_bind, run_underlying (Tryz.underlying139), Result.andThen]
    simp [part_str, part_int, h1, h2, Result.andThen]
  find k L w := by
    rw [run_findKey_eq w (by rw [Tryz.underlying139])]
    have : ∀ (L : List (Ent CKey)) (i : Nat), (Instr.findAsking 139 (ckey k) (L.map (ent ckey)) i).run Tryz.prog w = .ok (look k L i) w := by
      intro L
      induction L with
      | nil => intro i; rfl
      | cons x L ih =>
        intro i
        rw [List.map_cons]
        unfold Instr.findAsking look
        rw [Sem.run_bind, show (ent ckey x).key = ckey x.1 from rfl, eq_ck]
        by_cases h : k = x.1
        · simp [h, Result.andThen, ent]
        · simp [h, Result.andThen, ih]
    exact this L 0
  bits k := by
    unfold ckey strk
    simp [Instr.sameBits, MapKept.bytes_beq]
end Go.Proofs.YtkhbemmcegmdaaaGreatDoor
end
