/- files' Write, Fail, Flip, Remove, each in one; and under a cache. -/
import Derived.Test.YtkhbemmcegmdaaaGreatDoorFw
import Derived.Test.YtkhbemmcegmdaaaGreatDoorFx
import Derived.Test.YtkhbemmcegmdaaaGreatDoorFb
set_option linter.all false
set_option linter.unusedVariables false
set_option maxRecDepth 100000
namespace Go.Proofs.YtkhbemmcegmdaaaGreatDoor
open Go.RowKit

section
variable {w : World} {fb cb most : Nat} {X : Nat → Prop} {room left : Int} {F : FileL} {s : CSt}
theorem fwrite_any (h : FSAt w fb X room left F) (hI : FInv room F) (n : Name) (hn : n.length ≤ 9223372036854775807) (A : Option Addr) (c B : Nat) (pg : List (List UInt8)) (hr : Reads w B 1 A pg.length (pg.map strv)) (hB : B ≤ w.heap.size) (hl : ∀ s ∈ pg, s.length = 128) (hm : pg.length ≤ 100000) (hne : pg ≠ []) :
    Calls Tryz.prog 55 #[.pointer (some ⟨fb, 0, none⟩), .string ⟨n.toArray⟩, .slice A pg.length c] w fun e w' => e = .returned (.int .i64 (fswrite room F n pg).1) ∧ (∃ X', FSAt w' fb X' room left (fswrite room F n pg).2 ∧ ∀ k, X' k → X k ∨ w.heap.size ≤ k) ∧ Fr X w w' := by
  unfold fswrite
  cases hnb : nameB n with
  | false =>
    rw [if_pos rfl]
    refine (fwrite_bad h n A _ c hn hnb).mono ?_
    rintro e w' ⟨rfl, hf⟩
    exact ⟨rfl, ⟨X, h.up hf, fun k hk => .inl hk⟩, hf.mono (fun _ h => h.elim)⟩
  | true =>
    rw [if_neg (by simp)]
    by_cases hfit : room - ((total F : Nat) : Int) + ((fpg n F).length : Int) < (pg.length : Int)
    · rw [if_pos hfit]
      refine (fwrite_room h hI n hnb A _ c B pg hr hB hl hm hfit).mono ?_
      rintro e w' ⟨rfl, hf⟩
      exact ⟨rfl, ⟨X, h.up hf, fun k hk => .inl hk⟩, hf.mono (fun _ h => h.elim)⟩
    · rw [if_neg hfit]
      exact fwrite_ok h hI n hnb A _ c B pg hr hB hl hm hne hfit
theorem ffail_any (h : FSAt w fb X room left F) (i : Int) :
    Calls Tryz.prog 22 #[.pointer (some ⟨fb, 0, none⟩), .int .i64 i] w fun e w' => e = .returned (.int .i64 (fsfail left i).1) ∧ (∃ X', FSAt w' fb X' room (fsfail left i).2 F ∧ ∀ k, X' k → X k ∨ w.heap.size ≤ k) ∧ Fr X w w' := by
  unfold fsfail
  by_cases hi : i < 0
  · rw [if_pos hi]
    refine (ffail_bad h i hi).mono ?_
    rintro e w' ⟨rfl, rfl⟩
    exact ⟨rfl, ⟨X, h, fun k hk => .inl hk⟩, Fr.refl _ _⟩
  · rw [if_neg hi]
    refine (ffail_ok h i (by omega)).mono ?_
    rintro e w' ⟨rfl, h1, hf⟩
    exact ⟨rfl, ⟨X, h1, fun k hk => .inl hk⟩, hf⟩
theorem fflip_any (h : FSAt w fb X room left F) (hI : FInv room F) (n : Name) (i : Int) (x : UInt8) :
    Calls Tryz.prog 67 #[.pointer (some ⟨fb, 0, none⟩), .string ⟨n.toArray⟩, .int .i64 i, .int .i64 2, .int .u8 (x.toNat : Int)] w fun e w' => e = .returned (.int .i64 (fsflip F n i x).1) ∧ (∃ X', FSAt w' fb X' room left (fsflip F n i x).2 ∧ ∀ k, X' k → X k ∨ w.heap.size ≤ k) ∧ Fr X w w' := by
  unfold fsflip
  rcases Decidable.em (0 ≤ i ∧ i < ((fpg n F).length : Int)) with hi | hi
  · obtain ⟨j, rfl⟩ : ∃ j : Nat, i = (j : Int) := ⟨i.toNat, by omega⟩
    rw [if_pos hi]
    refine (fflip_ok h hI n j x (by omega)).mono ?_
    rintro e w' ⟨rfl, h1, hf⟩
    exact ⟨rfl, by simpa using h1, hf⟩
  · rw [if_neg hi]
    refine (fflip_none h n i _ hi).mono ?_
    rintro e w' ⟨rfl, rfl⟩
    exact ⟨rfl, ⟨X, h, fun k hk => .inl hk⟩, Fr.refl _ _⟩
theorem fremove_any (h : FSAt w fb X room left F) (n : Name) :
    Calls Tryz.prog 68 #[.pointer (some ⟨fb, 0, none⟩), .string ⟨n.toArray⟩] w fun e w' => e = .returned (.int .i64 (fsremove F n).1) ∧ (∃ X', FSAt w' fb X' room left (fsremove F n).2 ∧ ∀ k, X' k → X k ∨ w.heap.size ≤ k) ∧ Fr X w w' := by
  unfold fsremove
  by_cases hn : fpg n F = []
  · rw [if_pos hn]
    refine (fremove_none h n hn).mono ?_
    rintro e w' ⟨rfl, rfl⟩
    exact ⟨rfl, ⟨X, h, fun k hk => .inl hk⟩, Fr.refl _ _⟩
  · rw [if_neg hn]
    refine (fremove_ok h n hn).mono ?_
    rintro e w' ⟨rfl, h1, hf⟩
    exact ⟨rfl, ⟨X, h1, fun k hk => .inl hk⟩, hf⟩
/-- a call on a cache's file system alone -/
theorem CAt.lift (h : CAt w cb fb X room most s) {f : FuncId} {args : Array Value} {v : Value} {left' : Int} {F' : FileL}
    (hc : ∀ XF, FSAt w fb XF room s.left s.F → Calls Tryz.prog f args w fun e w' => e = .returned v ∧ (∃ X', FSAt w' fb X' room left' F' ∧ ∀ k, X' k → XF k ∨ w.heap.size ≤ k) ∧ Fr XF w w') :
    Calls Tryz.prog f args w fun e w' => e = .returned v ∧ (∃ X', CAt w' cb fb X' room most { s with left := left', F := F' } ∧ ∀ k, X' k → X k ∨ w.heap.size ≤ k) ∧ Fr X w w' := by
  obtain ⟨XF, hat, hsub, hl⟩ := h.fs
  refine (hc XF hat).mono ?_
  rintro e w' ⟨rfl, ⟨X', h1, h2⟩, hf⟩
  exact ⟨rfl, hl w' XF X' left' F' hf (fun _ h => h) h1 h2, hf.mono hsub⟩
end
end Go.Proofs.YtkhbemmcegmdaaaGreatDoor
