/- files' Read, in one. -/
import Derived.Test.YtkhbemmcegmdaaaGreatDoorCs
set_option linter.all false
set_option linter.unusedVariables false
set_option maxRecDepth 100000
namespace Go.Proofs.YtkhbemmcegmdaaaGreatDoor
open Go.RowKit

theorem fread_any {w : World} {fb : Nat} {X : Nat → Prop} {room left : Int} {F : FileL} (h : FSAt w fb X room left F) (n : Name) (i : Int) (hl : -1 ≤ left ∧ left ≤ 9223372036854775807) :
    Calls Tryz.prog 36 #[.pointer (some ⟨fb, 0, none⟩), .string ⟨n.toArray⟩, .int .i64 i] w fun e w' => e = .returned (.tuple #[.string ⟨(frd left F n i).2.1.toArray⟩, .int .i64 (frd left F n i).1]) ∧ FSAt w' fb X room (frd left F n i).2.2 F ∧ Fr X w w' := by
  rcases Decidable.em (0 ≤ i ∧ i < ((fpg n F).length : Int)) with hi | hi
  · obtain ⟨j, rfl⟩ : ∃ j : Nat, i = (j : Int) := ⟨i.toNat, by omega⟩
    refine (fread_ok h n j (by omega) hl).mono ?_
    rintro e w' ⟨rfl, h1, h2⟩
    unfold frd
    rw [if_pos hi]
    by_cases h0 : left = 0
    · subst h0
      rw [if_pos rfl, if_pos rfl]
      exact ⟨rfl, h1, h2⟩
    · rw [if_neg h0, if_neg h0]
      exact ⟨by simp, h1, h2⟩
  · refine (fread_none h n i hi).mono ?_
    rintro e w' ⟨rfl, rfl⟩
    unfold frd
    rw [if_neg hi]
    exact ⟨rfl, h, Fr.refl _ _⟩
end Go.Proofs.YtkhbemmcegmdaaaGreatDoor
