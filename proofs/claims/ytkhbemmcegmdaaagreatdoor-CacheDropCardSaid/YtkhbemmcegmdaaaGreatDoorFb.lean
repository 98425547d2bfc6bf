/- files' Put, in one. -/
import Derived.Test.YtkhbemmcegmdaaaGreatDoorCp
import Derived.Test.YtkhbemmcegmdaaaGreatDoorFsP
set_option linter.all false
set_option linter.unusedVariables false
set_option maxRecDepth 100000
namespace Go.Proofs.YtkhbemmcegmdaaaGreatDoor
open Go.RowKit

theorem fput_any {w : World} {fb : Nat} {X : Nat → Prop} {room left : Int} {F : FileL} (h : FSAt w fb X room left F) (hI : FInv room F) (n : Name) (i : Int) (s : List UInt8) (hn : n.length ≤ 9223372036854775807) (hs : s.length ≤ 9223372036854775807) :
    Calls Tryz.prog 19 #[.pointer (some ⟨fb, 0, none⟩), .string ⟨n.toArray⟩, .int .i64 i, .string ⟨s.toArray⟩] w fun e w' => e = .returned (.int .i64 (fsput room F n i s).1) ∧ (∃ X', FSAt w' fb X' room left (fsput room F n i s).2 ∧ ∀ k, X' k → X k ∨ w.heap.size ≤ k) ∧ Fr X w w' := by
  unfold fsput
  rcases Decidable.em (nameB n = false ∨ i < 0 ∨ ((fpg n F).length : Int) < i ∨ s.length ≠ 128) with hb | hb
  · rw [if_pos hb]
    refine (fput_bad h n i s hn hs hb).mono ?_
    rintro e w' ⟨rfl, hf⟩
    exact ⟨rfl, ⟨X, h.up hf, fun k hk => .inl hk⟩, hf.mono (fun _ h => h.elim)⟩
  · rw [if_neg hb]
    simp only [not_or, Bool.not_eq_false, Int.not_lt] at hb
    obtain ⟨h1, h2, h3, h4⟩ := hb
    have h4 : s.length = 128 := by simpa using h4
    obtain ⟨j, rfl⟩ : ∃ j : Nat, i = (j : Int) := ⟨i.toNat, by omega⟩
    by_cases hi : (j : Int) < ((fpg n F).length : Int)
    · rw [if_pos hi]
      refine (fput_set h n j s h1 h4 (by omega)).mono ?_
      rintro e w' ⟨rfl, h5, h6⟩
      exact ⟨rfl, by simpa using h5, h6⟩
    · rw [if_neg hi]
      have e : j = (fpg n F).length := by omega
      subst e
      by_cases ht : ((total F : Nat) : Int) = room
      · rw [if_pos ht]
        refine (fput_room h hI n s h1 h4 ht).mono ?_
        rintro e w' ⟨rfl, hf⟩
        exact ⟨rfl, ⟨X, h.up hf, fun k hk => .inl hk⟩, hf.mono (fun _ h => h.elim)⟩
      · rw [if_neg ht]
        refine (fput_more h hI n s h1 h4 (by have := hI.tot; omega)).mono ?_
        rintro e w' ⟨rfl, h5, h6⟩
        exact ⟨rfl, h5, h6⟩
end Go.Proofs.YtkhbemmcegmdaaaGreatDoor
