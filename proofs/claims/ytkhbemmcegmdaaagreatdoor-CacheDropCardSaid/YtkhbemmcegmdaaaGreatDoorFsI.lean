/- What holds of every file system of these. -/
import Derived.Test.YtkhbemmcegmdaaaGreatDoorFsW
set_option linter.all false
set_option linter.unusedVariables false
set_option maxRecDepth 100000
namespace Go.Proofs.YtkhbemmcegmdaaaGreatDoor
open Go.RowKit

section
variable {room : Int} {F : FileL}
/-- what holds of every file system of these -/
structure FInv (room : Int) (F : FileL) : Prop where
  tot : ((total F : Nat) : Int) ≤ room
  rm : room ≤ 4096
  nam : ∀ p ∈ F, nameB p.1 = true
  pg : ∀ p ∈ F, p.2 ≠ [] ∧ ∀ s ∈ p.2, s.length = 128
theorem nameB_len {n : Name} (h : nameB n = true) : n.length ≤ 8 := by
  unfold nameB at h
  simp only [Bool.and_eq_true, decide_eq_true_eq] at h
  exact h.1.2
theorem total_cons (p : Name × List (List UInt8)) (F : FileL) : total (p :: F) = p.2.length + total F := by simp [total]
theorem FInv.bnd (h : FInv room F) : FBnd F := by
  have h1 : total F ≤ 4096 := by have := h.tot; have := h.rm; omega
  have h2 : ∀ F : FileL, (∀ p ∈ F, p.2 ≠ []) → F.length ≤ total F ∧ ∀ p ∈ F, p.2.length ≤ total F := by
    intro F
    induction F with
    | nil => intro _; simp [total]
    | cons p F ih =>
      intro hp
      obtain ⟨i1, i2⟩ := ih (fun q hq => hp q (List.mem_cons_of_mem _ hq))
      have h0 : 0 < p.2.length := List.length_pos_iff.2 (hp p (by simp))
      rw [total_cons]
      refine ⟨by simp; omega, fun q hq => ?_⟩
      rcases List.mem_cons.1 hq with rfl | hq
      · omega
      · have := i2 q hq; omega
  obtain ⟨h3, h4⟩ := h2 F (fun p hp => (h.pg p hp).1)
  exact ⟨by omega, fun p hp => by have := nameB_len (h.nam p hp); omega, fun p hp => by have := h4 p hp; omega⟩
end
end Go.Proofs.YtkhbemmcegmdaaaGreatDoor
