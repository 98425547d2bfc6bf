/- THE CHAPTER's EXAMPLE: rank. -/
import Derived.Test.YtjdbjahgimlhbaaLit
import Derived.Test.YtjdbjahgimlhbaaRank
set_option linter.unusedVariables false
set_option maxRecDepth 100000
namespace Go.Proofs.Ytjdbjahgimlhbaa.k18
open Go.RowKit

set_option maxHeartbeats 8000000 in
theorem ends_true (w : World) : Calls Try.prog 16 #[] w fun e w' => e = .returned (.bool true) ∧ Fr (fun _ => False) w w' := by
  go_enter Try.func16, Try.ntmps16
  go_wp2_with fail
  go_at_call 19
  refine (fresh_any 2 _ (by omega)).mono ?_
  rintro e w1 ⟨pa, ga, pb, gb, rfl, hga, hgb, hT, hf⟩
  have HT := hide hT
  have HF := hide hf
  have la := hT.a.row.lt
  have lb := hT.b.row.lt
  clear hT hf
  go_wp2_with fail
  obtain ⟨W2, hW2⟩ : ∃ W2, W2 = (((w1.alloc (.cells #[.int .i64 1] 3)).alloc (.cells #[.int .i64 0] 3)).alloc (.cells #[.slice (some ⟨w1.heap.size, 0, none⟩) 1 1, .slice (some ⟨w1.heap.size + 1, 0, none⟩) 1 1] 64)).alloc (.cells #[.int .i64 0, .int .i64 2, .slice (some ⟨w1.heap.size + 1 + 1, 0, none⟩) 2 2] 45) := ⟨_, rfl⟩
  rw [← hW2]
  have h4 := four W2 hW2
  have HB := hide h4
  have HT := hide (HT.out.still h4.1)
  have HF0 := hide (HF.out.then_ h4.1)
  have stay : Hid (∀ w', Fr (fun k => k = ga ∨ k = gb) W2 w' → LsAt w' [.slice (some ⟨w1.heap.size, 0, none⟩) 1 1, .slice (some ⟨w1.heap.size + 1, 0, none⟩) 1 1] (some ⟨w1.heap.size + 1 + 1, 0, none⟩) 2 [[1], [0]]) := by
    intro w' hF
    exact ls_two (h4.2.2.2.1.fr hF (by omega)) (h4.2.1.fr hF (by omega)) (h4.2.2.1.fr hF (by omega))
  have cells : Hid (∀ w', Fr (fun k => k = ga ∨ k = gb) W2 w' → w'.cell? ⟨w1.heap.size + 1 + 1 + 1, 0, none⟩ = some (.int .i64 0) ∧ w'.cell? ⟨w1.heap.size + 1 + 1 + 1, 1, none⟩ = some (.int .i64 2) ∧ w'.cell? ⟨w1.heap.size + 1 + 1 + 1, 2, none⟩ = some (.slice (some ⟨w1.heap.size + 1 + 1, 0, none⟩) 2 2)) := by
    intro w' hF
    have h := h4.2.2.2.2.fr hF (by omega)
    exact ⟨(h.cell 0).trans rfl, (h.cell 1).trans rfl, (h.cell 2).trans rfl⟩
  clear hW2 h4 HF HB
  have HF : Hid (Fr (fun k => k = ga ∨ k = gb) W2 W2) := Fr.refl _ _
  go_at_call 20
  refine (rank.begin_ok HT.out rfl 2 rfl).mono ?_
  rintro e w3 ⟨rfl, hT, hf⟩
  have HT := hide (show TwoAt w3 pa ga pb gb [4294967296, 4294967296] [0, 0] from hT)
  have HF := hide (HF.out.trans hf (fun _ h => .inl h))
  obtain ⟨s0, s1, s2⟩ := cells.out _ HF.out
  clear hT hf
  go_wp2_with fail
  go_at_call 22
  refine (rank.shard_ok HT.out rfl (fun w' hf => stay.out w' (HF.out.trans hf (fun _ h => .inl (.inr h)))) (by decide +kernel) 0 (by omega)).mono ?_
  rintro e w4 ⟨rfl, hT, hf⟩
  have HT := hide (show TwoAt w4 pa ga pb gb [4294967296, 4294967296] [4294967296, 4294967296] from hT)
  have HF := hide (HF.out.trans hf (fun _ h => .inl (.inr h)))
  clear hT hf s0 s1 s2
  go_wp2_with fail
  go_at_call 26
  refine (read_any HT.out.b).mono ?_
  rintro e wR ⟨A1, c1, rfl, hr, hf⟩
  have HR := hide hr
  have HT := hide (HT.out.still hf)
  have HF := hide (HF.out.then_ hf)
  clear hr hf
  go_wp2_with fail
  go_at_call 29
  refine (same_lit A1 _ c1 _ _ _ [4294967296, 4294967296] _ _ _ rfl HR.out rfl (by simp)).mono ?_
  rintro e wS ⟨rfl, hf⟩
  have HT := hide (HT.out.still hf)
  have HF := hide (HF.out.then_ hf)
  clear hf HR
  simp only [decide_true]
  go_wp2_with fail
  go_at_call 23
  refine (rank.commit_two HT.out rfl 0 (.inl rfl)).mono ?_
  rintro e w5 ⟨rfl, hT, hf⟩
  have HT := hide (show TwoAt w5 pa ga pb gb [4294967295, 4294967295] [0, 0] from hT)
  have HF := hide (HF.out.trans hf (fun _ h => .inl h))
  clear hT hf
  rw [show decide ((0 : Int) = 1) = false from rfl]
  go_wp2_with fail
  go_at_call 26
  refine (read_any HT.out.a).mono ?_
  rintro e wR ⟨A1, c1, rfl, hr, hf⟩
  have HR := hide hr
  have HT := hide (HT.out.still hf)
  have HF := hide (HF.out.then_ hf)
  clear hr hf
  go_wp2_with fail
  go_at_call 29
  refine (same_lit A1 _ c1 _ _ _ [4294967295, 4294967295] _ _ _ rfl HR.out rfl (by simp)).mono ?_
  rintro e wS ⟨rfl, hf⟩
  have HT := hide (HT.out.still hf)
  have HF := hide (HF.out.then_ hf)
  clear hf HR
  simp only [decide_true]
  go_wp2_with fail
  go_at_call 26
  refine (read_any HT.out.b).mono ?_
  rintro e wR ⟨A1, c1, rfl, hr, hf⟩
  have HR := hide hr
  have HT := hide (HT.out.still hf)
  have HF := hide (HF.out.then_ hf)
  clear hr hf
  go_wp2_with fail
  go_at_call 29
  refine (same_lit A1 _ c1 _ _ _ [0, 0] _ _ _ rfl HR.out rfl (by simp)).mono ?_
  rintro e wS ⟨rfl, hf⟩
  have HT := hide (HT.out.still hf)
  have HF := hide (HF.out.then_ hf)
  clear hf HR
  simp only [decide_true]
  go_wp2_with fail
  go_at_call 23
  refine (rank.commit_two HT.out rfl 1 (.inr rfl)).mono ?_
  rintro e w6 ⟨rfl, hT, hf⟩
  have HT := hide (show TwoAt w6 pa ga pb gb [644245094, 644245094] [0, 0] from hT)
  have HF := hide (HF.out.trans hf (fun _ h => .inl h))
  clear hT hf
  rw [show decide ((1 : Int) = 1) = true from rfl]
  go_wp2_with fail
  go_at_call 26
  refine (read_any HT.out.a).mono ?_
  rintro e wR ⟨A1, c1, rfl, hr, hf⟩
  have HR := hide hr
  have HT := hide (HT.out.still hf)
  have HF := hide (HF.out.then_ hf)
  clear hr hf
  go_wp2_with fail
  go_at_call 29
  refine (same_lit A1 _ c1 _ _ _ [644245094, 644245094] _ _ _ rfl HR.out rfl (by simp)).mono ?_
  rintro e wS ⟨rfl, hf⟩
  have HT := hide (HT.out.still hf)
  have HF := hide (HF.out.then_ hf)
  clear hf HR
  simp only [decide_true]
  go_wp2_with fail
  go_at_call 20
  refine (rank.begin_bad HT.out 65 rfl).mono ?_
  rintro e w7 ⟨rfl, hf⟩
  have HF := hide (HF0.out.trans (HF.out.then_ hf) (by rintro k (rfl | rfl) <;> exact .inr (by assumption)))
  clear hf
  go_wp2
  go_ret
  exact ⟨rfl, HF.out⟩
end Go.Proofs.Ytjdbjahgimlhbaa.k18
