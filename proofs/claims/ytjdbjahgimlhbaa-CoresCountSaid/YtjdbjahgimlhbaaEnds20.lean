/- THE CHAPTER's EXAMPLE: cores. -/
import Derived.Test.YtjdbjahgimlhbaaLit
import Derived.Test.YtjdbjahgimlhbaaCCores
set_option linter.unusedVariables false
set_option maxRecDepth 100000
namespace Go.Proofs.Ytjdbjahgimlhbaa.k20
open Go.RowKit

theorem five {w : World} {t1 t2 t3 t4 t5 : TypeId} {c1 c2 c3 c4 c5 : Array Value} (W : World) (hW : W = ((((w.alloc (.cells c1 t1)).alloc (.cells c2 t2)).alloc (.cells c3 t3)).alloc (.cells c4 t4)).alloc (.cells c5 t5)) :
    Fr (fun _ => False) w W ∧ Blk W w.heap.size t1 c1 ∧ Blk W (w.heap.size + 1) t2 c2 ∧ Blk W (w.heap.size + 1 + 1) t3 c3 ∧ Blk W (w.heap.size + 1 + 1 + 1) t4 c4 ∧ Blk W (w.heap.size + 1 + 1 + 1 + 1) t5 c5 := by
  obtain ⟨h1, h2, h3, h4, h5⟩ := four (w := w) _ rfl (t1 := t1) (t2 := t2) (t3 := t3) (t4 := t4) (c1 := c1) (c2 := c2) (c3 := c3) (c4 := c4)
  subst hW
  refine ⟨h1.alloc _, h2.alloc _, h3.alloc _, h4.alloc _, h5.alloc _, ?_⟩
  have := Blk.new ((((w.alloc (.cells c1 t1)).alloc (.cells c2 t2)).alloc (.cells c3 t3)).alloc (.cells c4 t4)) t5 c5
  simpa using this
set_option maxHeartbeats 8000000 in
theorem ends_true (w : World) : Calls Try.prog 37 #[] w fun e w' => e = .returned (.bool true) ∧ Fr (fun _ => False) w w' := by
  go_enter Try.func37, Try.ntmps37
  go_wp2_with fail
  go_at_call 19
  refine (fresh_any 4 _ (by omega)).mono ?_
  rintro e w1 ⟨pa, ga, pb, gb, rfl, hga, hgb, hT, hf⟩
  have HT := hide hT
  have HF := hide hf
  have la := hT.a.row.lt
  have lb := hT.b.row.lt
  clear hT hf
  go_wp2_with fail
  obtain ⟨W2, hW2⟩ : ∃ W2, W2 = ((((w1.alloc (.cells #[.int .i64 1] 3)).alloc (.cells #[.int .i64 2] 3)).alloc (.cells #[.int .i64 0] 3)).alloc (.cells #[.slice (some ⟨w1.heap.size, 0, none⟩) 1 1, .slice (some ⟨w1.heap.size + 1, 0, none⟩) 1 1, .slice (some ⟨w1.heap.size + 1 + 1, 0, none⟩) 1 1, .slice none 0 0] 64)).alloc (.cells #[.int .i64 0, .int .i64 4, .slice (some ⟨w1.heap.size + 1 + 1 + 1, 0, none⟩) 4 4] 45) := ⟨_, rfl⟩
  rw [← hW2]
  have h4 := five W2 hW2
  have F2 := h4.1
  have HT := hide (HT.out.still F2)
  have HF0 := hide (HF.out.then_ F2)
  have stay : Hid (∀ w', Fr (fun k => k = ga ∨ k = gb) W2 w' → LsAt w' [.slice (some ⟨w1.heap.size, 0, none⟩) 1 1, .slice (some ⟨w1.heap.size + 1, 0, none⟩) 1 1, .slice (some ⟨w1.heap.size + 1 + 1, 0, none⟩) 1 1, .slice none 0 0] (some ⟨w1.heap.size + 1 + 1 + 1, 0, none⟩) 4 [[1], [2], [0], []]) := by
    intro w' hF
    exact ls_any (h4.2.2.2.2.1.fr hF (by omega)) rfl (by
      intro i l hl
      match i, hl with
      | 0, hl => obtain rfl := Option.some.inj hl; exact ⟨_, _, rfl, reads_one (h4.2.1.fr hF (by omega)), by simp⟩
      | 1, hl => obtain rfl := Option.some.inj hl; exact ⟨_, _, rfl, reads_one (h4.2.2.1.fr hF (by omega)), by simp⟩
      | 2, hl => obtain rfl := Option.some.inj hl; exact ⟨_, _, rfl, reads_one (h4.2.2.2.1.fr hF (by omega)), by simp⟩
      | 3, hl => obtain rfl := Option.some.inj hl; exact ⟨_, _, rfl, Reads.none_, by simp⟩)
  have cells : Hid (∀ w', Fr (fun k => k = ga ∨ k = gb) W2 w' → w'.cell? ⟨w1.heap.size + 1 + 1 + 1 + 1, 0, none⟩ = some (.int .i64 0) ∧ w'.cell? ⟨w1.heap.size + 1 + 1 + 1 + 1, 1, none⟩ = some (.int .i64 4) ∧ w'.cell? ⟨w1.heap.size + 1 + 1 + 1 + 1, 2, none⟩ = some (.slice (some ⟨w1.heap.size + 1 + 1 + 1, 0, none⟩) 4 4)) := by
    intro w' hF
    have h := h4.2.2.2.2.2.fr hF (by omega)
    exact ⟨(h.cell 0).trans rfl, (h.cell 1).trans rfl, (h.cell 2).trans rfl⟩
  clear hW2 h4 HF F2
  have HF : Hid (Fr (fun k => k = ga ∨ k = gb) W2 W2) := Fr.refl _ _
  go_at_call 38
  refine (cores.begin_ok HT.out rfl 2 rfl).mono ?_
  rintro e w3 ⟨rfl, hT, hf⟩
  have HT := hide (show TwoAt w3 pa ga pb gb [1, 1, 1, 1] [0, 0, 0, 0] from hT)
  have HF := hide (HF.out.trans hf (fun _ h => .inl h))
  obtain ⟨s0, s1, s2⟩ := cells.out _ HF.out
  clear hT hf
  go_wp2_with fail
  go_at_call 39
  refine (cores.shard_ok HT.out rfl (fun w' hf => stay.out w' (HF.out.trans hf (fun _ h => .inl (.inr h)))) (by decide +kernel) 0 (by omega)).mono ?_
  rintro e w4 ⟨rfl, hT, hf⟩
  have HT := hide (show TwoAt w4 pa ga pb gb [1, 1, 1, 1] [2, 2, 2, 0] from hT)
  have HF := hide (HF.out.trans hf (fun _ h => .inl (.inr h)))
  clear hT hf s0 s1 s2
  go_wp2_with fail
  go_at_call 26
  refine (read_any HT.out.b).mono ?_
  rintro e wR ⟨A1, c1, rfl, hr, hf⟩
  have HR := hide hr
  have HT := hide (HT.out.still hf)
  have HF := hide (HF.out.then_ hf)
  clear hr hf
  go_wp2_with fail
  go_at_call 29
  refine (same_lit A1 _ c1 _ _ _ [2,2,2,0] _ _ _ rfl HR.out rfl (by simp)).mono ?_
  rintro e wS ⟨rfl, hf⟩
  have HT := hide (HT.out.still hf)
  have HF := hide (HF.out.then_ hf)
  clear hf HR
  simp only [decide_true]
  go_wp2_with fail
  go_at_call 40
  refine (cores.commit_ok HT.out rfl 2 0 (by omega)).mono ?_
  rintro e w5 ⟨rfl, hT, hf⟩
  have HT := hide (show TwoAt w5 pa ga pb gb [1, 1, 1, 0] [0, 0, 0, 0] from hT)
  have HF := hide (HF.out.trans hf (fun _ h => .inl h))
  clear hT hf
  rw [show cores.cDone 2 [1, 1, 1, 1] [2, 2, 2, 0] = false from rfl]
  go_wp2_with fail
  go_at_call 26
  refine (read_any HT.out.a).mono ?_
  rintro e wR ⟨A1, c1, rfl, hr, hf⟩
  have HR := hide hr
  have HT := hide (HT.out.still hf)
  have HF := hide (HF.out.then_ hf)
  clear hr hf
  go_wp2_with fail
  go_at_call 29
  refine (same_lit A1 _ c1 _ _ _ [1,1,1,0] _ _ _ rfl HR.out rfl (by simp)).mono ?_
  rintro e wS ⟨rfl, hf⟩
  have HT := hide (HT.out.still hf)
  have HF := hide (HF.out.then_ hf)
  clear hf HR
  simp only [decide_true]
  obtain ⟨s0, s1, s2⟩ := cells.out _ HF.out
  go_wp2_with fail
  go_at_call 39
  refine (cores.shard_ok HT.out rfl (fun w' hf => stay.out w' (HF.out.trans hf (fun _ h => .inl (.inr h)))) (by decide +kernel) 1 (by omega)).mono ?_
  rintro e w6 ⟨rfl, hT, hf⟩
  have HT := hide (show TwoAt w6 pa ga pb gb [1, 1, 1, 0] [2, 2, 2, 0] from hT)
  have HF := hide (HF.out.trans hf (fun _ h => .inl (.inr h)))
  clear hT hf s0 s1 s2
  go_wp2_with fail
  go_at_call 40
  refine (cores.commit_ok HT.out rfl 2 1 (by omega)).mono ?_
  rintro e w7 ⟨rfl, hT, hf⟩
  have HT := hide (show TwoAt w7 pa ga pb gb [1, 1, 1, 0] [0, 0, 0, 0] from hT)
  have HF := hide (HF.out.trans hf (fun _ h => .inl h))
  clear hT hf
  rw [show cores.cDone 2 [1, 1, 1, 0] [2, 2, 2, 0] = true from rfl]
  go_wp2_with fail
  go_at_call 38
  refine (cores.begin_bad HT.out (-1) rfl).mono ?_
  rintro e w8 ⟨rfl, hf⟩
  have HF := hide (HF0.out.trans (HF.out.then_ hf) (by rintro k (rfl | rfl) <;> exact .inr (by assumption)))
  clear hf
  go_wp2
  go_ret
  exact ⟨rfl, HF.out⟩
end Go.Proofs.Ytjdbjahgimlhbaa.k20
