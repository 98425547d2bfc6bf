/- THE CHAPTER's EXAMPLE: kernels. -/
import Derived.Test.YtjdbjahgimlhbaaKRun
import Derived.Test.YtjdbjahgimlhbaaKBad
import Derived.Test.YtjdbjahgimlhbaaLit
set_option linter.unusedVariables false
set_option maxRecDepth 100000
namespace Go.Proofs.Ytjdbjahgimlhbaa.k21
open Go.RowKit
open Gr (E T)

theorem nine {w : World} {t1 t2 t3 t4 t5 t6 t7 t8 t9 : TypeId} {c1 c2 c3 c4 c5 c6 c7 c8 c9 : Array Value} (W : World) (hW : W = (((((((((w.alloc (.cells c1 t1)).alloc (.cells c2 t2)).alloc (.cells c3 t3)).alloc (.cells c4 t4)).alloc (.cells c5 t5)).alloc (.cells c6 t6)).alloc (.cells c7 t7)).alloc (.cells c8 t8)).alloc (.cells c9 t9))) :
    Fr (fun _ => False) w W ∧ Blk W (w.heap.size) t1 c1 ∧ Blk W (w.heap.size + 1) t2 c2 ∧ Blk W (w.heap.size + 1 + 1) t3 c3 ∧ Blk W (w.heap.size + 1 + 1 + 1) t4 c4 ∧ Blk W (w.heap.size + 1 + 1 + 1 + 1) t5 c5 ∧ Blk W (w.heap.size + 1 + 1 + 1 + 1 + 1) t6 c6 ∧ Blk W (w.heap.size + 1 + 1 + 1 + 1 + 1 + 1) t7 c7 ∧ Blk W (w.heap.size + 1 + 1 + 1 + 1 + 1 + 1 + 1) t8 c8 ∧ Blk W (w.heap.size + 1 + 1 + 1 + 1 + 1 + 1 + 1 + 1) t9 c9 := by
  subst hW
  refine ⟨((((((((((Fr.refl _ _).alloc _).alloc _).alloc _).alloc _).alloc _).alloc _).alloc _).alloc _).alloc _), ?_, ?_, ?_, ?_, ?_, ?_, ?_, ?_, ?_⟩
  · have := (((((((((Blk.new w t1 c1).alloc (.cells c2 t2)).alloc (.cells c3 t3)).alloc (.cells c4 t4)).alloc (.cells c5 t5)).alloc (.cells c6 t6)).alloc (.cells c7 t7)).alloc (.cells c8 t8)).alloc (.cells c9 t9))
    simpa using this
  · have := ((((((((Blk.new (w.alloc (.cells c1 t1)) t2 c2).alloc (.cells c3 t3)).alloc (.cells c4 t4)).alloc (.cells c5 t5)).alloc (.cells c6 t6)).alloc (.cells c7 t7)).alloc (.cells c8 t8)).alloc (.cells c9 t9))
    simpa using this
  · have := (((((((Blk.new ((w.alloc (.cells c1 t1)).alloc (.cells c2 t2)) t3 c3).alloc (.cells c4 t4)).alloc (.cells c5 t5)).alloc (.cells c6 t6)).alloc (.cells c7 t7)).alloc (.cells c8 t8)).alloc (.cells c9 t9))
    simpa using this
  · have := ((((((Blk.new (((w.alloc (.cells c1 t1)).alloc (.cells c2 t2)).alloc (.cells c3 t3)) t4 c4).alloc (.cells c5 t5)).alloc (.cells c6 t6)).alloc (.cells c7 t7)).alloc (.cells c8 t8)).alloc (.cells c9 t9))
    simpa using this
  · have := (((((Blk.new ((((w.alloc (.cells c1 t1)).alloc (.cells c2 t2)).alloc (.cells c3 t3)).alloc (.cells c4 t4)) t5 c5).alloc (.cells c6 t6)).alloc (.cells c7 t7)).alloc (.cells c8 t8)).alloc (.cells c9 t9))
    simpa using this
  · have := ((((Blk.new (((((w.alloc (.cells c1 t1)).alloc (.cells c2 t2)).alloc (.cells c3 t3)).alloc (.cells c4 t4)).alloc (.cells c5 t5)) t6 c6).alloc (.cells c7 t7)).alloc (.cells c8 t8)).alloc (.cells c9 t9))
    simpa using this
  · have := (((Blk.new ((((((w.alloc (.cells c1 t1)).alloc (.cells c2 t2)).alloc (.cells c3 t3)).alloc (.cells c4 t4)).alloc (.cells c5 t5)).alloc (.cells c6 t6)) t7 c7).alloc (.cells c8 t8)).alloc (.cells c9 t9))
    simpa using this
  · have := ((Blk.new (((((((w.alloc (.cells c1 t1)).alloc (.cells c2 t2)).alloc (.cells c3 t3)).alloc (.cells c4 t4)).alloc (.cells c5 t5)).alloc (.cells c6 t6)).alloc (.cells c7 t7)) t8 c8).alloc (.cells c9 t9))
    simpa using this
  · have := (Blk.new ((((((((w.alloc (.cells c1 t1)).alloc (.cells c2 t2)).alloc (.cells c3 t3)).alloc (.cells c4 t4)).alloc (.cells c5 t5)).alloc (.cells c6 t6)).alloc (.cells c7 t7)).alloc (.cells c8 t8)) t9 c9)
    simpa using this
theorem ls_nil {w : World} {B C : Nat} {x : Int} (hB : Blk w B 64 #[.slice (some ⟨C, 0, none⟩) 1 1, .slice none 0 0]) (hC : Blk w C 3 #[.int .i64 x]) :
    LsAt w [.slice (some ⟨C, 0, none⟩) 1 1, .slice none 0 0] (some ⟨B, 0, none⟩) 2 [[x], []] := by
  refine ⟨rfl, Reads.blk hB rfl, fun i l hl => ?_⟩
  match i, hl with
  | 0, hl => obtain rfl := Option.some.inj hl; exact ⟨_, _, rfl, reads_one hC, by simp⟩
  | 1, hl => obtain rfl := Option.some.inj hl; exact ⟨none, 0, rfl, Reads.none_, by simp⟩
theorem shs_two {w : World} {K B n c1 c2 m1 m2 : Nat} {f1 t1 f2 t2 : Int} {A1 A2 : Option Addr} {L1 L2 : List (List Int)} {vs1 vs2 : List Value} {ty : TypeId}
    (hB : Blk w B ty #[.int .i64 f1, .int .i64 t1, .slice A1 m1 c1, .int .i64 f2, .int .i64 t2, .slice A2 m2 c2]) (hK : K ≤ w.heap.size) (hb : B < K) (fit1 : fitsB f1 t1 n L1 = true) (fit2 : fitsB f2 t2 n L2 = true)
    (s1 : ∀ (S : Nat → Prop) w', Fr S w w' → (∀ k, S k → K ≤ k) → LsAt w' vs1 A1 m1 L1) (s2 : ∀ (S : Nat → Prop) w', Fr S w w' → (∀ k, S k → K ≤ k) → LsAt w' vs2 A2 m2 L2) :
    ShsAt w K (some ⟨B, 0, none⟩) 2 n [edgs f1 L1, edgs f2 L2] := by
  refine ⟨rfl, hK, fun i hi => ?_⟩
  match i, hi with
  | 0, _ => exact ⟨B, 0, f1, t1, A1, m1, c1, vs1, L1, rfl, hb, (hB.cell _).trans rfl, (hB.cell _).trans rfl, (hB.cell _).trans rfl, fit1, rfl, s1⟩
  | 1, _ => exact ⟨B, 0, f2, t2, A2, m2, c2, vs2, L2, rfl, hb, (hB.cell _).trans rfl, (hB.cell _).trans rfl, (hB.cell _).trans rfl, fit2, rfl, s2⟩
def sh1 : List T := edgs 0 [[1], [2]]
def sh2 : List T := edgs 2 [[0], []]
theorem stop12 : stopAt (kdn (kdOf 1 0) 4 [sh1, sh2]) (bnd 1 0 4) = 3 := by decide +kernel
theorem stop21 : stopAt (kdn (kdOf 1 0) 4 [sh2, sh1]) (bnd 1 0 4) = 3 := by decide +kernel
theorem out12 : (kst (kdOf 1 0) 4 [sh1, sh2] 3).1 = [0, 1, 2, 18446744073709551615] := by decide +kernel
theorem out21 : (kst (kdOf 1 0) 4 [sh2, sh1] 3).1 = [0, 1, 2, 18446744073709551615] := by decide +kernel
theorem run12 (A : Option Addr) (c : Nat) (w : World) (hS : ShsAt w w.heap.size A 2 4 [sh1, sh2]) :
    Calls Try.prog 46 #[.agg #[.int .i64 1, .int .i64 0, .int .i64 0, .int .i64 0], .int .i64 4, .slice A 2 c] w fun e w' => ∃ B d, e = .returned (.tuple #[.slice B 4 d, .int .i64 3, .int .i64 0]) ∧ ReadsIn w' w.heap.size 1 B 4 (([0, 1, 2, 18446744073709551615] : List Nat).map u64v) ∧ Fr (fun _ => False) w w' := by
  have h := run_any 1 0 0 4 2 c 0 A [sh1, sh2] w (by omega) (.inl ⟨rfl, by omega⟩) (by omega) (by omega) (by omega) hS
  rw [stop12, out12] at h
  exact h
theorem run21 (A : Option Addr) (c : Nat) (w : World) (hS : ShsAt w w.heap.size A 2 4 [sh2, sh1]) :
    Calls Try.prog 46 #[.agg #[.int .i64 1, .int .i64 0, .int .i64 0, .int .i64 0], .int .i64 4, .slice A 2 c] w fun e w' => ∃ B d, e = .returned (.tuple #[.slice B 4 d, .int .i64 3, .int .i64 0]) ∧ ReadsIn w' w.heap.size 1 B 4 (([0, 1, 2, 18446744073709551615] : List Nat).map u64v) ∧ Fr (fun _ => False) w w' := by
  have h := run_any 1 0 0 4 2 c 0 A [sh2, sh1] w (by omega) (.inl ⟨rfl, by omega⟩) (by omega) (by omega) (by omega) hS
  rw [stop21, out21] at h
  exact h
theorem runfar (w : World) : Calls Try.prog 46 #[.agg #[.int .i64 1, .int .i64 4, .int .i64 0, .int .i64 0], .int .i64 4, .slice none 0 0] w fun e w' => e = .returned (.tuple #[.slice none 0 0, .int .i64 0, .int .i64 2]) ∧ Fr (fun _ => False) w w' :=
  run_bad (k := 1) (arg := 4) (prio := 0) (need := 0) 4 none 0 0 (fun W => tcheck_far 4 0 4 0 (by omega) (by omega) (by omega) (by omega) W)
set_option maxHeartbeats 8000000 in
theorem turns_true (w : World) : Calls Try.prog 44 #[] w fun e w' => e = .returned (.bool true) ∧ Fr (fun _ => False) w w' := by
  obtain ⟨W9, hW9⟩ : ∃ W9, W9 = (((((((((w.alloc (.cells #[.int .i64 1] 3)).alloc (.cells #[.int .i64 2] 3)).alloc (.cells #[.slice (some ⟨w.heap.size, 0, none⟩) 1 1, .slice (some ⟨w.heap.size + 1, 0, none⟩) 1 1] 64)).alloc (.cells #[.int .i64 0, .int .i64 2, .slice (some ⟨w.heap.size + 1 + 1, 0, none⟩) 2 2] 45)).alloc (.cells #[.int .i64 0] 3)).alloc (.cells #[.slice (some ⟨w.heap.size + 1 + 1 + 1 + 1, 0, none⟩) 1 1, .slice none 0 0] 64)).alloc (.cells #[.int .i64 2, .int .i64 4, .slice (some ⟨w.heap.size + 1 + 1 + 1 + 1 + 1, 0, none⟩) 2 2] 45)).alloc (.cells #[.int .i64 1, .int .i64 0, .int .i64 0, .int .i64 0] 76)).alloc (.cells #[.int .i64 0, .int .i64 2, .slice (some ⟨w.heap.size + 1 + 1, 0, none⟩) 2 2, .int .i64 2, .int .i64 4, .slice (some ⟨w.heap.size + 1 + 1 + 1 + 1 + 1, 0, none⟩) 2 2] 45)) := ⟨_, rfl⟩
  obtain ⟨h0, k0, k1, k2, k3, k4, k5, k6, k7, k8⟩ := nine W9 hW9
  have sz : W9.heap.size = w.heap.size + 9 := by rw [hW9]; simp
  have H0 := hide h0
  have HL1 := hide (fun (K : Nat) (hK : w.heap.size + 9 ≤ K) (S : Nat → Prop) w' (hf : Fr S W9 w') (hs : ∀ k, S k → K ≤ k) => (ls_two (k2.fr hf (fun h => by have := hs _ h; omega)) (k0.fr hf (fun h => by have := hs _ h; omega)) (k1.fr hf (fun h => by have := hs _ h; omega))))
  have HL2 := hide (fun (K : Nat) (hK : w.heap.size + 9 ≤ K) (S : Nat → Prop) w' (hf : Fr S W9 w') (hs : ∀ k, S k → K ≤ k) => (ls_nil (k5.fr hf (fun h => by have := hs _ h; omega)) (k4.fr hf (fun h => by have := hs _ h; omega))))
  have HS1 := hide (show ShsAt W9 W9.heap.size (some ⟨w.heap.size + 1 + 1 + 1 + 1 + 1 + 1 + 1 + 1, 0, none⟩) 2 4 [sh1, sh2] from shs_two k8 (Nat.le_refl _) (by omega) (by decide +kernel) (by decide +kernel) (fun S w' hf hs => HL1.out W9.heap.size (by omega) S w' hf hs) (fun S w' hf hs => HL2.out W9.heap.size (by omega) S w' hf hs))
  have K3 := hide k3
  have K6 := hide k6
  have K7 := hide k7
  have HZ := hide hW9
  clear h0 k0 k1 k2 k3 k4 k5 k6 k7 k8 hW9
  go_enter Try.func44, Try.ntmps44
  go_wp2_with fail
  rw [← HZ.out]
  go_at_call 46
  refine (run12 _ _ _ HS1.out).mono ?_
  rintro e w1 ⟨B1, d1, rfl, hR, hf⟩
  have HR1 := hide hR
  have HF1 := hide hf
  have s1 := hf.size
  have x0 := (K7.out.fr hf id).cell 0 |>.trans rfl
  have x1 := (K7.out.fr hf id).cell 1 |>.trans rfl
  have x2 := (K7.out.fr hf id).cell 2 |>.trans rfl
  have x3 := (K7.out.fr hf id).cell 3 |>.trans rfl
  have y0 := (K3.out.fr hf id).cell 0 |>.trans rfl
  have y1 := (K3.out.fr hf id).cell 1 |>.trans rfl
  have y2 := (K3.out.fr hf id).cell 2 |>.trans rfl
  have z0 := (K6.out.fr hf id).cell 0 |>.trans rfl
  have z1 := (K6.out.fr hf id).cell 1 |>.trans rfl
  have z2 := (K6.out.fr hf id).cell 2 |>.trans rfl
  obtain ⟨W10, hW10⟩ : ∃ W10, W10 = w1.alloc (.cells #[.int .i64 2, .int .i64 4, .slice (some ⟨w.heap.size + 1 + 1 + 1 + 1 + 1, 0, none⟩) 2 2, .int .i64 0, .int .i64 2, .slice (some ⟨w.heap.size + 1 + 1, 0, none⟩) 2 2] 45) := ⟨_, rfl⟩
  have F10 : Fr (fun _ => False) w1 W10 := by rw [hW10]; exact (Fr.refl _ _).alloc _
  have b10 : Blk W10 w1.heap.size 45 #[.int .i64 2, .int .i64 4, .slice (some ⟨w.heap.size + 1 + 1 + 1 + 1 + 1, 0, none⟩) 2 2, .int .i64 0, .int .i64 2, .slice (some ⟨w.heap.size + 1 + 1, 0, none⟩) 2 2] := by rw [hW10]; exact Blk.new _ _ _
  have lt10 := b10.lt
  have HF10 := hide (HF1.out.then_ F10)
  have HS2 := hide (show ShsAt W10 W10.heap.size (some ⟨w1.heap.size, 0, none⟩) 2 4 [sh2, sh1] from shs_two b10 (Nat.le_refl _) lt10 (by decide +kernel) (by decide +kernel)
    (fun S w' hf hs => HL2.out W10.heap.size (by omega) S w' ((HF10.out.mono (fun k h => h.elim)).trans hf (fun k h => .inl h)) hs) (fun S w' hf hs => HL1.out W10.heap.size (by omega) S w' ((HF10.out.mono (fun k h => h.elim)).trans hf (fun k h => .inl h)) hs))
  have HZ2 := hide hW10
  have HRX := hide (HR1.out.fr F10 (fun k h => h.elim))
  clear hf hR b10 F10 hW10
  go_wp2_with fail
  rw [← HZ2.out]
  go_at_call 46
  refine (run21 _ _ _ HS2.out).mono ?_
  rintro e w2 ⟨B2, d2, rfl, hR, hf⟩
  have HR2 := hide hR
  have HRY := hide (HRX.out.fr hf (fun k h => h.elim))
  have HF2 := hide (HF10.out.then_ hf)
  clear hf hR x0 x1 x2 x3 y0 y1 y2 z0 z1 z2
  go_wp2_with fail
  go_at_call 46
  refine (runfar _).mono ?_
  rintro e w3 ⟨rfl, hf⟩
  have HR3 := hide (HR2.out.fr hf (fun k h => h.elim))
  have HRZ := hide (HRY.out.fr hf (fun k h => h.elim))
  have HF3 := hide (HF2.out.then_ hf)
  clear hf
  go_wp2_with fail
  go_at_call 29
  refine (same_lit B1 _ d1 _ _ _ [0, 1, 2, 18446744073709551615] _ _ _ rfl HRZ.out.reads rfl (by omega)).mono ?_
  rintro e w4 ⟨rfl, hf⟩
  have HR4 := hide (HR3.out.fr hf (fun k h => h.elim))
  have HRA := hide (HRZ.out.fr hf (fun k h => h.elim))
  have HF4 := hide (HF3.out.then_ hf)
  clear hf
  simp only [decide_true]
  go_wp2_with fail
  go_at_call 29
  refine (same_eq B2 B1 4 d2 4 d1 _ _ _ HR4.out.reads HRA.out.reads (by omega)).mono ?_
  rintro e w5 ⟨rfl, hf⟩
  have HF5 := hide (H0.out.then_ (HF4.out.then_ hf))
  clear hf
  go_wp2
  go_ret
  exact ⟨rfl, HF5.out⟩
end Go.Proofs.Ytjdbjahgimlhbaa.k21
