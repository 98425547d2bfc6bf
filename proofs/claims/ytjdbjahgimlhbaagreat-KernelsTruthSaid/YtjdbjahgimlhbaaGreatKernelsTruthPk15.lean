/- Parts of the proof of KernelsTruth: no conditions of their own. -/
import Derived.Test.YtjdbjahgimlhbaaGreatKernelsTruthPk13
import Derived.Test.YtjdbjahgimlhbaaGreatKernelsTruthPk14
import Derived.Test.YtjdbjahgimlhbaaGreatKernelsTruthPk7
import Derived.Test.YtjdbjahgimlhbaaGreatKernelsTruthPk10
import Derived.Test.YtjdbjahgimlhbaaGreatKernelsTruthPk11
section
set_option linter.unusedVariables false
set_option maxRecDepth 100000
namespace Go.Proofs.YtjdbjahgimlhbaaGreat.k21
open Go.RowKit
open Gr (E T)

theorem nine {w : World} {t1 t2 t3 t4 t5 t6 t7 t8 t9 : TypeId} {c1 c2 c3 c4 c5 c6 c7 c8 c9 : Array Value} (W : World) (hW : W = (((((((((w.alloc (.cells c1 t1)).alloc (.cells c2 t2)).alloc (.cells c3 t3)).alloc (.cells c4 t4)).alloc (.cells c5 t5)).alloc (.cells c6 t6)).alloc (.cells c7 t7)).alloc (.cells c8 t8)).alloc (.cells c9 t9))) :
    Fr (fun _ => False) w W ∧ Blk W (w.heap.size) t1 c1 ∧ Blk W (w.heap.size + 1) t2 c2 ∧ Blk W (w.heap.size + 1 + 1) t3 c3 ∧ Blk W (w.heap.size + 1 + 1 + 1) t4 c4 ∧ Blk W (w.heap.size + 1 + 1 + 1 + 1) t5 c5 ∧ Blk W (w.heap.size + 1 + 1 + 1 + 1 + 1) t6 c6 ∧ Blk W (w.heap.size + 1 + 1 + 1 + 1 + 1 + 1) t7 c7 ∧ Blk W (w.heap.size + 1 + 1 + 1 + 1 + 1 + 1 + 1) t8 c8 ∧ Blk W (w.heap.size + 1 + 1 + 1 + 1 + 1 + 1 + 1 + 1) t9 c9 := by
  subst hW
  refine ⟨((((((((((Fr.refl _ _).alloc _).alloc _).alloc _).alloc _).alloc _).alloc _).alloc _).alloc _).alloc _), ?_, ?_, ?_, ?_, ?_, ?_, ?_, ?_, ?_⟩
  · have := (((((((((Blk.new w t1 c1).alloc (.cells c2 t2)).alloc (.cells c3 t3)).alloc (.cells c4 t4)).alloc (.cells c5 t5)).alloc (.cells c6 t6)).alloc (.cells c7 t7)).alloc (.cells c8 t8)).alloc (.cells c9 t9))
    simpa using this
  · have := ((((((((Blk.new (w.alloc (.cells c1 t1)) t2 c2).alloc (.cells c3 t3)).alloc (.cells c4 t4)).alloc (.cells c5 t5)).alloc (.cells c6 t6)).alloc (.cells c7 t7)).alloc (.cells c8 t8)).alloc (.cells c9 t9))
    simpa using this
  · have := (((((((Blk.new ((w.alloc (.cells c1 t1)).alloc (.cells c2 t2)) t3 c3).alloc (.cells c4 t4)).alloc (.cells c5 t5)).alloc (.cells c6 t6)).alloc (.cells c7 t7)).alloc (.cells c8 t8)).alloc (.cells c9 t9))
    simpa using this
  · have := ((((((Blk.new (((w.alloc (.cells c1 t1)).alloc (.cells c2 t2)).alloc (.cells c3 t3)) t4 c4).alloc (.cells c5 t5)).alloc (.cells c6 t6)).alloc (.cells c7 t7)).alloc (.cells c8 t8)).alloc (.cells c9 t9))
    simpa using this
  · have := (((((Blk.new ((((w.alloc (.cells c1 t1)).alloc (.cells c2 t2)).alloc (.cells c3 t3)).alloc (.cells c4 t4)) t5 c5).alloc (.cells c6 t6)).alloc (.cells c7 t7)).alloc (.cells c8 t8)).alloc (.cells c9 t9))
    simpa using this
  · have := ((((Blk.new (((((w.alloc (.cells c1 t1)).alloc (.cells c2 t2)).alloc (.cells c3 t3)).alloc (.cells c4 t4)).alloc (.cells c5 t5)) t6 c6).alloc (.cells c7 t7)).alloc (.cells c8 t8)).alloc (.cells c9 t9))
    simpa using this
  · have := (((Blk.new ((((((w.alloc (.cells c1 t1)).alloc (.cells c2 t2)).alloc (.cells c3 t3)).alloc (.cells c4 t4)).alloc (.cells c5 t5)).alloc (.cells c6 t6)) t7 c7).alloc (.cells c8 t8)).alloc (.cells c9 t9))
    simpa using this
  · have := ((Blk.new (((((((w.alloc (.cells c1 t1)).alloc (.cells c2 t2)).alloc (.cells c3 t3)).alloc (.cells c4 t4)).alloc (.cells c5 t5)).alloc (.cells c6 t6)).alloc (.cells c7 t7)) t8 c8).alloc (.cells c9 t9))
    simpa using this
  · have := (Blk.new ((((((((w.alloc (.cells c1 t1)).alloc (.cells c2 t2)).alloc (.cells c3 t3)).alloc (.cells c4 t4)).alloc (.cells c5 t5)).alloc (.cells c6 t6)).alloc (.cells c7 t7)).alloc (.cells c8 t8)) t9 c9)
    simpa using this
theorem ls_nil {w : World} {B C : Nat} {x : Int} (hB : Blk w B 37 #[.slice (some ⟨C, 0, none⟩) 1 1, .slice none 0 0]) (hC : Blk w C 3 #[.int .i64 x]) :
    LsAt w [.slice (some ⟨C, 0, none⟩) 1 1, .slice none 0 0] (some ⟨B, 0, none⟩) 2 [[x], []] := by
  refine ⟨rfl, Reads.blk hB rfl, fun i l hl => ?_⟩
  match i, hl with
  | 0, hl => obtain rfl := Option.some.inj hl; exact ⟨_, _, rfl, reads_one hC, by simp⟩
  | 1, hl => obtain rfl := Option.some.inj hl; exact ⟨none, 0, rfl, Reads.none_, by simp⟩
theorem shs_two {w : World} {K B n c1 c2 m1 m2 : Nat} {f1 t1 f2 t2 : Int} {A1 A2 : Option Addr} {L1 L2 : List (List Int)} {vs1 vs2 : List Value} {ty : TypeId}
    (hB : Blk w B ty #[.int .i64 f1, .int .i64 t1, .slice A1 m1 c1, .int .i64 f2, .int .i64 t2, .slice A2 m2 c2]) (hK : K ≤ w.heap.size) (hb : B < K) (fit1 : fitsB f1 t1 n L1 = true) (fit2 : fitsB f2 t2 n L2 = true)
    (s1 : ∀ (S : Nat → Prop) w', Fr S w w' → (∀ k, S k → K ≤ k) → LsAt w' vs1 A1 m1 L1) (s2 : ∀ (S : Nat → Prop) w', Fr S w w' → (∀ k, S k → K ≤ k) → LsAt w' vs2 A2 m2 L2) :
    ShsAt w K (some ⟨B, 0, none⟩) 2 n [edgs f1 L1, edgs f2 L2] := by
  refine ⟨rfl, hK, fun i hi => ?_⟩
  match i, hi with
  | 0, _ => exact ⟨B, 0, f1, t1, A1, m1, c1, vs1, L1, rfl, hb, (hB.cell _).trans rfl, (hB.cell _).trans rfl, (hB.cell _).trans rfl, fit1, rfl, s1⟩
  | 1, _ => exact ⟨B, 0, f2, t2, A2, m2, c2, vs2, L2, rfl, hb, (hB.cell _).trans rfl, (hB.cell _).trans rfl, (hB.cell _).trans rfl, fit2, rfl, s2⟩
def sh1 : List T := edgs 0 [[1], [2]]
def sh2 : List T := edgs 2 [[0], []]
theorem stop12 : stopAt (kdn (kdOf 1 0) 4 [sh1, sh2]) (bnd 1 0 4) = 3 := by decide +kernel
theorem stop21 : stopAt (kdn (kdOf 1 0) 4 [sh2, sh1]) (bnd 1 0 4) = 3 := by decide +kernel
theorem out12 : (kst (kdOf 1 0) 4 [sh1, sh2] 3).1 = [0, 1, 2, 18446744073709551615] := by decide +kernel
theorem out21 : (kst (kdOf 1 0) 4 [sh2, sh1] 3).1 = [0, 1, 2, 18446744073709551615] := by decide +kernel
theorem run12 (A : Option Addr) (c : Nat) (w : World) (hS : ShsAt w w.heap.size A 2 4 [sh1, sh2]) :
    Calls Tryz.prog 10 #[.agg #[.int .i64 1, .int .i64 0, .int .i64 0, .int .i64 0], .int .i64 4, .slice A 2 c] w fun e w' => ∃ B d, e = .returned (.tuple #[.slice B 4 d, .int .i64 3, .int .i64 0]) ∧ ReadsIn w' w.heap.size 1 B 4 (([0, 1, 2, 18446744073709551615] : List Nat).map u64v) ∧ Fr (fun _ => False) w w' := by
  have h := run_any 1 0 0 4 2 c 0 A [sh1, sh2] w (by omega) (.inl ⟨rfl, by omega⟩) (by omega) (by omega) (by omega) hS
  rw [stop12, out12] at h
  exact h
theorem run21 (A : Option Addr) (c : Nat) (w : World) (hS : ShsAt w w.heap.size A 2 4 [sh2, sh1]) :
    Calls Tryz.prog 10 #[.agg #[.int .i64 1, .int .i64 0, .int .i64 0, .int .i64 0], .int .i64 4, .slice A 2 c] w fun e w' => ∃ B d, e = .returned (.tuple #[.slice B 4 d, .int .i64 3, .int .i64 0]) ∧ ReadsIn w' w.heap.size 1 B 4 (([0, 1, 2, 18446744073709551615] : List Nat).map u64v) ∧ Fr (fun _ => False) w w' := by
  have h := run_any 1 0 0 4 2 c 0 A [sh2, sh1] w (by omega) (.inl ⟨rfl, by omega⟩) (by omega) (by omega) (by omega) hS
  rw [stop21, out21] at h
  exact h
theorem runfar (w : World) : Calls Tryz.prog 10 #[.agg #[.int .i64 1, .int .i64 4, .int .i64 0, .int .i64 0], .int .i64 4, .slice none 0 0] w fun e w' => e = .returned (.tuple #[.slice none 0 0, .int .i64 0, .int .i64 2]) ∧ Fr (fun _ => False) w w' :=
  run_bad (k := 1) (arg := 4) (prio := 0) (need := 0) 4 none 0 0 (fun W => tcheck_far 4 0 4 0 (by omega) (by omega) (by omega) (by omega) W)
set_option maxHeartbeats 8000000 in
theorem turns_true (w : World) : Calls Tryz.prog 5 #[] w fun e w' => e = .returned (.bool true) ∧ Fr (fun _ => False) w w' := by
  obtain ⟨W9, hW9⟩ : ∃ W9, W9 = (((((((((w.alloc (.cells #[.int .i64 1] 3)).alloc (.cells #[.int .i64 2] 3)).alloc (.cells #[.slice (some ⟨w.heap.size, 0, none⟩) 1 1, .slice (some ⟨w.heap.size + 1, 0, none⟩) 1 1] 37)).alloc (.cells #[.int .i64 0, .int .i64 2, .slice (some ⟨w.heap.size + 1 + 1, 0, none⟩) 2 2] 43)).alloc (.cells #[.int .i64 0] 3)).alloc (.cells #[.slice (some ⟨w.heap.size + 1 + 1 + 1 + 1, 0, none⟩) 1 1, .slice none 0 0] 37)).alloc (.cells #[.int .i64 2, .int .i64 4, .slice (some ⟨w.heap.size + 1 + 1 + 1 + 1 + 1, 0, none⟩) 2 2] 43)).alloc (.cells #[.int .i64 1, .int .i64 0, .int .i64 0, .int .i64 0] 45)).alloc (.cells #[.int .i64 0, .int .i64 2, .slice (some ⟨w.heap.size + 1 + 1, 0, none⟩) 2 2, .int .i64 2, .int .i64 4, .slice (some ⟨w.heap.size + 1 + 1 + 1 + 1 + 1, 0, none⟩) 2 2] 43)) := ⟨_, rfl⟩
  obtain ⟨h0, k0, k1, k2, k3, k4, k5, k6, k7, k8⟩ := nine W9 hW9
  have sz : W9.heap.size = w.heap.size + 9 := by rw [hW9]; simp
  have H0 := hide h0
  have HL1 := hide (fun (K : Nat) (hK : w.heap.size + 9 ≤ K) (S : Nat → Prop) w' (hf : Fr S W9 w') (hs : ∀ k, S k → K ≤ k) => (ls_two (k2.fr hf (fun h => by have := hs _ h; omega)) (k0.fr hf (fun h => by have := hs _ h; omega)) (k1.fr hf (fun h => by have := hs _ h; omega))))
  have HL2 := hide (fun (K : Nat) (hK : w.heap.size + 9 ≤ K) (S : Nat → Prop) w' (hf : Fr S W9 w') (hs : ∀ k, S k → K ≤ k) => (ls_nil (k5.fr hf (fun h => by have := hs _ h; omega)) (k4.fr hf (fun h => by have := hs _ h; omega))))
  have HS1 := hide (show ShsAt W9 W9.heap.size (some ⟨w.heap.size + 1 + 1 + 1 + 1 + 1 + 1 + 1 + 1, 0, none⟩) 2 4 [sh1, sh2] from shs_two k8 (Nat.le_refl _) (by omega) (by decide +kernel) (by decide +kernel) (fun S w' hf hs => HL1.out W9.heap.size (by omega) S w' hf hs) (fun S w' hf hs => HL2.out W9.heap.size (by omega) S w' hf hs))
  have K3 := hide k3
  have K6 := hide k6
  have K7 := hide k7
  have HZ := hide hW9
  clear h0 k0 k1 k2 k3 k4 k5 k6 k7 k8 hW9
  go_enter Tryz.func5, Tryz.ntmps5
  go_wp2_with fail
  rw [← HZ.out]
  go_at_call 10
  refine (run12 _ _ _ HS1.out).mono ?_
  rintro e w1 ⟨B1, d1, rfl, hR, hf⟩
  have HR1 := hide hR
  have HF1 := hide hf
  have s1 := hf.size
  have x0 := (K7.out.fr hf id).cell 0 |>.trans rfl
  have x1 := (K7.out.fr hf id).cell 1 |>.trans rfl
  have x2 := (K7.out.fr hf id).cell 2 |>.trans rfl
  have x3 := (K7.out.fr hf id).cell 3 |>.trans rfl
  have y0 := (K3.out.fr hf id).cell 0 |>.trans rfl
  have y1 := (K3.out.fr hf id).cell 1 |>.trans rfl
  have y2 := (K3.out.fr hf id).cell 2 |>.trans rfl
  have z0 := (K6.out.fr hf id).cell 0 |>.trans rfl
  have z1 := (K6.out.fr hf id).cell 1 |>.trans rfl
  have z2 := (K6.out.fr hf id).cell 2 |>.trans rfl
  obtain ⟨W10, hW10⟩ : ∃ W10, W10 = w1.alloc (.cells #[.int .i64 2, .int .i64 4, .slice (some ⟨w.heap.size + 1 + 1 + 1 + 1 + 1, 0, none⟩) 2 2, .int .i64 0, .int .i64 2, .slice (some ⟨w.heap.size + 1 + 1, 0, none⟩) 2 2] 43) := ⟨_, rfl⟩
  have F10 : Fr (fun _ => False) w1 W10 := by rw [hW10]; exact (Fr.refl _ _).alloc _
  have b10 : Blk W10 w1.heap.size 43 #[.int .i64 2, .int .i64 4, .slice (some ⟨w.heap.size + 1 + 1 + 1 + 1 + 1, 0, none⟩) 2 2, .int .i64 0, .int .i64 2, .slice (some ⟨w.heap.size + 1 + 1, 0, none⟩) 2 2] := by rw [hW10]; exact Blk.new _ _ _
  have lt10 := b10.lt
  have HF10 := hide (HF1.out.then_ F10)
  have HS2 := hide (show ShsAt W10 W10.heap.size (some ⟨w1.heap.size, 0, none⟩) 2 4 [sh2, sh1] from shs_two b10 (Nat.le_refl _) lt10 (by decide +kernel) (by decide +kernel)
    (fun S w' hf hs => HL2.out W10.heap.size (by omega) S w' ((HF10.out.mono (fun k h => h.elim)).trans hf (fun k h => .inl h)) hs) (fun S w' hf hs => HL1.out W10.heap.size (by omega) S w' ((HF10.out.mono (fun k h => h.elim)).trans hf (fun k h => .inl h)) hs))
  have HZ2 := hide hW10
  have HRX := hide (HR1.out.fr F10 (fun k h => h.elim))
  clear hf hR b10 F10 hW10
  go_wp2_with fail
  rw [← HZ2.out]
  go_at_call 10
  refine (run21 _ _ _ HS2.out).mono ?_
  rintro e w2 ⟨B2, d2, rfl, hR, hf⟩
  have HR2 := hide hR
  have HRY := hide (HRX.out.fr hf (fun k h => h.elim))
  have HF2 := hide (HF10.out.then_ hf)
  clear hf hR x0 x1 x2 x3 y0 y1 y2 z0 z1 z2
  go_wp2_with fail
  go_at_call 10
  refine (runfar _).mono ?_
  rintro e w3 ⟨rfl, hf⟩
  have HR3 := hide (HR2.out.fr hf (fun k h => h.elim))
  have HRZ := hide (HRY.out.fr hf (fun k h => h.elim))
  have HF3 := hide (HF2.out.then_ hf)
  clear hf
  go_wp2_with fail
  go_at_call 13
  refine (same_lit B1 _ d1 _ _ _ [0, 1, 2, 18446744073709551615] _ _ _ rfl HRZ.out.reads rfl (by omega)).mono ?_
  rintro e w4 ⟨rfl, hf⟩
  have HR4 := hide (HR3.out.fr hf (fun k h => h.elim))
  have HRA := hide (HRZ.out.fr hf (fun k h => h.elim))
  have HF4 := hide (HF3.out.then_ hf)
  clear hf
  simp only [decide_true]
  go_wp2_with fail
  go_at_call 13
  refine (same_eq B2 B1 4 d2 4 d1 _ _ _ HR4.out.reads HRA.out.reads (by omega)).mono ?_
  rintro e w5 ⟨rfl, hf⟩
  have HF5 := hide (H0.out.then_ (HF4.out.then_ hf))
  clear hf
  go_wp2
  go_ret
  exact ⟨rfl, HF5.out⟩
end Go.Proofs.YtjdbjahgimlhbaaGreat.k21
end
section
set_option linter.unusedVariables false
set_option maxRecDepth 100000
namespace Go.Proofs.YtjdbjahgimlhbaaGreat
open Go.RowKit

def askK (K : Nat) : Nat := 1 + K % 4
def askA (K a n : Nat) : Nat := if K % 4 = 0 then a % n else if K % 4 = 1 then 1 + a % 12 else if K % 4 = 3 then a % 9 else 0
theorem ask_ok (K a : Nat) {n : Nat} (h : 1 ≤ n) : okK (askK K) (askA K a n) n := by
  unfold okK askK askA
  have := Nat.mod_lt a (show 0 < n by omega)
  have := Nat.mod_lt a (show 0 < 12 by omega)
  have := Nat.mod_lt a (show 0 < 9 by omega)
  have hk : K % 4 = 0 ∨ K % 4 = 1 ∨ K % 4 = 2 ∨ K % 4 = 3 := by omega
  rcases hk with h | h | h | h <;> simp [h] <;> omega
theorem ask_made (K a p d n : Nat) (hK : K < 256) (ha : a < 256) (hp : p < 256) (hd : d < 65536) (h1 : 1 ≤ n) (h2 : n ≤ 256) (w : World) :
    Calls Tryz.prog 9 #[.agg #[.int .u8 (K : Int), .int .u8 (a : Int), .int .u8 (p : Int), .int .u16 (d : Int)], .int .i64 (n : Int)] w fun e w' => e = .returned (reqv (askK K) (askA K a n) (p % 8) ((256 + d % 1000 : Nat) : Int)) ∧ Fr (fun _ => False) w w' := by
  have hk : K % 4 = 0 ∨ K % 4 = 1 ∨ K % 4 = 2 ∨ K % 4 = 3 := by omega
  rcases hk with h | h | h | h
  · go_enter Tryz.func9, Tryz.ntmps9
    go_wp2
    try simp only [Exit.inBlock, Exit.then]
    refine bodyPost_ret (results_cell1 rfl _ _ _ (.agg #[.int .i64 (1 + (K : Int) % 4), .int .i64 ((a : Int) % (n : Int)), .int .i64 ((p : Int) % 8), .int .i64 (256 + (d : Int) % 1000)]) ?hv) rfl ?_
    case hv => go_simp
    exact ⟨by have h' : (K : Int) % 4 = ((K % 4 : Nat) : Int) := rfl; rw [h] at h'; unfold reqv askK askA; simp [h, h'], (((Fr.refl _ _).alloc _).alloc _).alloc _⟩
  · go_enter Tryz.func9, Tryz.ntmps9
    go_wp2
    try simp only [Exit.inBlock, Exit.then]
    refine bodyPost_ret (results_cell1 rfl _ _ _ (.agg #[.int .i64 (1 + (K : Int) % 4), .int .i64 (1 + (a : Int) % 12), .int .i64 ((p : Int) % 8), .int .i64 (256 + (d : Int) % 1000)]) ?hv) rfl ?_
    case hv => go_simp
    exact ⟨by have h' : (K : Int) % 4 = ((K % 4 : Nat) : Int) := rfl; rw [h] at h'; unfold reqv askK askA; simp [h, h'], (((Fr.refl _ _).alloc _).alloc _).alloc _⟩
  · go_enter Tryz.func9, Tryz.ntmps9
    go_wp2
    try simp only [Exit.inBlock, Exit.then]
    refine bodyPost_ret (results_cell1 rfl _ _ _ (.agg #[.int .i64 (1 + (K : Int) % 4), .int .i64 (0), .int .i64 ((p : Int) % 8), .int .i64 (256 + (d : Int) % 1000)]) ?hv) rfl ?_
    case hv => go_simp
    exact ⟨by have h' : (K : Int) % 4 = ((K % 4 : Nat) : Int) := rfl; rw [h] at h'; unfold reqv askK askA; simp [h, h'], (((Fr.refl _ _).alloc _).alloc _).alloc _⟩
  · go_enter Tryz.func9, Tryz.ntmps9
    go_wp2
    try simp only [Exit.inBlock, Exit.then]
    refine bodyPost_ret (results_cell1 rfl _ _ _ (.agg #[.int .i64 (1 + (K : Int) % 4), .int .i64 ((a : Int) % 9), .int .i64 ((p : Int) % 8), .int .i64 (256 + (d : Int) % 1000)]) ?hv) rfl ?_
    case hv => go_simp
    exact ⟨by have h' : (K : Int) % 4 = ((K % 4 : Nat) : Int) := rfl; rw [h] at h'; unfold reqv askK askA; simp [h, h'], (((Fr.refl _ _).alloc _).alloc _).alloc _⟩
end Go.Proofs.YtjdbjahgimlhbaaGreat
end
section
set_option linter.unusedVariables false
set_option maxRecDepth 100000
namespace Go.Proofs.YtjdbjahgimlhbaaGreat
open Go.RowKit

/-- rows of the call's own, no two in one block -/
def Fam (w : World) (H : Nat) (vs : List Value) (L : List (List Nat)) : Prop :=
  vs.length = L.length ∧ (∀ (i : Nat) (v : Value) (l : List Nat), vs[i]? = some v → L[i]? = some l → w.ownsRow H 3 1 v l.length (ivals l)) ∧
    (∀ (i j : Nat) (u v : Value), i ≠ j → vs[i]? = some u → vs[j]? = some v → u.ownBlock = none ∨ u.ownBlock ≠ v.ownBlock)
section
variable {w w' : World} {H : Nat} {vs : List Value} {L : List (List Nat)}
theorem Fam.fr {S : Nat → Prop} (h : Fam w H vs L) (hf : Fr S w w') (hs : ∀ k, H ≤ k → k < w.heap.size → ¬ S k) : Fam w' H vs L :=
  ⟨h.1, fun i v l hv hl => own_frS (h.2.1 i v l hv hl) hf (fun k hk => by have := (h.2.1 i v l hv hl).lt k hk; exact hs k this.1 this.2), h.2.2⟩
theorem Fam.turn (h : Fam w H vs L) {i : Nat} {l l' : List Nat} {v v' : Value} (hi : vs[i]? = some v) (hl : L[i]? = some l) (hg : w.grownBy w' v.ownBlock) (ho : w'.ownsRow H 3 1 v' l'.length (ivals l'))
    (hn : v'.ownBlock = v.ownBlock ∨ ∃ g, v'.ownBlock = some g ∧ w.heap.size ≤ g) : Fam w' H (vs.set i v') (L.set i l') := by
  obtain ⟨h1, h2, h3⟩ := h
  have hiv : i < vs.length := (List.getElem?_eq_some_iff.1 hi).1
  have hiL : i < L.length := (List.getElem?_eq_some_iff.1 hl).1
  refine ⟨by simp [h1], fun j u m hu hm => ?_, fun j k u x hjk hu hx => ?_⟩
  · by_cases hji : i = j
    · subst hji
      rw [List.getElem?_set_self hiv] at hu
      rw [List.getElem?_set_self hiL] at hm
      obtain rfl := Option.some.inj hu
      obtain rfl := Option.some.inj hm
      exact ho
    · rw [List.getElem?_set_ne hji] at hu hm
      exact (h2 j u m hu hm).kept hg (h3 j i u v (Ne.symm hji) hu hi)
  · have old : ∀ (k : Nat) (u : Value), k ≠ i → vs[k]? = some u → u.ownBlock = none ∨ u.ownBlock ≠ v'.ownBlock := fun k u hki hu => by
      rcases h3 k i u v hki hu hi with h | h
      · exact .inl h
      · rcases hn with hn | ⟨g, hn, hge⟩
        · exact .inr (by rw [hn]; exact h)
        · have hk : k < L.length := by rw [← h1]; exact (List.getElem?_eq_some_iff.1 hu).1
          have f2 := h2 k u L[k] hu (List.getElem?_eq_getElem hk)
          cases hub : u.ownBlock with
          | none => exact .inl rfl
          | some b => have := (f2.lt b hub).2; exact .inr (by rw [hn]; simp; omega)
    by_cases hj : i = j
    · subst hj
      rw [List.getElem?_set_self hiv] at hu
      obtain rfl := Option.some.inj hu
      rw [List.getElem?_set_ne hjk] at hx
      rcases old k x (Ne.symm hjk) hx with h | h
      · cases hv' : v'.ownBlock with
        | none => exact .inl rfl
        | some b => exact .inr (by rw [h]; simp)
      · exact .inr (Ne.symm h)
    · rw [List.getElem?_set_ne hj] at hu
      by_cases hk : i = k
      · subst hk
        rw [List.getElem?_set_self hiv] at hx
        obtain rfl := Option.some.inj hx
        exact old j u hjk hu
      · rw [List.getElem?_set_ne hk] at hx
        exact h3 j k u x hjk hu hx
end
/-- a graph: how many vertices; where each leads, in B's second cell's table; its neighbours, in the third's -/
structure GAt (w : World) (H B o a n : Nat) (L L' : List (List Nat)) : Prop where
  lB : B < H
  lo : o < H
  la : a < H
  n1 : B ≠ o
  n2 : B ≠ a
  n3 : o ≠ a
  g : Blk w B 96 #[.int .i64 (n : Int), .slice (some ⟨o, 0, none⟩) n n, .slice (some ⟨a, 0, none⟩) n n]
  ll : L.length = n
  ll' : L'.length = n
  ex : ∃ vs vs' : List Value, vs.length = n ∧ vs'.length = n ∧ Blk w o 37 vs.toArray ∧ Blk w a 37 vs'.toArray ∧ Fam w H (vs ++ vs') (L ++ L')
section
variable {w w' : World} {H B o a n : Nat} {L L' : List (List Nat)}
theorem GAt.fr {S : Nat → Prop} (h : GAt w H B o a n L L') (hf : Fr S w w') (hs : ∀ k, k < w.heap.size → (k = B ∨ k = o ∨ k = a ∨ H ≤ k) → ¬ S k) : GAt w' H B o a n L L' := by
  obtain ⟨vs, vs', e1, e2, b1, b2, hF⟩ := h.ex
  exact ⟨h.lB, h.lo, h.la, h.n1, h.n2, h.n3, h.g.fr hf (hs B h.g.lt (.inl rfl)), h.ll, h.ll', vs, vs', e1, e2, b1.fr hf (hs o b1.lt (.inr (.inl rfl))), b2.fr hf (hs a b2.lt (.inr (.inr (.inl rfl)))), hF.fr hf (fun k hk hk2 => hs k hk2 (.inr (.inr (.inr hk))))⟩
theorem GAt.up (h : GAt w H B o a n L L') (hf : Fr (fun _ => False) w w') : GAt w' H B o a n L L' := h.fr hf (fun _ _ _ h => h)
theorem GAt.outRow (h : GAt w H B o a n L L') {i : Nat} {l : List Nat} (hi : L[i]? = some l) : ∃ A c, w.cell? ⟨o, i, none⟩ = some (.slice A l.length c) ∧ w.ownsRow H 3 1 (.slice A l.length c) l.length (ivals l) := by
  obtain ⟨vs, vs', e1, e2, b1, b2, hF⟩ := h.ex
  have hiL : i < n := by rw [← h.ll]; exact (List.getElem?_eq_some_iff.1 hi).1
  have hv : vs[i]? = some (vs[i]'(by omega)) := List.getElem?_eq_getElem _
  have ho := hF.2.1 i _ l (by rw [List.getElem?_append_left (by omega)]; exact hv) (by rw [List.getElem?_append_left (by rw [h.ll]; exact hiL)]; exact hi)
  obtain ⟨A, c, he⟩ := Reads.own_val ho
  rw [he] at hv ho
  exact ⟨A, c, by rw [b1.cell]; simpa using hv, ho⟩
theorem GAt.allRow (h : GAt w H B o a n L L') {i : Nat} {l : List Nat} (hi : L'[i]? = some l) : ∃ A c, w.cell? ⟨a, i, none⟩ = some (.slice A l.length c) ∧ w.ownsRow H 3 1 (.slice A l.length c) l.length (ivals l) := by
  obtain ⟨vs, vs', e1, e2, b1, b2, hF⟩ := h.ex
  have hiL : i < n := by rw [← h.ll']; exact (List.getElem?_eq_some_iff.1 hi).1
  have hv : vs'[i]? = some (vs'[i]'(by omega)) := List.getElem?_eq_getElem _
  have ho := hF.2.1 (n + i) _ l (by rw [List.getElem?_append_right (by omega), e1, Nat.add_sub_cancel_left]; exact hv) (by rw [List.getElem?_append_right (by rw [h.ll]; omega), h.ll, Nat.add_sub_cancel_left]; exact hi)
  obtain ⟨A, c, he⟩ := Reads.own_val ho
  rw [he] at hv ho
  exact ⟨A, c, by rw [b2.cell]; simpa using hv, ho⟩
theorem ownBlock_ge {W : World} {v : Value} {m : Nat} {ys : List Value} (h : W.ownsRow H 3 1 v m ys) {b : Nat} (hb : b < H) : some b ≠ v.ownBlock := fun e => by have := (h.lt b e.symm).1; omega
theorem GAt.turnO (h : GAt w H B o a n L L') {i : Nat} {l l' : List Nat} {v v' : Value} (hi : L[i]? = some l) (hv : w.cell? ⟨o, i, none⟩ = some v) (hg : w.grownBy w' v.ownBlock) (ho : w'.ownsRow H 3 1 v' l'.length (ivals l'))
    (hn : v'.ownBlock = v.ownBlock ∨ ∃ g, v'.ownBlock = some g ∧ w.heap.size ≤ g) : GAt (w'.setCell ⟨o, i, none⟩ v') H B o a n (L.set i l') L' := by
  have hH := h.lo
  obtain ⟨vs, vs', e1, e2, b1, b2, hF⟩ := h.ex
  have hiL : i < n := by rw [← h.ll]; exact (List.getElem?_eq_some_iff.1 hi).1
  have hvi : (vs ++ vs')[i]? = some v := by rw [List.getElem?_append_left (by omega)]; rw [b1.cell] at hv; simpa using hv
  have hli : (L ++ L')[i]? = some l := by rw [List.getElem?_append_left (by rw [h.ll]; exact hiL)]; exact hi
  have hov := hF.2.1 i v l hvi hli
  have hT := hF.turn hvi hli hg ho hn
  rw [List.set_append_left _ _ (by omega), List.set_append_left _ _ (by rw [h.ll]; exact hiL)] at hT
  have k1 : Blk w' o 37 vs.toArray := (hg.block o b1.lt (ownBlock_ge hov h.lo)).trans b1
  have k2 : Blk w' a 37 vs'.toArray := (hg.block a b2.lt (ownBlock_ge hov h.la)).trans b2
  have k0 : Blk w' B 96 _ := (hg.block B h.g.lt (ownBlock_ge hov h.lB)).trans h.g
  refine ⟨h.lB, h.lo, h.la, h.n1, h.n2, h.n3, k0.far (p := ⟨o, i, none⟩) h.n1 v', by simp [h.ll], h.ll', vs.set i v', vs', by simp [e1], e2, ?_, k2.far (p := ⟨o, i, none⟩) (Ne.symm h.n3) v', hT.fr (Fr.one w' o i v') (fun k hk _ e => by omega)⟩
  have := k1.set_ i v'
  simpa using this
theorem GAt.turnA (h : GAt w H B o a n L L') {i : Nat} {l l' : List Nat} {v v' : Value} (hi : L'[i]? = some l) (hv : w.cell? ⟨a, i, none⟩ = some v) (hg : w.grownBy w' v.ownBlock) (ho : w'.ownsRow H 3 1 v' l'.length (ivals l'))
    (hn : v'.ownBlock = v.ownBlock ∨ ∃ g, v'.ownBlock = some g ∧ w.heap.size ≤ g) : GAt (w'.setCell ⟨a, i, none⟩ v') H B o a n L (L'.set i l') := by
  have hH := h.la
  obtain ⟨vs, vs', e1, e2, b1, b2, hF⟩ := h.ex
  have hiL : i < n := by rw [← h.ll']; exact (List.getElem?_eq_some_iff.1 hi).1
  have hvi : (vs ++ vs')[n + i]? = some v := by rw [List.getElem?_append_right (by omega), e1, Nat.add_sub_cancel_left]; rw [b2.cell] at hv; simpa using hv
  have hli : (L ++ L')[n + i]? = some l := by rw [List.getElem?_append_right (by rw [h.ll]; omega), h.ll, Nat.add_sub_cancel_left]; exact hi
  have hov := hF.2.1 _ v l hvi hli
  have hT := hF.turn hvi hli hg ho hn
  rw [List.set_append_right _ _ (by omega), List.set_append_right _ _ (by rw [h.ll]; omega), e1, h.ll, Nat.add_sub_cancel_left] at hT
  have k1 : Blk w' o 37 vs.toArray := (hg.block o b1.lt (ownBlock_ge hov h.lo)).trans b1
  have k2 : Blk w' a 37 vs'.toArray := (hg.block a b2.lt (ownBlock_ge hov h.la)).trans b2
  have k0 : Blk w' B 96 _ := (hg.block B h.g.lt (ownBlock_ge hov h.lB)).trans h.g
  refine ⟨h.lB, h.lo, h.la, h.n1, h.n2, h.n3, k0.far (p := ⟨a, i, none⟩) h.n2 v', h.ll, by simp [h.ll'], vs, vs'.set i v', e1, by simp [e2], k1.far (p := ⟨a, i, none⟩) h.n3 v', ?_, hT.fr (Fr.one w' a i v') (fun k hk _ e => by omega)⟩
  have := k2.set_ i v'
  simpa using this
theorem GAt.frozenO (h : GAt w H B o a n L L') (i : Nat) : w.frozen? ⟨o, i, none⟩ = false := by
  obtain ⟨vs, vs', e1, e2, b1, b2, hF⟩ := h.ex
  exact b1.frozen i
theorem GAt.frozenA (h : GAt w H B o a n L L') (i : Nat) : w.frozen? ⟨a, i, none⟩ = false := by
  obtain ⟨vs, vs', e1, e2, b1, b2, hF⟩ := h.ex
  exact b2.frozen i
theorem GAt.ltO (h : GAt w H B o a n L L') : o < w.heap.size := by
  obtain ⟨vs, vs', e1, e2, b1, b2, hF⟩ := h.ex
  exact b1.lt
theorem GAt.ltA (h : GAt w H B o a n L L') : a < w.heap.size := by
  obtain ⟨vs, vs', e1, e2, b1, b2, hF⟩ := h.ex
  exact b2.lt
/-- as it is made -/
theorem GAt.new (h1 : B < H) (h2 : o < H) (h3 : a < H) (n1 : B ≠ o) (n2 : B ≠ a) (n3 : o ≠ a) (hg : Blk w B 96 #[.int .i64 (n : Int), .slice (some ⟨o, 0, none⟩) n n, .slice (some ⟨a, 0, none⟩) n n])
    (ho : Blk w o 37 (List.replicate n (.slice none 0 0)).toArray) (ha : Blk w a 37 (List.replicate n (.slice none 0 0)).toArray) : GAt w H B o a n (List.replicate n []) (List.replicate n []) := by
  refine ⟨h1, h2, h3, n1, n2, n3, hg, by simp, by simp, _, _, by simp, by simp, ho, ha, by simp, fun i v l hv hl => ?_, fun i j u v hij hu hv => ?_⟩
  · rw [List.replicate_append_replicate, List.getElem?_replicate] at hv hl
    split at hv
    · next hh =>
      rw [if_pos hh] at hl
      obtain rfl := Option.some.inj hv
      obtain rfl := Option.some.inj hl
      exact World.ownsRow_nil w H 3 1
    · cases hv
  · rw [List.replicate_append_replicate, List.getElem?_replicate] at hu
    split at hu
    · obtain rfl := Option.some.inj hu
      exact .inl rfl
    · cases hu
end
end Go.Proofs.YtjdbjahgimlhbaaGreat
end
