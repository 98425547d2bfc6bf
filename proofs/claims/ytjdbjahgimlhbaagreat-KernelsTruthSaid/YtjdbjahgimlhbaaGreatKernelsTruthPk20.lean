/- Parts of the proof of KernelsTruth: no conditions of their own. -/
import Derived.Test.YtjdbjahgimlhbaaGreatKernelsTruthPk17
import Derived.Test.YtjdbjahgimlhbaaGreatKernelsTruthPk19
import Derived.Test.YtjdbjahgimlhbaaGreatKernelsTruthPk4
import Derived.Test.YtjdbjahgimlhbaaGreatKernelsTruthPk13
import Derived.Test.YtjdbjahgimlhbaaGreatKernelsTruthPk14
section
set_option linter.unusedVariables false
set_option maxRecDepth 100000
namespace Go.Proofs.YtjdbjahgimlhbaaGreat
open Go.RowKit
open Gr (E T)

theorem rank_runs' (arg : Nat) (l : List E) (n : Nat) (hl : ∀ e ∈ l, e.1 < n ∧ e.2 < n ∧ e.1 ≠ e.2) (ha : 1 ≤ arg) : kruns 2 arg n l = arg ∧ kout 2 arg n l = Gr.trk l n arg := Gr.rank_runs arg l n (fun e he => (hl e he).1) ha
set_option maxHeartbeats 4000000 in
theorem trun2 (A : Option Addr) (n m c arg prio : Nat) (need : Int) (l : List E) (w : World) (h : EdgesAt w A l) (hm : l.length = m) (hmx : m ≤ 400) (hs : Gr.Sorted l) (h1 : 1 ≤ n) (h2 : n ≤ 60) (hl : ∀ e ∈ l, e.1 < n ∧ e.2 < n ∧ e.1 ≠ e.2) (hp : prio ≤ 7) (hk : okK 2 arg n) :
    Calls Tryz.prog 24 #[.int .i64 (n : Int), .slice A m c, reqv 2 arg prio need] w fun e w' => ∃ g, e = .returned (.tuple #[.slice (some ⟨g, 0, none⟩) n n, .int .i64 ((kruns 2 arg n l : Nat) : Int), .int .i64 0]) ∧ w.heap.size ≤ g ∧ RowU w' g (kout 2 arg n l) ∧ Fr (fun _ => False) w w' := by
  obtain ⟨W1, hW1⟩ : ∃ W1, W1 = w.alloc (reqc 2 arg prio need) := ⟨_, rfl⟩
  have F1 : Fr (fun _ => False) w W1 := by rw [hW1]; exact (Fr.refl _ _).alloc _
  have b1 : Blk W1 w.heap.size 45 #[.int .i64 2, .int .i64 (arg : Int), .int .i64 (prio : Int), .int .i64 need] := by rw [hW1]; exact Blk.new _ _ _
  have HB := hide b1
  have hE1 := h.up F1
  have HE := hide hE1
  have HF1 := hide F1
  have HZ := hide hW1
  have HNO := hide (tnormal_ok A n m c l W1 hE1 hm (by omega) hs h1 (by omega) hl)
  have HQ := hide (fun (B : Option Addr) (d : Nat) (W : World) (hf : Fr (fun _ => False) W1 W) (h' : EdgesAt W B l) => equal_ok A B m c d l W (hE1.up hf) h' hm (by omega))
  have HCK := hide (fun w => tcheck_ok 2 arg prio n need h1 (by omega) hp hk w)
  have HOF := hide (fun (W : World) (hf : Fr (fun _ => False) W1 W) => trof_ok A n m c l W (hE1.up hf) hm (by omega) h1 (by omega) hl)
  have HL := hide hl
  unfold reqv reqc at *
  clear h F1 hE1 hs b1 hW1
  go_enter Tryz.func24, Tryz.ntmps24
  go_wp2_with fail
  try simp only [show ((2 : Nat) : Int) = 2 from rfl] at HZ
  rw [← HZ.out]
  go_at_call 31
  refine HNO.out.mono ?_
  rintro e w2 ⟨A2, c2, rfl, hE2, hf⟩
  have HE2 := hide hE2
  have HF2 := hide hf
  clear hE2 hf
  go_wp2_with fail
  go_at_call 32
  refine (HQ.out A2 c2 w2 HF2.out HE2.out).mono ?_
  rintro e w3 ⟨rfl, hf⟩
  have HF3 := hide (HF2.out.then_ hf)
  have x0 := ((HB.out.fr HF3.out id).cell 0).trans rfl
  have x1 := ((HB.out.fr HF3.out id).cell 1).trans rfl
  have x2 := ((HB.out.fr HF3.out id).cell 2).trans rfl
  have x3 := ((HB.out.fr HF3.out id).cell 3).trans rfl
  clear hf HE2
  go_wp2_with fail
  go_at_call 17
  refine (HCK.out w3).mono ?_
  rintro e w4 ⟨rfl, hf⟩
  have HF4 := hide (HF3.out.then_ hf)
  clear hf x0 x1 x2 x3
  go_wp2_with fail
  go_at_call 33
  refine (HOF.out w4 HF4.out).mono ?_
  rintro e w5 ⟨H, Bg, o, a, rfl, hG, hf⟩
  obtain ⟨W6, hW6⟩ : ∃ W6, W6 = w5.alloc (.cells #[.int .i64 (n : Int), .slice (some ⟨o, 0, none⟩) n n, .slice (some ⟨a, 0, none⟩) n n] 96) := ⟨_, rfl⟩
  have F6 : Fr (fun _ => False) w5 W6 := by rw [hW6]; exact (Fr.refl _ _).alloc _
  have b6 : Blk W6 w5.heap.size 96 #[.int .i64 (n : Int), .slice (some ⟨o, 0, none⟩) n n, .slice (some ⟨a, 0, none⟩) n n] := by rw [hW6]; exact Blk.new _ _ _
  have HG6 := hide (hG.up F6)
  have HF6 := hide (HF4.out.then_ (hf.then_ F6))
  have HZ6 := hide hW6
  have bq := HB.out.fr HF6.out id
  have HCL := hide (fun W (hf : Fr (fun _ => False) W6 W) => (⟨((bq.fr hf id).cell 0).trans rfl, ((bq.fr hf id).cell 1).trans rfl, ((b6.fr hf id).cell 0).trans rfl, ((b6.fr hf id).cell 1).trans rfl, ((b6.fr hf id).cell 2).trans rfl⟩ :
    W.cell? ⟨w.heap.size, 0, none⟩ = some (.int .i64 2) ∧ W.cell? ⟨w.heap.size, 1, none⟩ = some (.int .i64 (arg : Int)) ∧ W.cell? ⟨w5.heap.size, 0, none⟩ = some (.int .i64 (n : Int)) ∧ W.cell? ⟨w5.heap.size, 1, none⟩ = some (.slice (some ⟨o, 0, none⟩) n n) ∧ W.cell? ⟨w5.heap.size, 2, none⟩ = some (.slice (some ⟨a, 0, none⟩) n n)))
  have x0 : (w5.alloc (.cells #[.int .i64 (n : Int), .slice (some ⟨o, 0, none⟩) n n, .slice (some ⟨a, 0, none⟩) n n] 96)).cell? ⟨w.heap.size, 0, none⟩ = some (.int .i64 2) := by rw [← hW6]; exact (HCL.out W6 (Fr.refl _ _)).1
  clear hG hf F6 b6 bq hW6
  go_wp2_with fail
  rw [← HZ6.out]
  refine wp_region_ord [(0, true), (1, true), (2, true), (4, true), (5, true), (3, false), (6, true), (7, true), (8, true)] (fun W => Fr (fun _ => False) W6 W) (by kernel_rfl) (by kernel_rfl) (Fr.refl _ _).drew ?_
  iterate 5
    refine ord_read rfl ?_ ?_ (fun W hS => ?_) ?_
    · rfl
    rotate_left
    · (obtain ⟨s0, s1, s2, s3, s4⟩ := HCL.out _ hS; go_simp; try with_reducible rfl)
    simp only [List.getElem_toArray, List.getElem_cons_zero, List.getElem_cons_succ, Act.put, List.setIfInBounds_toArray, List.set_cons_zero, List.set_cons_succ]

  refine ord_act rfl ?_
  go_wp2_with fail
  go_at_call 36
  refine (trank_ok H Bg o a n arg l W6.drew (HG6.out.up (Fr.refl _ _).drew) h1 (by omega) (by unfold okK at hk; omega) (by omega) HL.out).mono ?_
  rintro e w7 ⟨g, rfl, hg, hr, hf⟩
  have HR7 := hide hr
  have HF7 := hide ((Fr.refl (fun _ => False) W6).drew.then_ hf)
  clear hr hf
  go_wp2
  refine midQ_ok HF7.out ?_
  iterate 3
    refine ord_read rfl ?_ ?_ (fun W hS => ?_) ?_
    · rfl
    rotate_left
    · (skip; go_simp; try with_reducible rfl)
    simp only [List.getElem_toArray, List.getElem_cons_zero, List.getElem_cons_succ, Act.put, List.setIfInBounds_toArray, List.set_cons_zero, List.set_cons_succ]

  refine ord_done ?_
  refine NoPanic.normal ?_
  go_wp2
  go_ret3
  have sz := HF6.out.size
  have sz1 := HF1.out.size
  obtain ⟨r1, r2⟩ := rank_runs' arg l n HL.out (by unfold okK at hk; omega)
  exact ⟨g, by rw [r1]; rfl, by show w.heap.size ≤ g; have : W6.heap.size ≤ g := hg; omega, by rw [r2]; exact HR7.out, HF1.out.trans (HF6.out.then_ HF7.out) (fun k h => h.elim)⟩
set_option maxHeartbeats 1600000 in
theorem tof2 (A : Option Addr) (n m c arg prio : Nat) (need : Int) (l : List E) (w : World) (h : EdgesAt w A l) (hm : l.length = m) (hmx : m ≤ 400) (hs : Gr.Sorted l) (h1 : 1 ≤ n) (h2 : n ≤ 60) (hl : ∀ e ∈ l, e.1 < n ∧ e.2 < n ∧ e.1 ≠ e.2) (hp : prio ≤ 7) (hk : okK 2 arg n) :
    Calls Tryz.prog 11 #[.int .i64 (n : Int), .slice A m c, reqv 2 arg prio need] w fun e w' => ∃ g, e = .returned (.tuple #[.slice (some ⟨g, 0, none⟩) n n, .int .i64 0]) ∧ w.heap.size ≤ g ∧ RowU w' g (kout 2 arg n l) ∧ Fr (fun _ => False) w w' := by
  have F1 := hide ((Fr.refl (fun _ => False) w).alloc (reqc 2 arg prio need))
  have HR := hide (fun (W : World) (hf : Fr (fun _ => False) w W) => trun2 A n m c arg prio need l W (h.up hf) hm hmx hs h1 h2 hl hp hk)
  have HZ := hide (show (w.alloc (reqc 2 arg prio need)).heap.size = w.heap.size + 1 by simp)
  clear h hs hl hk
  unfold reqv reqc at *
  go_enter Tryz.func11, Tryz.ntmps11
  go_wp2_with fail
  go_at_call 24
  refine (HR.out _ F1.out).mono ?_
  rintro e w1 ⟨g, rfl, hg, hr, hf⟩
  have HB := hide hr
  have HF := hide (F1.out.then_ hf)
  have hg2 : w.heap.size ≤ g := by have := HZ.out; omega
  clear hr hf hg
  go_wp2
  go_ret2
  exact ⟨g, by first | rfl | trivial, hg2, HB.out, HF.out⟩
set_option maxHeartbeats 1600000 in
theorem trounds2 (A : Option Addr) (n m c arg prio : Nat) (need : Int) (l : List E) (w : World) (h : EdgesAt w A l) (hm : l.length = m) (hmx : m ≤ 400) (hs : Gr.Sorted l) (h1 : 1 ≤ n) (h2 : n ≤ 60) (hl : ∀ e ∈ l, e.1 < n ∧ e.2 < n ∧ e.1 ≠ e.2) (hp : prio ≤ 7) (hk : okK 2 arg n) :
    Calls Tryz.prog 12 #[.int .i64 (n : Int), .slice A m c, reqv 2 arg prio need] w fun e w' => ∃ g, e = .returned (.tuple #[.int .i64 ((kruns 2 arg n l : Nat) : Int), .int .i64 0]) ∧ w.heap.size ≤ g ∧ RowU w' g (kout 2 arg n l) ∧ Fr (fun _ => False) w w' := by
  have F1 := hide ((Fr.refl (fun _ => False) w).alloc (reqc 2 arg prio need))
  have HR := hide (fun (W : World) (hf : Fr (fun _ => False) w W) => trun2 A n m c arg prio need l W (h.up hf) hm hmx hs h1 h2 hl hp hk)
  have HZ := hide (show (w.alloc (reqc 2 arg prio need)).heap.size = w.heap.size + 1 by simp)
  clear h hs hl hk
  unfold reqv reqc at *
  go_enter Tryz.func12, Tryz.ntmps12
  go_wp2_with fail
  go_at_call 24
  refine (HR.out _ F1.out).mono ?_
  rintro e w1 ⟨g, rfl, hg, hr, hf⟩
  have HB := hide hr
  have HF := hide (F1.out.then_ hf)
  have hg2 : w.heap.size ≤ g := by have := HZ.out; omega
  clear hr hf hg
  go_wp2
  go_ret2
  exact ⟨g, by first | rfl | trivial, hg2, HB.out, HF.out⟩
end Go.Proofs.YtjdbjahgimlhbaaGreat
end
section
set_option linter.unusedVariables false
set_option maxRecDepth 100000
namespace Go.Proofs.YtjdbjahgimlhbaaGreat
open Go.RowKit
open Gr (E T)

/-- the degree behind so many neighbours -/
def degJ (X ns : List Nat) (j : Nat) : Nat := ((ns.take j).map fun u => X.getD u 0).sum
theorem degJ_succ (X ns : List Nat) {j : Nat} (hj : j < ns.length) : degJ X ns (j + 1) = degJ X ns j + X.getD ns[j] 0 := by
  unfold degJ
  rw [List.take_succ_eq_append_getElem hj, List.map_append, List.sum_append]
  simp
theorem degJ_le (X ns : List Nat) (hX : ∀ v, X.getD v 0 ≤ 1) : ∀ j, degJ X ns j ≤ j
  | 0 => by simp [degJ]
  | j + 1 => by
    by_cases hj : j < ns.length
    · rw [degJ_succ X ns hj]
      have := degJ_le X ns hX j
      have := hX ns[j]
      omega
    · have h1 : ns.take (j + 1) = ns.take j := by rw [List.take_of_length_le (by omega), List.take_of_length_le (by omega)]
      have := degJ_le X ns hX j
      unfold degJ at *
      rw [h1]
      omega
theorem degJ_all (X : List Nat) (l : List E) (v : Nat) : degJ X (Gr.alls l v) (Gr.alls l v).length = Gr.tdeg l X v := by
  unfold degJ Gr.tdeg
  rw [List.take_of_length_le (Nat.le_refl _)]
/-- who goes, of the first so many -/
def goneK (k : Nat) (l : List E) (X : List Nat) (v : Nat) : List Nat := (List.range v).filter (Gr.tgoes k l X)
theorem goneK_succ (k : Nat) (l : List E) (X : List Nat) (v : Nat) : goneK k l X (v + 1) = goneK k l X v ++ if Gr.tgoes k l X v then [v] else [] := by
  unfold goneK
  rw [List.range_succ, List.filter_append]
  congr 1
  by_cases h : Gr.tgoes k l X v <;> simp [h]
theorem goneK_len (k : Nat) (l : List E) (X : List Nat) (v : Nat) : (goneK k l X v).length ≤ v := by
  unfold goneK
  have := List.length_filter_le (Gr.tgoes k l X) (List.range v)
  rwa [List.length_range] at this
theorem goneK_mem {k : Nat} {l : List E} {X : List Nat} {v u : Nat} : u ∈ goneK k l X v ↔ u < v ∧ Gr.tgoes k l X u = true := by
  unfold goneK
  rw [List.mem_filter, List.mem_range]
/-- the first so many of them, gone -/
def wipe (X G : List Nat) (j : Nat) : List Nat := (G.take j).foldl (fun X v => X.set v 0) X
theorem wipe_zero (X G : List Nat) : wipe X G 0 = X := by simp [wipe]
theorem wipe_succ (X G : List Nat) {j : Nat} (hj : j < G.length) : wipe X G (j + 1) = (wipe X G j).set G[j] 0 := by
  unfold wipe
  rw [List.take_succ_eq_append_getElem hj, List.foldl_append]
  rfl
theorem zeros_len : ∀ (G X : List Nat), (G.foldl (fun X v => X.set v 0) X).length = X.length
  | [], _ => rfl
  | g :: G, X => by rw [List.foldl_cons, zeros_len]; simp
theorem zeros_get : ∀ (G X : List Nat) (v : Nat), (G.foldl (fun X v => X.set v 0) X).getD v 0 = if v ∈ G then 0 else X.getD v 0
  | [], X, v => by simp
  | g :: G, X, v => by
    rw [List.foldl_cons, zeros_get G _ v]
    by_cases h : v ∈ G
    · simp [h]
    · by_cases hg : v = g
      · subst hg
        simp only [h, if_false, List.mem_cons, true_or, if_true]
        rw [List.getD_eq_getElem?_getD, List.getElem?_set]
        simp
        split <;> rfl
      · simp only [h, if_false, List.mem_cons, hg, or_self]
        rw [List.getD_eq_getElem?_getD, List.getElem?_set_ne (Ne.symm hg), ← List.getD_eq_getElem?_getD]
theorem wipe_len (X G : List Nat) (j : Nat) : (wipe X G j).length = X.length := zeros_len _ _
theorem wipe_all (k : Nat) (l : List E) (n : Nat) (hl : l.length ≤ 4000) (r : Nat) :
    wipe (Gr.crun (k : Int) n (Gr.flat l) r).1 (goneK k l (Gr.crun (k : Int) n (Gr.flat l) r).1 n) (goneK k l (Gr.crun (k : Int) n (Gr.flat l) r).1 n).length = (Gr.crun (k : Int) n (Gr.flat l) (r + 1)).1 := by
  have e : wipe (Gr.crun (k : Int) n (Gr.flat l) r).1 (goneK k l (Gr.crun (k : Int) n (Gr.flat l) r).1 n) (goneK k l (Gr.crun (k : Int) n (Gr.flat l) r).1 n).length = (goneK k l (Gr.crun (k : Int) n (Gr.flat l) r).1 n).foldl (fun X v => X.set v 0) (Gr.crun (k : Int) n (Gr.flat l) r).1 := by
    unfold wipe
    rw [List.take_of_length_le (Nat.le_refl _)]
  rw [e]
  apply Gr.row_ext (by rw [zeros_len, (Gr.crun_len _ n (Gr.flat l) (r + 1)).1, (Gr.crun_len _ n (Gr.flat l) r).1])
  intro v hv
  rw [zeros_len, (Gr.crun_len _ n (Gr.flat l) r).1] at hv
  rw [zeros_get, Gr.tgoes_next k l n hl r hv]
  by_cases h : Gr.tgoes k l (Gr.crun (k : Int) n (Gr.flat l) r).1 v
  · rw [if_pos (goneK_mem.2 ⟨hv, h⟩), if_pos h]
  · rw [if_neg (fun h' => h (goneK_mem.1 h').2), if_neg h]
theorem gone_none {k : Nat} {l : List E} {X : List Nat} {n : Nat} (h : goneK k l X n = []) {v : Nat} (hv : v < n) : Gr.tgoes k l X v = false := by
  cases hg : Gr.tgoes k l X v
  · rfl
  · have := goneK_mem.2 ⟨hv, hg⟩
    rw [h] at this
    cases this
theorem gone_some {k : Nat} {l : List E} {X : List Nat} {n : Nat} (h : goneK k l X n ≠ []) : ∃ v, v < n ∧ Gr.tgoes k l X v = true := by
  obtain ⟨v, hv⟩ := List.exists_mem_of_ne_nil _ h
  exact ⟨v, goneK_mem.1 hv⟩
set_option maxHeartbeats 8000000 in
theorem tcores_ok (H B o a n k : Nat) (l : List E) (w : World) (hG : GAt w H B o a n ((List.range n).map (Gr.outs l)) ((List.range n).map (Gr.alls l))) (hn : 1 ≤ n) (hn2 : n ≤ 256) (hk : k ≤ 1000000) (hlm : l.length ≤ 4000) (hl : ∀ e ∈ l, e.1 < n ∧ e.2 < n ∧ e.1 ≠ e.2) :
    Calls Tryz.prog 38 #[.agg #[.int .i64 (n : Int), .slice (some ⟨o, 0, none⟩) n n, .slice (some ⟨a, 0, none⟩) n n], .int .i64 (k : Int)] w fun e w' => ∃ g r : Nat, e = .returned (.tuple #[.slice (some ⟨g, 0, none⟩) n n, .int .i64 (r : Int)]) ∧ w.heap.size ≤ g ∧ RowU w' g (Gr.crun (k : Int) n (Gr.flat l) r).1 ∧ r ≤ n ∧
      (∀ v, v < n → Gr.tgoes k l (Gr.crun (k : Int) n (Gr.flat l) r).1 v = false) ∧ (∀ j, j < r → ∃ v, v < n ∧ Gr.tgoes k l (Gr.crun (k : Int) n (Gr.flat l) j).1 v = true) ∧ Fr (fun _ => False) w w' := by
  obtain ⟨i1, hj, hj0, hj1, hj2⟩ := info_parts int_info
  obtain ⟨W1, hW1⟩ : ∃ W1, W1 = w.alloc (.cells #[.int .i64 (n : Int), .slice (some ⟨o, 0, none⟩) n n, .slice (some ⟨a, 0, none⟩) n n] 96) := ⟨_, rfl⟩
  have F1 : Fr (fun _ => False) w W1 := by rw [hW1]; exact (Fr.refl _ _).alloc _
  have b1 : Blk W1 w.heap.size 96 #[.int .i64 (n : Int), .slice (some ⟨o, 0, none⟩) n n, .slice (some ⟨a, 0, none⟩) n n] := by rw [hW1]; exact Blk.new _ _ _
  have HB := hide b1
  have HG := hide (hG.up F1)
  have HF1 := hide F1
  have HL := hide hl
  have HZ := hide hW1
  have s1 : W1.heap.size = w.heap.size + 1 := by rw [hW1]; simp
  have HLT := hide (show a < w.heap.size from hG.ltA)
  have HFL := hide (fun x w => fill_ok n x hn hn2 w)
  have HXL := hide (fun r => (Gr.crun_len (k : Int) n (Gr.flat l) r).1)
  have HX1 := hide (Gr.crun_one k l n hlm)
  have HAN := hide (fun r v => Gr.alive_next k l n hlm r (v := v))
  have HWA := hide (wipe_all k l n hlm)
  have HA0 := hide (Gr.alive_zero k l n hlm)
  have hX0 : (Gr.crun (k : Int) n (Gr.flat l) 0).1 = List.replicate n 1 := by
    show cores.bX n = _
    unfold cores.bX
    exact Gr.map_const n 1
  have HX0 := hide hX0
  have c0 := (b1.cell 0).trans rfl
  clear hG F1 b1 hl hW1 hX0
  go_enter Tryz.func38, Tryz.ntmps38
  go_wp2_with fail
  rw [← HZ.out]
  go_at_call 75
  refine (HFL.out 1 _).mono ?_
  rintro e w2 ⟨g, rfl, hg, hrow, hf⟩
  have HR2 := hide hrow
  have HF2 := hide hf
  have lg := hrow.lt
  rw [← HX0.out] at HR2
  clear hrow hf c0
  go_wp2_with fail
  go_loopw [7] (fun i wr => ∃ r : Nat, i = .int .i64 (r : Int) ∧ r + Gr.alive k l n r ≤ n ∧ Hid ((∀ j, j < r → ∃ v, v < n ∧ Gr.tgoes k l (Gr.crun (k : Int) n (Gr.flat l) j).1 v = true) ∧ RowU wr g (Gr.crun (k : Int) n (Gr.flat l) r).1 ∧ Fr (fun _ => False) W1 wr)) (fun i _ => n - (intOf i).toNat)
  case atStart => exact ⟨0, rfl, by have := HA0.out; omega, fun j hj => absurd hj (by omega), HR2.out, HF2.out⟩
  case round =>
    obtain ⟨r, rfl, hrn, HI⟩ := hrel
    have HX := hide (HXL.out r)
    have HXO := hide (HX1.out r)
    have HAN1 := hide (HAN.out r)
    have HWA1 := hide (HWA.out r)
    obtain ⟨X, hX⟩ : ∃ X, (Gr.crun (k : Int) n (Gr.flat l) r).1 = X := ⟨_, rfl⟩
    have HXE := hide hX
    rw [hX] at HX HXO HAN1 HWA1 HI
    clear hX
    have HBr := hide (HB.out.fr HI.out.2.2 id)
    have c0 := (HBr.out.cell 0).trans rfl
    have szr := HI.out.2.2.size
    have lgr := HI.out.2.1.lt
    generalize hwo : wr = wo at *
    go_wp2_with fail
    go_loopw [8, 20] (fun gv i wr => ∃ (v q : Nat) (A : Option Addr) (c : Nat), v ≤ n ∧ i = .int .i64 (v : Int) ∧ gv = .slice A q c ∧ q ≤ v ∧ Hid ((goneK k l X v).length = q ∧ wr.ownsRow wo.heap.size 3 1 (.slice A q c) q (ivals (goneK k l X v)) ∧ Fr (fun _ => False) wo wr)) (fun _ i _ => n - (intOf i).toNat)
    case atStart => exact ⟨0, 0, none, 0, by omega, rfl, rfl, by omega, rfl, World.ownsRow_nil _ _ _ _, (Fr.refl _ _)⟩
    case round =>
      obtain ⟨v, q, A, c, hv, rfl, rfl, hq, HJ⟩ := hrel
      by_cases hvn : v < n
      · obtain ⟨A3, c3, hv3, ho3⟩ := HG.out.allRow (i := v) (l := Gr.alls l v) (map_at _ hvn)
        have HFr := hide (HI.out.2.2.then_ HJ.out.2.2)
        have HRD := hide (Reads.of_own ho3)
        have hv2 := HFr.out.cell hv3 id
        have HVN := hide (fun j (hj : j < (Gr.alls l v).length) => (show (Gr.alls l v)[j] < n from by
          rcases (Gr.alls_mem l v _).1 (List.getElem_mem hj) with h | h
          · exact (HL.out _ h).2.1
          · exact (HL.out _ h).1))
        have HST := hide (fun j (hj : j < (Gr.alls l v).length) => degJ_succ X (Gr.alls l v) hj)
        have HDL := hide (degJ_le X (Gr.alls l v) HXO.out)
        have HAL := hide (degJ_all X l v)
        have HQB := hide (show (Gr.alls l v).length ≤ 8000 from Nat.le_trans (alls_len_le l v) (by omega))
        generalize Gr.alls l v = ys at *
        obtain ⟨m, hm⟩ : ∃ m, ys.length = m := ⟨_, rfl⟩
        have HM := hide hm
        rw [hm] at hv2 HRD HAL HQB
        have hqb := HQB.out
        have e0 : (0 : Int) ≤ (v : Int) := by omega
        have e1 : (v : Int) < (n : Int) := by omega
        have c2 := ((HB.out.fr HFr.out id).cell 2).trans rfl
        clear hv3 ho3 hm
        generalize hwp : wr = wp at *
        go_wp2_with fail
        go_loopw [10, 29] (fun dv i wr => ∃ j : Nat, j ≤ m ∧ i = .int .i64 (j : Int) ∧ dv = .int .i64 (degJ X ys j : Int) ∧ Hid (Fr (fun _ => False) wp wr)) (fun _ i _ => m - (intOf i).toNat)
        case atStart => exact ⟨0, by omega, rfl, by simp [degJ], (Fr.refl _ _)⟩
        case round =>
          obtain ⟨j, hjm, rfl, rfl, HK⟩ := hrel
          have hdl := HDL.out j
          have HFk := hide (HFr.out.then_ HK.out)
          by_cases hjq : j < m
          · have lj : j < ys.length := by rw [HM.out]; exact hjq
            have HN1 := hide (HST.out j lj)
            have hvn2 := HVN.out j lj
            obtain ⟨b, o2, e, hb, hcs⟩ := (HRD.out.up HFk.out).2 (by omega)
            have hc := hcs j (.int .i64 (ys[j] : Int)) (by rw [ivals, List.getElem?_map, List.getElem?_eq_getElem lj]; rfl)
            subst e
            generalize ys[j]'lj = u at *
            have hc1 := (HI.out.2.1.fr (HJ.out.2.2.then_ HK.out) id).cell (i := u) (by rw [HX.out]; exact hvn2)
            have hx1 := HXO.out u
            generalize X.getD u 0 = x at *
            generalize hdj : degJ X ys j = dj at *
            have f0 : (0 : Int) ≤ (j : Int) := by omega
            have f1 : (j : Int) < (m : Int) := by omega
            have f2 : (0 : Int) ≤ (u : Int) := by omega
            have f3 : (u : Int) < (n : Int) := by omega
            have f5 : IntKind.i64.wrap (x : Int) = (x : Int) := by simp only [IntKind.wrap, IntKind.bits, IntKind.signed]; simp; omega
            clear hcs
            go_wp2
            go_roundw
            case rel => exact ⟨j + 1, by omega, by go_num, by rw [HN1.out]; go_num, HK⟩
            case measure => simp [intOf]; omega
          · obtain rfl : j = m := by omega
            rw [HAL.out]
            rw [HAL.out] at hdl
            have hc1 := (HI.out.2.1.fr (HJ.out.2.2.then_ HK.out) id).cell (i := v) (by rw [HX.out]; exact hvn)
            have hx1 := HXO.out v
            have HT := hide (show Gr.tgoes k l X v = (decide (X.getD v 0 = 1) && decide (Gr.tdeg l X v < k)) from rfl)
            have HGS := hide (goneK_succ k l X v)
            generalize Gr.tgoes k l X v = tg at *
            generalize X.getD v 0 = x at *
            generalize Gr.tdeg l X v = dg at *
            have HRS := hide (own_frS HJ.out.2.1 HK.out (fun k _ h => h))
            have HFs := hide (HJ.out.2.2.then_ HK.out)
            have hcs : x = 0 ∨ (x = 1 ∧ dg < k) ∨ (x = 1 ∧ ¬ dg < k) := by omega
            rcases hcs with rfl | ⟨rfl, hd⟩ | ⟨rfl, hd⟩
            · have HG1 := hide (show goneK k l X (v + 1) = goneK k l X v by rw [HGS.out, HT.out]; simp)
              go_wp2
              go_roundw
              case rel => exact ⟨v + 1, q, A, c, by omega, by go_num, rfl, by omega, by rw [HG1.out]; exact HJ.out.1, by rw [HG1.out]; exact HRS.out, HFs.out⟩
              case measure => simp [intOf]; omega
            · have HG1 := hide (show goneK k l X (v + 1) = goneK k l X v ++ [v] by rw [HGS.out, HT.out]; simp [hd])
              have hown := HRS.out
              have hdz : ((dg : Int) < (k : Int)) := by omega
              go_wp2_with (at_builtin; refine wpList_append_box wr _ _ rfl (.tmp 51) (.tmp 53) _ rfl wo.heap.size 3 i1 _ 1 8 Tryz.underlying37 hj hj0 hj1 hj2 rfl (by decide) _ _ _ rfl hown rfl rfl ?c1 ?c2 ?c3 ?c4 ?c5)
              case c1 => simp [Value.oneCell']
              case c2 => unfold maxLen; omega
              case c3 => omega
              case c4 => exact HFs.out.size
              case c5 =>
                intro v5 w5 hown5 hg5 hn5
                obtain ⟨A5, c5, rfl⟩ := Reads.own_val hown5
                have HO5 := hide (show w5.ownsRow wo.heap.size 3 1 (.slice A5 (q + 1) c5) (q + 1) (ivals (goneK k l X (v + 1))) by
                  rw [HG1.out, show ivals (goneK k l X v ++ [v]) = ivals (goneK k l X v) ++ [.int .i64 (v : Int)] by simp [ivals]]
                  exact hown5)
                have HF5 := hide (HFs.out.grown hg5 (fun k hk => .inr ((hown.lt k hk).1)))
                have HQ5 := hide (show (goneK k l X (v + 1)).length = q + 1 by rw [HG1.out, List.length_append, HJ.out.1]; rfl)
                clear hown5 hg5 hn5 hown
                go_wp2
                go_roundw
                case rel => exact ⟨v + 1, q + 1, A5, c5, by omega, by go_num, rfl, by omega, HQ5.out, HO5.out, HF5.out⟩
                case measure => simp [intOf]; omega
            · have HG1 := hide (show goneK k l X (v + 1) = goneK k l X v by rw [HGS.out, HT.out]; simp [hd])
              have hdz : ¬ ((dg : Int) < (k : Int)) := by omega
              go_wp2
              go_roundw
              case rel => exact ⟨v + 1, q, A, c, by omega, by go_num, rfl, by omega, by rw [HG1.out]; exact HJ.out.1, by rw [HG1.out]; exact HRS.out, HFs.out⟩
              case measure => simp [intOf]; omega
      · obtain rfl : v = n := by omega
        have HRW := hide (HI.out.2.1.fr HJ.out.2.2 id)
        have HFr := hide (HI.out.2.2.then_ HJ.out.2.2)
        by_cases hq0 : q = 0
        · subst hq0
          have HN := hide (fun u (hu : u < v) => gone_none (List.length_eq_zero_iff.1 HJ.out.1) hu)
          go_wp2
          go_ret2
          exact ⟨g, r, rfl, by omega, by rw [HXE.out]; exact HRW.out, by omega, by rw [HXE.out]; exact HN.out, HI.out.1, HF1.out.trans HFr.out (fun k h => h.elim)⟩
        · obtain ⟨u0, hu0, hg0⟩ := gone_some (k := k) (l := l) (X := X) (n := v) (fun h => hq0 (by rw [← HJ.out.1, h]; rfl))
          have hal := HAN1.out u0 hu0 hg0
          have HEX := hide (show ∀ j, j < r + 1 → ∃ u, u < v ∧ Gr.tgoes k l (Gr.crun (k : Int) v (Gr.flat l) j).1 u = true from fun j hj => by
            by_cases h : j < r
            · exact HI.out.1 j h
            · obtain rfl : j = r := by omega
              exact ⟨u0, hu0, by rw [HXE.out]; exact hg0⟩)
          have HRD := hide (ReadsIn.of_own HJ.out.2.1)
          have HGL := hide HJ.out.1
          have HGM := hide (fun u (hu : u ∈ goneK k l X v) => (goneK_mem.1 hu).1)
          have HW0 := hide (wipe_zero X (goneK k l X v))
          have HWS := hide (fun j (hj : j < (goneK k l X v).length) => wipe_succ X (goneK k l X v) hj)
          have HWL := hide (wipe_len X (goneK k l X v))
          generalize goneK k l X v = G at *
          rw [HGL.out] at HWA1
          have szw := HJ.out.2.2.size
          clear HJ
          generalize hwp : wr = wp at *
          go_wp2_with fail
          go_loopw [63] (fun i wr => ∃ j : Nat, j ≤ q ∧ i = .int .i64 (j : Int) ∧ Hid (RowU wr g (wipe X G j) ∧ Fr (fun x => x = g) wp wr)) (fun i _ => q - (intOf i).toNat)
          case atStart => exact ⟨0, by omega, rfl, by rw [HW0.out]; exact HRW.out, Fr.refl _ _⟩
          case round =>
            obtain ⟨j, hjq, rfl, HK⟩ := hrel
            by_cases hjl : j < q
            · have lj : j < G.length := by rw [HGL.out]; exact hjl
              have HN1 := hide (HWS.out j lj)
              have hun := HGM.out _ (List.getElem_mem lj)
              obtain ⟨b, o2, e, hlo, hb, hcs⟩ := (HRD.out.fr HK.out.2 (by omega)).2 (by omega)
              have hc := hcs j (.int .i64 (G[j] : Int)) (by rw [ivals, List.getElem?_map, List.getElem?_eq_getElem lj]; rfl)
              subst e
              generalize G[j]'lj = u at *
              have hfz := HK.out.1.frozen u
              have hlw : u < (wipe X G j).length := by rw [HWL.out, HX.out]; exact hun
              have hc1 := HK.out.1.cell hlw
              have HS2 := hide (RowU.set HK.out.1 u 0)
              rw [← HN1.out] at HS2
              have HF2 := hide (HK.out.2.setCell (p := ⟨g, u, none⟩) (.inl rfl) (.int .u64 0))
              generalize (wipe X G j).getD u 0 = y at *
              have f0 : (0 : Int) ≤ (j : Int) := by omega
              have f1 : (j : Int) < (q : Int) := by omega
              have f2 : (0 : Int) ≤ (u : Int) := by omega
              have f3 : (u : Int) < (v : Int) := by omega
              clear hcs
              go_wp2
              go_roundw
              case rel => exact ⟨j + 1, by omega, by go_num, HS2.out, HF2.out⟩
              case measure => simp [intOf]; omega
            · obtain rfl : j = q := by omega
              have HRN := hide (show RowU wr g (Gr.crun (k : Int) v (Gr.flat l) (r + 1)).1 by rw [← HWA1.out]; exact HK.out.1)
              have HFN := hide (HFr.out.trans HK.out.2 (fun k h => .inr (by omega)))
              go_wp2
              go_roundw
              case rel => exact ⟨r + 1, by go_num, by omega, HEX.out, HRN.out, HFN.out⟩
              case measure => simp [intOf]; omega
end Go.Proofs.YtjdbjahgimlhbaaGreat
end
section
set_option linter.unusedVariables false
namespace Go.Proofs.YtjdbjahgimlhbaaGreat
open Go.RowKit
open Gr (E T)

theorem stop_lt {d : Nat → Bool} {b j : Nat} (h : j + 1 < stopAt d b) : d j = false := by
  unfold stopAt at h
  cases hf : (List.range b).find? d with
  | none =>
    rw [hf] at h
    have := List.find?_eq_none.1 hf j (List.mem_range.2 (by simp only at h; omega))
    simpa using this
  | some r =>
    rw [hf] at h
    simp only at h
    have := (List.find?_range_eq_some (i := r) (p := d)).1 hf
    have := this.2.2 j (by omega)
    simpa using this
/-- a job ends, being done -/
def KEnd (k arg n : Nat) (l : List E) : Prop := 1 ≤ kruns k arg n l ∧ kdn (kdOf k arg) n [Gr.flat l] (kruns k arg n l - 1) = true
theorem KEnd.at {k arg n : Nat} {l : List E} (h : KEnd k arg n l) {r : Nat} (hr : r < kruns k arg n l) : kdn (kdOf k arg) n [Gr.flat l] r = decide (r + 1 = kruns k arg n l) := by
  by_cases he : r + 1 = kruns k arg n l
  · have h2 := h.2
    rw [← he, Nat.add_sub_cancel] at h2
    rw [h2]; simp [he]
  · rw [stop_lt (b := bnd k arg n) (show r + 1 < stopAt (kdn (kdOf k arg) n [Gr.flat l]) (bnd k arg n) from by show r + 1 < kruns k arg n l; omega)]
    simp [he]
theorem stop_le (d : Nat → Bool) (b : Nat) : stopAt d b ≤ b := by
  unfold stopAt
  cases hf : (List.range b).find? d with
  | none => exact Nat.le_refl _
  | some r =>
    have := (List.find?_range_eq_some (i := r) (p := d)).1 hf
    have := List.mem_range.1 (this.2.1)
    simp only
    omega
theorem kruns_le (k arg n : Nat) (l : List E) : kruns k arg n l ≤ bnd k arg n := stop_le _ _
end Go.Proofs.YtjdbjahgimlhbaaGreat
end
