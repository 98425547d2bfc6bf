/- Parts of the proof of KernelsTruth: no conditions of their own. -/
import Derived.Test.YtjdbjahgimlhbaaGreatKernelsTruthPk6
import Derived.Test.YtjdbjahgimlhbaaGreatKernelsTruthPk8
import Derived.Test.YtjdbjahgimlhbaaGreatKernelsTruthPk9
import Derived.Test.YtjdbjahgimlhbaaGreatKernelsTruthPk4
import Derived.Test.YtjdbjahgimlhbaaGreatKernelsTruthPk5
section
set_option linter.unusedVariables false
namespace Go.Proofs.YtjdbjahgimlhbaaGreat.Gr
open Go.RowKit

/-- a number of a row, changed -/
def upd (s : List Nat) (v : Nat) (g : Nat → Nat) : List Nat := s.set v (g (s.getD v 0))
theorem upd_len (s : List Nat) (v : Nat) (g : Nat → Nat) : (upd s v g).length = s.length := by simp [upd]
theorem upd_get (s : List Nat) (v : Nat) (g : Nat → Nat) (i : Nat) : (upd s v g).getD i 0 = if v = i ∧ i < s.length then g (s.getD i 0) else s.getD i 0 := by
  unfold upd
  simp only [List.getD_eq_getElem?_getD, List.getElem?_set]
  by_cases h : v = i
  · subst h
    by_cases h2 : v < s.length
    · simp [h2]
    · simp [h2]
  · simp [h]
theorem row_ext {s t : List Nat} (hl : s.length = t.length) (h : ∀ i, i < s.length → s.getD i 0 = t.getD i 0) : s = t := by
  apply List.ext_getElem hl
  intro i h1 h2
  have := h i h1
  simpa [List.getD_eq_getElem?_getD, List.getElem?_eq_getElem h1, List.getElem?_eq_getElem h2] using this
theorem upd_comm (s : List Nat) (v w : Nat) (g h : Nat → Nat) (hc : v = w → ∀ x, h (g x) = g (h x)) : upd (upd s v g) w h = upd (upd s w h) v g := by
  apply row_ext (by simp [upd_len])
  intro i hi
  simp only [upd_get, upd_len] at hi ⊢
  by_cases h1 : v = i
  · by_cases h2 : w = i
    · subst h1; subst h2
      simp [hi, hc rfl]
    · simp [h1, h2]
  · by_cases h2 : w = i
    · simp [h1, h2]
    · simp [h1, h2]
theorem upd_same (s : List Nat) (v : Nat) (g : Nat → Nat) (hg : ∀ x, g (g x) = g x) : upd (upd s v g) v g = upd s v g := by
  apply row_ext (by simp [upd_len])
  intro i hi
  simp only [upd_get, upd_len] at hi ⊢
  by_cases h1 : v = i
  · subst h1
    by_cases h2 : v < s.length
    · simp [h2, hg]
    · simp [h2]
  · simp [h1]
def least (x : Nat) : Nat → Nat := fun y => min y x
theorem least_comm (a b x : Nat) : least a (least b x) = least b (least a x) := by unfold least; omega
theorem least_same (a x : Nat) : least a (least a x) = least a x := by unfold least; omega

theorem bfs_step (r : Int) (xs s : List Nat) (e : T) : bfs.step r xs s e = if bfs.hitB r xs e.1.toNat then upd s e.2.1.toNat (least (xs.getD e.1.toNat 0 + 1)) else s := rfl
theorem bfs_comm (r : Int) (xs s : List Nat) (e f : T) : bfs.step r xs (bfs.step r xs s e) f = bfs.step r xs (bfs.step r xs s f) e := by
  simp only [bfs_step]
  split
  · split
    · exact upd_comm _ _ _ _ _ (fun _ x => least_comm _ _ x)
    · rfl
  · rfl
theorem bfs_same (r : Int) (xs s : List Nat) (e : T) : bfs.step r xs (bfs.step r xs s e) e = bfs.step r xs s e := by
  simp only [bfs_step]
  split
  · exact upd_same _ _ _ (least_same _)
  · rfl
theorem labels_step (xs s : List Nat) (e : T) : labels.step xs s e = upd (upd s e.2.1.toNat (least (xs.getD e.1.toNat 0))) e.1.toNat (least (xs.getD e.2.1.toNat 0)) := rfl
theorem lc (s : List Nat) (v w a b : Nat) : upd (upd s v (least a)) w (least b) = upd (upd s w (least b)) v (least a) := upd_comm _ _ _ _ _ (fun _ x => least_comm _ _ x)
theorem labels_comm (xs s : List Nat) (e f : T) : labels.step xs (labels.step xs s e) f = labels.step xs (labels.step xs s f) e := by
  simp only [labels_step]
  rw [lc (upd s e.2.1.toNat _) e.1.toNat f.2.1.toNat, lc s e.2.1.toNat f.2.1.toNat, lc (upd (upd s f.2.1.toNat _) e.2.1.toNat _) e.1.toNat f.1.toNat, lc (upd s f.2.1.toNat _) e.2.1.toNat f.1.toNat]
theorem labels_same (xs s : List Nat) (e : T) : labels.step xs (labels.step xs s e) e = labels.step xs s e := by
  simp only [labels_step]
  rw [lc (upd s e.2.1.toNat _) e.1.toNat e.2.1.toNat, upd_same _ _ _ (least_same _), upd_same _ _ _ (least_same _)]
/-- an edge turned round says the same -/
theorem labels_turn (xs s : List Nat) (a b : Int) (d d' : Nat) : labels.step xs s (a, b, d) = labels.step xs s (b, a, d') := by
  simp only [labels_step]
  exact lc _ _ _ _ _
theorem cores_step (xs s : List Nat) (e : T) : cores.step xs s e = if cores.both xs e.1.toNat e.2.1.toNat then upd (upd s e.1.toNat cores.up) e.2.1.toNat cores.up else s := rfl
theorem uc (s : List Nat) (v w : Nat) : upd (upd s v cores.up) w cores.up = upd (upd s w cores.up) v cores.up := upd_comm _ _ _ _ _ (fun _ x => rfl)
theorem cores_comm (xs s : List Nat) (e f : T) : cores.step xs (cores.step xs s e) f = cores.step xs (cores.step xs s f) e := by
  simp only [cores_step]
  split
  · split
    · rw [uc (upd s e.1.toNat _) e.2.1.toNat f.1.toNat, uc s e.1.toNat f.1.toNat, uc (upd (upd s f.1.toNat _) e.1.toNat _) e.2.1.toNat f.2.1.toNat, uc (upd s f.1.toNat _) e.1.toNat f.2.1.toNat]
    · rfl
  · rfl
def plus (q : Nat) : Nat → Nat := fun y => (y + q) % 18446744073709551616
theorem plus_comm (a b x : Nat) : plus a (plus b x) = plus b (plus a x) := by unfold plus; omega
theorem rank_step (xs s : List Nat) (e : T) : rank.step xs s e = upd s e.2.1.toNat (plus (xs.getD e.1.toNat 0 / e.2.2)) := rfl
theorem rank_comm (xs s : List Nat) (e f : T) : rank.step xs (rank.step xs s e) f = rank.step xs (rank.step xs s f) e := by
  simp only [rank_step]
  exact upd_comm _ _ _ _ _ (fun _ x => plus_comm _ _ x)
end Go.Proofs.YtjdbjahgimlhbaaGreat.Gr
end
section
set_option linter.unusedVariables false
set_option maxRecDepth 100000
namespace Go.Proofs.YtjdbjahgimlhbaaGreat.rank
open Go.RowKit

section
variable {w : World} {pa ga pb gb ca cb : Nat} {xs ys : List Nat}
theorem commit_any (h : TwoAt w pa ga pb gb xs ys) (hm : mayB xs.length ys.length = true) (arg round : Int) (ha1 : 1 ≤ arg) (ha2 : arg ≤ 64) (hr0 : 0 ≤ round) (hr1 : round ≤ 1000) :
    Calls Tryz.prog 54 #[vecv pa, vecv pb, .int .i64 arg, .int .i64 round] w fun e w' => e = .returned (.tuple #[.bool (decide (arg ≤ round + 1)), .int .i64 0]) ∧ TwoAt w' pa ga pb gb ((List.range xs.length).map fun i => cF (ys.getD i 0)) (bY xs.length) ∧ Fr (fun k => k = ga ∨ k = gb) w w' := by
  have hmv := fun p => meth_len p
  have hm' : 1 ≤ xs.length ∧ xs.length ≤ 256 ∧ ys.length = xs.length := by simpa [mayB] using hm
  obtain ⟨W2, hW2⟩ : ∃ W2, W2 = (w.alloc (.cells #[vecv pa] 152)).alloc (.cells #[vecv pb] 152) := ⟨_, rfl⟩
  have F2 : Fr (fun _ => False) w W2 := by rw [hW2]; exact ((Fr.refl _ _).alloc _).alloc _
  have c0 : W2.cell? ⟨w.heap.size, 0, none⟩ = some (vecv pa) := by rw [hW2]; simp
  have c1 : W2.cell? ⟨w.heap.size + 1, 0, none⟩ = some (vecv pb) := by rw [hW2]; simp
  have H2 := h.still F2
  have la := h.a.row.lt
  have lb := h.b.row.lt
  have key : Calls Tryz.prog 87 #[.int .i64 xs.length, .func (.func 96) #[] #[.pointer (some ⟨w.heap.size + 1, 0, none⟩), .pointer (some ⟨w.heap.size, 0, none⟩)]] W2 fun e w' => e = .returned (.int .i64 0) ∧ TwoAt w' pa ga pb gb ((List.range xs.length).map fun i => cF (ys.getD i 0)) (bY xs.length) ∧ Fr (fun k => k = ga ∨ k = gb) W2 w' := by
    refine (each_any 96 (fun args w => by kernel_rfl) #[.pointer (some ⟨w.heap.size + 1, 0, none⟩), .pointer (some ⟨w.heap.size, 0, none⟩)] xs.length
      (fun i w' => TwoAt w' pa ga pb gb (pre (fun i => cF (ys.getD i 0)) i xs) (pre (fun _ => 0) i ys) ∧ Fr (fun k => k = ga ∨ k = gb) W2 w') W2 ⟨by rw [pre_zero, pre_zero]; exact H2, Fr.refl _ _⟩ ?_ (by omega)).mono ?_
    · rintro i w' hi ⟨hT, hF⟩
      refine (commit_step hT (hF.cell c0 (by simp; omega)) (hF.cell c1 (by simp; omega)) (by omega) i (by rw [pre_len _ (by omega)]; omega) (by rw [pre_len _ (by omega)]; omega)).mono ?_
      rintro e w'' ⟨rfl, hT', hF'⟩
      rw [pre_get (fun _ => 0) (show i < ys.length by omega), pre_set (fun i => cF (ys.getD i 0)) hi, pre_set (fun _ => 0) (show i < ys.length by omega)] at hT'
      exact ⟨rfl, hT', hF.trans hF' (fun k h => .inl h)⟩
    · rintro e w' ⟨rfl, hT, hF⟩
      rw [pre_full _ rfl, pre_full _ hm'.2.2] at hT
      exact ⟨rfl, hT, hF⟩
  have CK := check_any H2
  rw [hm] at CK
  have LN := len_any H2.a
  have K : ∀ e w', (e = Ending.returned (.tuple #[.bool (decide (arg ≤ round + 1)), .int .i64 0]) ∧ TwoAt w' pa ga pb gb ((List.range xs.length).map fun i => cF (ys.getD i 0)) (bY xs.length) ∧ Fr (fun k => k = ga ∨ k = gb) W2 w') → (e = .returned (.tuple #[.bool (decide (arg ≤ round + 1)), .int .i64 0]) ∧ TwoAt w' pa ga pb gb ((List.range xs.length).map fun i => cF (ys.getD i 0)) (bY xs.length) ∧ Fr (fun k => k = ga ∨ k = gb) w w') := by
    rintro e w' ⟨h1, h2, h3⟩
    exact ⟨h1, h2, (F2.mono (fun _ h => h.elim)).trans h3 (fun k h => .inl h)⟩
  refine Calls.mono ?_ K
  have HL := hide LN
  have HC := hide CK
  have HK := hide key
  unfold vecv at *
  clear K key CK LN H2 h F2 hm hm'
  have hw : IntKind.i64.wrap (arg - 1) = arg - 1 := by simp only [IntKind.wrap, IntKind.bits, IntKind.signed]; simp; omega
  rcases (show arg ≤ round ∨ (round < arg ∧ round = arg - 1) ∨ (round < arg ∧ round ≠ arg - 1 ∧ round + 1 < arg) by omega) with hc | ⟨hc, hc2⟩ | ⟨hc, hc2, hc3⟩
  · have hdn : decide (arg ≤ round + 1) = true := by simp; omega
    go_enter Tryz.func54, Tryz.ntmps54
    go_wp2_with fail
    go_at_call 42
    rw [← hW2]
    refine HC.out.mono ?_
    rintro e w1 ⟨rfl, rfl⟩
    clear hW2
    unfold errB
    go_wp2_with fail
    go_at_call 154
    refine HL.out.mono ?_
    rintro e w1 ⟨rfl, rfl⟩
    go_wp2_with fail
    go_at_call 87
    refine HK.out.mono ?_
    rintro e w1 ⟨rfl, hT, hF⟩
    have H1 := hide hT
    have H2 := hide hF
    clear hT hF
    go_wp2
    go_ret2
    exact ⟨by rw [hdn]; rfl, H1.out, H2.out⟩
  · have hdn : decide (arg ≤ round + 1) = true := by simp; omega
    have hle : decide (arg ≤ round) = false := by simp; omega
    have hbe : (round == arg - 1) = true := by simp; omega
    go_enter Tryz.func54, Tryz.ntmps54
    go_wp2_with fail
    go_at_call 42
    rw [← hW2]
    refine HC.out.mono ?_
    rintro e w1 ⟨rfl, rfl⟩
    clear hW2
    unfold errB
    go_wp2_with fail
    go_at_call 154
    refine HL.out.mono ?_
    rintro e w1 ⟨rfl, rfl⟩
    go_wp2_with fail
    go_at_call 87
    refine HK.out.mono ?_
    rintro e w1 ⟨rfl, hT, hF⟩
    have H1 := hide hT
    have H2 := hide hF
    clear hT hF
    go_wp2
    go_ret2
    exact ⟨by rw [hdn]; rfl, H1.out, H2.out⟩
  · have hdn : decide (arg ≤ round + 1) = false := by simp; omega
    have hle : decide (arg ≤ round) = false := by simp; omega
    have hbe : (round == arg - 1) = false := by simp; omega
    go_enter Tryz.func54, Tryz.ntmps54
    go_wp2_with fail
    go_at_call 42
    rw [← hW2]
    refine HC.out.mono ?_
    rintro e w1 ⟨rfl, rfl⟩
    clear hW2
    unfold errB
    go_wp2_with fail
    go_at_call 154
    refine HL.out.mono ?_
    rintro e w1 ⟨rfl, rfl⟩
    go_wp2_with fail
    go_at_call 87
    refine HK.out.mono ?_
    rintro e w1 ⟨rfl, hT, hF⟩
    have H1 := hide hT
    have H2 := hide hF
    clear hT hF
    go_wp2
    go_ret2
    exact ⟨by rw [hdn]; rfl, H1.out, H2.out⟩
end
end Go.Proofs.YtjdbjahgimlhbaaGreat.rank
end
section
set_option linter.unusedVariables false
set_option maxRecDepth 100000
namespace Go.Proofs.YtjdbjahgimlhbaaGreat
open Go.RowKit
open Gr (E T)

/-- what a kind does with rows -/
structure Kd where
  bX : Nat → List Nat
  bY : Nat → List Nat
  step : Nat → List Nat → List Nat → T → List Nat
  cX : List Nat → List Nat → List Nat
  cY : List Nat → List Nat → List Nat
  dn : Nat → List Nat → List Nat → Bool
def kdOf (k arg : Nat) : Kd := match k with
  | 1 => ⟨fun n => bfs.bX n (arg : Int), bfs.bY, fun r xs => bfs.step (r : Int) xs, bfs.cXs (arg : Int), bfs.cYs (arg : Int), fun _ => bfs.cDone (arg : Int)⟩
  | 2 => ⟨rank.bX, rank.bY, fun _ => rank.step, fun xs ys => (List.range xs.length).map fun i => rank.cF (ys.getD i 0), fun xs _ => rank.bY xs.length, fun r _ _ => decide ((arg : Int) ≤ (r : Int) + 1)⟩
  | 3 => ⟨labels.bX, labels.bY, fun _ => labels.step, labels.cXs 0, labels.cYs 0, fun _ => labels.cDone 0⟩
  | _ => ⟨cores.bX, cores.bY, fun _ => cores.step, cores.cXs (arg : Int), cores.cYs (arg : Int), fun _ => cores.cDone (arg : Int)⟩

theorem results_cell1 {fn : Func} {a : Tmp} {ty : TypeId} (h : fn.results = #[.cell a ty]) (tmps : Array Value) (P : Program) (w : World) (v : Value) (hv : (do loadVar ty (← asAddr (tmps.getD a undef)) : Sem Value).run P w = .ok v w) : (results fn tmps).run P w = .ok v w := by
  simp only [results, h]
  simpa using hv
section
variable {w : World} {pa ga pb gb : Nat} {xs ys : List Nat}
theorem may_len {n m : Nat} (hm : mayB n m = true) : 1 ≤ n ∧ n ≤ 256 ∧ m = n := by simpa [mayB] using hm
/-- check, whatever is said of the arguments -/
theorem kcheck_of (h : TwoAt w pa ga pb gb xs ys) (hm : mayB xs.length ys.length = true) (k arg prio : Nat) (need z : Int)
    (hT : ∀ w, Calls Tryz.prog 17 #[reqv k arg prio need, .int .i64 (xs.length : Int)] w fun e w' => e = .returned (.int .i64 z) ∧ Fr (fun _ => False) w w') :
    Calls Tryz.prog 29 #[reqv k arg prio need, vecv pa, vecv pb] w fun e w' => e = .returned (.int .i64 z) ∧ Fr (fun _ => False) w w' := by
  obtain ⟨m1, m2, m3⟩ := may_len hm
  have hmv := fun p => meth_len p
  obtain ⟨W1, hW1⟩ : ∃ W1, W1 = w.alloc (reqc k arg prio need) := ⟨_, rfl⟩
  have F1 : Fr (fun _ => False) w W1 := by rw [hW1]; exact (Fr.refl _ _).alloc _
  have c0 : W1.cell? ⟨w.heap.size, 0, none⟩ = some (.int .i64 (k : Int)) := by rw [hW1]; unfold reqc; simp
  have c1 : W1.cell? ⟨w.heap.size, 1, none⟩ = some (.int .i64 (arg : Int)) := by rw [hW1]; unfold reqc; simp
  have c2 : W1.cell? ⟨w.heap.size, 2, none⟩ = some (.int .i64 (prio : Int)) := by rw [hW1]; unfold reqc; simp
  have c3 : W1.cell? ⟨w.heap.size, 3, none⟩ = some (.int .i64 need) := by rw [hW1]; unfold reqc; simp
  have h1 := h.still F1
  have HC := hide (check_ok h1.a h1.b m1 m3)
  have HL := hide (fun W (hf : Fr (fun _ => False) W1 W) => len_any (h1.still hf).a)
  have HCL := hide (fun W (hf : Fr (fun _ => False) W1 W) => (⟨hf.cell c0 id, hf.cell c1 id, hf.cell c2 id, hf.cell c3 id⟩ : W.cell? ⟨w.heap.size, 0, none⟩ = some (.int .i64 (k : Int)) ∧ W.cell? ⟨w.heap.size, 1, none⟩ = some (.int .i64 (arg : Int)) ∧ W.cell? ⟨w.heap.size, 2, none⟩ = some (.int .i64 (prio : Int)) ∧ W.cell? ⟨w.heap.size, 3, none⟩ = some (.int .i64 need)))
  have HT := hide hT
  have HF1 := hide F1
  have HZ := hide hW1
  unfold reqv reqc vecv at *
  clear c0 c1 c2 c3 h1 h F1 hT hW1
  go_enter Tryz.func29, Tryz.ntmps29
  go_wp2_with fail
  rw [← HZ.out]
  go_at_call 42
  refine HC.out.mono ?_
  rintro e w1 ⟨rfl, rfl⟩
  go_wp2_with fail
  refine wp_region_ord [(0, true), (1, true), (2, false), (3, false), (4, true)] (fun W => Fr (fun _ => False) W1 W) (by kernel_rfl) (by kernel_rfl) (Fr.refl _ _).drew ?_
  iterate 2
    refine ord_read rfl ?_ ?_ (fun W hS => ?_) ?_
    · rfl
    rotate_left
    · (obtain ⟨s0, s1, s2, s3⟩ := HCL.out _ hS; go_simp; try with_reducible rfl)
    simp only [List.getElem_toArray, List.getElem_cons_zero, List.getElem_cons_succ, Act.put, List.setIfInBounds_toArray, List.set_cons_zero, List.set_cons_succ]
  refine ord_act rfl ?_
  go_wp2_with fail
  go_at_call 154
  refine (HL.out _ (Fr.refl _ _).drew).mono ?_
  rintro e w2 ⟨rfl, rfl⟩
  go_wp2
  refine midQ_ok (Fr.refl _ _).drew ?_
  refine ord_act rfl ?_
  go_wp2_with fail
  go_at_call 17
  refine (HT.out _).mono ?_
  rintro e w2 ⟨rfl, hf⟩
  have HF2 := hide ((Fr.refl (fun _ => False) W1).drew.trans hf (fun k h => h.elim))
  go_wp2
  refine midQ_ok HF2.out ?_
  iterate 1
    refine ord_read rfl ?_ ?_ (fun W hS => ?_) ?_
    · rfl
    rotate_left
    · (skip; go_simp; try with_reducible rfl)
    simp only [List.getElem_toArray, List.getElem_cons_zero, List.getElem_cons_succ, Act.put, List.setIfInBounds_toArray, List.set_cons_zero, List.set_cons_succ]
  refine ord_done ?_
  refine NoPanic.normal ?_
  go_wp2
  go_ret
  exact ⟨rfl, HF1.out.trans HF2.out (fun k h => h.elim)⟩
theorem kcheck_ok (h : TwoAt w pa ga pb gb xs ys) (hm : mayB xs.length ys.length = true) (k arg prio : Nat) (need : Int) (hp : prio ≤ 7) (hk : okK k arg xs.length) :
    Calls Tryz.prog 29 #[reqv k arg prio need, vecv pa, vecv pb] w fun e w' => e = .returned (.int .i64 0) ∧ Fr (fun _ => False) w w' := by
  obtain ⟨m1, m2, m3⟩ := may_len hm
  exact kcheck_of h hm k arg prio need 0 (fun w => tcheck_ok k arg prio _ need m1 m2 hp hk w)
end
theorem of1 (w : World) : Calls Tryz.prog 30 #[.int .i64 1] w fun e w' => e = .returned (.agg #[.func (.func 43) #[] #[], .func (.func 45) #[] #[], .func (.func 47) #[] #[]]) ∧ Fr (fun _ => False) w w' := by
  have F1 := hide ((Fr.refl (fun _ => False) w).alloc (.cells #[.func (.func 43) #[] #[], .func (.func 45) #[] #[], .func (.func 47) #[] #[]] 89))
  have hst : ∀ (a : Addr) (f : FuncId) (W : World) (m : Mode), (store a (.func (.func f) #[] #[]) m).run Tryz.prog W = stored Tryz.prog W a (.func (.func f) #[] #[]) m := fun a f W m => run_store _ W a _ m rfl
  go_enter Tryz.func30, Tryz.ntmps30
  go_wp2
  try simp only [Exit.inBlock, Exit.then]
  refine bodyPost_ret (results_cell1 rfl _ _ _ (.agg #[.func (.func 43) #[] #[], .func (.func 45) #[] #[], .func (.func 47) #[] #[]]) ?hv) rfl ?_
  case hv => go_simp
  exact ⟨rfl, F1.out⟩
theorem of2 (w : World) : Calls Tryz.prog 30 #[.int .i64 2] w fun e w' => e = .returned (.agg #[.func (.func 49) #[] #[], .func (.func 51) #[] #[], .func (.func 53) #[] #[]]) ∧ Fr (fun _ => False) w w' := by
  have F1 := hide ((Fr.refl (fun _ => False) w).alloc (.cells #[.func (.func 49) #[] #[], .func (.func 51) #[] #[], .func (.func 53) #[] #[]] 89))
  have hst : ∀ (a : Addr) (f : FuncId) (W : World) (m : Mode), (store a (.func (.func f) #[] #[]) m).run Tryz.prog W = stored Tryz.prog W a (.func (.func f) #[] #[]) m := fun a f W m => run_store _ W a _ m rfl
  go_enter Tryz.func30, Tryz.ntmps30
  go_wp2
  try simp only [Exit.inBlock, Exit.then]
  refine bodyPost_ret (results_cell1 rfl _ _ _ (.agg #[.func (.func 49) #[] #[], .func (.func 51) #[] #[], .func (.func 53) #[] #[]]) ?hv) rfl ?_
  case hv => go_simp
  exact ⟨rfl, F1.out⟩
theorem of3 (w : World) : Calls Tryz.prog 30 #[.int .i64 3] w fun e w' => e = .returned (.agg #[.func (.func 55) #[] #[], .func (.func 57) #[] #[], .func (.func 59) #[] #[]]) ∧ Fr (fun _ => False) w w' := by
  have F1 := hide ((Fr.refl (fun _ => False) w).alloc (.cells #[.func (.func 55) #[] #[], .func (.func 57) #[] #[], .func (.func 59) #[] #[]] 89))
  have hst : ∀ (a : Addr) (f : FuncId) (W : World) (m : Mode), (store a (.func (.func f) #[] #[]) m).run Tryz.prog W = stored Tryz.prog W a (.func (.func f) #[] #[]) m := fun a f W m => run_store _ W a _ m rfl
  go_enter Tryz.func30, Tryz.ntmps30
  go_wp2
  try simp only [Exit.inBlock, Exit.then]
  refine bodyPost_ret (results_cell1 rfl _ _ _ (.agg #[.func (.func 55) #[] #[], .func (.func 57) #[] #[], .func (.func 59) #[] #[]]) ?hv) rfl ?_
  case hv => go_simp
  exact ⟨rfl, F1.out⟩
theorem of4 (w : World) : Calls Tryz.prog 30 #[.int .i64 4] w fun e w' => e = .returned (.agg #[.func (.func 61) #[] #[], .func (.func 63) #[] #[], .func (.func 65) #[] #[]]) ∧ Fr (fun _ => False) w w' := by
  have F1 := hide ((Fr.refl (fun _ => False) w).alloc (.cells #[.func (.func 61) #[] #[], .func (.func 63) #[] #[], .func (.func 65) #[] #[]] 89))
  have hst : ∀ (a : Addr) (f : FuncId) (W : World) (m : Mode), (store a (.func (.func f) #[] #[]) m).run Tryz.prog W = stored Tryz.prog W a (.func (.func f) #[] #[]) m := fun a f W m => run_store _ W a _ m rfl
  go_enter Tryz.func30, Tryz.ntmps30
  go_wp2
  try simp only [Exit.inBlock, Exit.then]
  refine bodyPost_ret (results_cell1 rfl _ _ _ (.agg #[.func (.func 61) #[] #[], .func (.func 63) #[] #[], .func (.func 65) #[] #[]]) ?hv) rfl ?_
  case hv => go_simp
  exact ⟨rfl, F1.out⟩
theorem fld0 (a b c : Value) (W : World) : (Instr.field 89 (.agg #[a, b, c]) 0).run Tryz.prog W = .ok a W := by kernel_rfl
theorem fld1 (a b c : Value) (W : World) : (Instr.field 89 (.agg #[a, b, c]) 1).run Tryz.prog W = .ok b W := by kernel_rfl
theorem fld2 (a b c : Value) (W : World) : (Instr.field 89 (.agg #[a, b, c]) 2).run Tryz.prog W = .ok c W := by kernel_rfl
section
variable {w : World} {pa ga pb gb : Nat} {xs ys : List Nat} {fr to : Int} {A : Option Addr} {m c : Nat} {vs : List Value} {L : List (List Int)}
theorem clb1 (h : TwoAt w pa ga pb gb xs ys) (hm : mayB xs.length ys.length = true) (arg : Nat) (hk : okK 1 arg xs.length)  :
    Calls Tryz.prog 43 #[vecv pa, vecv pb, .int .i64 (arg : Int)] w fun e w' => e = .returned (.int .i64 0) ∧ TwoAt w' pa ga pb gb ((kdOf 1 arg).bX xs.length) ((kdOf 1 arg).bY xs.length) ∧ Fr (fun k => k = ga ∨ k = gb) w w' := by
  simp only [okK] at hk
  have m1 := may_len hm
  have HB := hide (bfs.begin_ok h hm (arg : Int) (by simp [bfs.okArg]; omega))
  unfold vecv at *
  clear h hm
  go_enter Tryz.func43, Tryz.ntmps43
  go_wp2_with fail
  go_at_call 44
  refine HB.out.mono ?_
  rintro e w1 ⟨rfl, hT, hf⟩
  have HT := hide hT
  have HF := hide hf
  clear hT hf
  go_wp2
  go_ret
  exact ⟨rfl, HT.out, HF.out⟩
theorem cls1 (h : TwoAt w pa ga pb gb xs ys) (hm : mayB xs.length ys.length = true) (arg : Nat) (hk : okK 1 arg xs.length) (stay : ∀ w', Fr (fun k => k = gb) w w' → LsAt w' vs A m L) (hfit : fitsB fr to xs.length L = true) (r : Nat) (hr : r ≤ 1000) :
    Calls Tryz.prog 45 #[vecv pa, vecv pb, .agg #[.int .i64 fr, .int .i64 to, .slice A m c], .int .i64 (r : Int)] w fun e w' => e = .returned (.int .i64 0) ∧ TwoAt w' pa ga pb gb xs ((edgs fr L).foldl ((kdOf 1 arg).step r xs) ys) ∧ Fr (fun k => k = gb) w w' := by
  simp only [okK] at hk
  have m1 := may_len hm
  obtain ⟨W1, hW1⟩ : ∃ W1, W1 = w.alloc (.cells #[.int .i64 fr, .int .i64 to, .slice A m c] 43) := ⟨_, rfl⟩
  have F1 : Fr (fun _ => False) w W1 := by rw [hW1]; exact (Fr.refl _ _).alloc _
  have d0 : W1.cell? ⟨w.heap.size, 0, none⟩ = some (.int .i64 fr) := by rw [hW1]; simp
  have d1 : W1.cell? ⟨w.heap.size, 1, none⟩ = some (.int .i64 to) := by rw [hW1]; simp
  have d2 : W1.cell? ⟨w.heap.size, 2, none⟩ = some (.slice A m c) := by rw [hW1]; simp
  have HZ := hide hW1
  have HF1 := hide F1
  have HB := hide (bfs.shard_ok (c := c) (h.still F1) hm (fun w2 hf2 => stay w2 ((F1.mono (fun k h => h.elim)).trans hf2 (fun k h => .inl h))) hfit (r : Int) (by omega) (by omega))
  unfold vecv at *
  clear h hm stay hfit hW1 F1
  go_enter Tryz.func45, Tryz.ntmps45
  go_wp2_with fail
  rw [← HZ.out]
  go_at_call 46
  refine HB.out.mono ?_
  rintro e w1 ⟨rfl, hT, hf⟩
  have HT := hide hT
  have HF := hide ((HF1.out.mono (fun k h => h.elim)).trans hf (fun k h => .inl h))
  clear hT hf
  go_wp2
  go_ret
  exact ⟨rfl, HT.out, HF.out⟩
theorem clc1 (h : TwoAt w pa ga pb gb xs ys) (hm : mayB xs.length ys.length = true) (arg : Nat) (hk : okK 1 arg xs.length) (r : Nat) (hr : r ≤ 1000) :
    Calls Tryz.prog 47 #[vecv pa, vecv pb, .int .i64 (arg : Int), .int .i64 (r : Int)] w fun e w' => e = .returned (.tuple #[.bool ((kdOf 1 arg).dn r xs ys), .int .i64 0]) ∧ TwoAt w' pa ga pb gb ((kdOf 1 arg).cX xs ys) ((kdOf 1 arg).cY xs ys) ∧ Fr (fun k => k = ga ∨ k = gb) w w' := by
  simp only [okK] at hk
  have m1 := may_len hm
  have HB := hide (bfs.commit_ok h hm (arg : Int) (r : Int))
  unfold vecv at *
  clear h hm
  go_enter Tryz.func47, Tryz.ntmps47
  go_wp2_with fail
  go_at_call 48
  refine HB.out.mono ?_
  rintro e w1 ⟨rfl, hT, hf⟩
  have HT := hide hT
  have HF := hide hf
  clear hT hf
  go_wp2
  go_ret2
  exact ⟨rfl, HT.out, HF.out⟩
set_option maxHeartbeats 1600000 in
theorem kbegin1 (h : TwoAt w pa ga pb gb xs ys) (hm : mayB xs.length ys.length = true) (arg prio : Nat) (need : Int) (hp : prio ≤ 7) (hk : okK 1 arg xs.length)  :
    Calls Tryz.prog 19 #[reqv 1 arg prio need, vecv pa, vecv pb] w fun e w' => e = .returned (.int .i64 0) ∧ TwoAt w' pa ga pb gb ((kdOf 1 arg).bX xs.length) ((kdOf 1 arg).bY xs.length) ∧ Fr (fun k => k = ga ∨ k = gb) w w' := by
  have la := h.a.row.lt
  have lb := h.b.row.lt
  obtain ⟨W1, hW1⟩ : ∃ W1, W1 = w.alloc (reqc 1 arg prio need) := ⟨_, rfl⟩
  have F1 : Fr (fun _ => False) w W1 := by rw [hW1]; exact (Fr.refl _ _).alloc _
  have c0 : W1.cell? ⟨w.heap.size, 0, none⟩ = some (.int .i64 1) := by rw [hW1]; unfold reqc; simp
  have c1 : W1.cell? ⟨w.heap.size, 1, none⟩ = some (.int .i64 (arg : Int)) := by rw [hW1]; unfold reqc; simp
  have c2 : W1.cell? ⟨w.heap.size, 2, none⟩ = some (.int .i64 (prio : Int)) := by rw [hW1]; unfold reqc; simp
  have c3 : W1.cell? ⟨w.heap.size, 3, none⟩ = some (.int .i64 need) := by rw [hW1]; unfold reqc; simp
  have HCL := hide (fun W (hf : Fr (fun k => k = ga ∨ k = gb) W1 W) => (⟨hf.cell c0 (by intro q; simp only at q; omega), hf.cell c1 (by intro q; simp only at q; omega), hf.cell c2 (by intro q; simp only at q; omega), hf.cell c3 (by intro q; simp only at q; omega)⟩ : W.cell? ⟨w.heap.size, 0, none⟩ = some (.int .i64 1) ∧ W.cell? ⟨w.heap.size, 1, none⟩ = some (.int .i64 (arg : Int)) ∧ W.cell? ⟨w.heap.size, 2, none⟩ = some (.int .i64 (prio : Int)) ∧ W.cell? ⟨w.heap.size, 3, none⟩ = some (.int .i64 need)))
  have h1 := h.still F1
  have HCK := hide (kcheck_ok h1 hm 1 arg prio need hp hk)
  have HOF := hide (fun w => of1 w)
  have HCC := hide (fun W (hf : Fr (fun _ => False) W1 W) => clb1 (h1.still hf) hm arg hk)
  have HF1 := hide F1
  have HZ := hide hW1
  unfold reqv reqc vecv at *
  simp only [show ((1 : Nat) : Int) = 1 from rfl] at *
  clear c0 c1 c2 c3 h1 h F1 hW1 hm hk hp
  go_enter Tryz.func19, Tryz.ntmps19
  go_wp2_with fail
  rw [← HZ.out]
  go_at_call 29
  refine HCK.out.mono ?_
  rintro e w1 ⟨rfl, hf⟩
  have HF2 := hide hf
  clear hf
  go_wp2_with fail
  refine wp_region_ord [(0, true), (1, true), (4, true), (5, true), (6, true), (7, true), (2, false), (3, true), (8, false), (9, true)] (fun W => Fr (fun k => k = ga ∨ k = gb) W1 W) (by kernel_rfl) (by kernel_rfl) (HF2.out.mono (fun k h => h.elim)).drew ?_
  iterate 6
    refine ord_read rfl ?_ ?_ (fun W hS => ?_) ?_
    · rfl
    rotate_left
    · (obtain ⟨s0, s1, s2, s3⟩ := HCL.out _ hS; go_simp; try with_reducible rfl)
    simp only [List.getElem_toArray, List.getElem_cons_zero, List.getElem_cons_succ, Act.put, List.setIfInBounds_toArray, List.set_cons_zero, List.set_cons_succ]
  refine ord_act rfl ?_
  go_wp2_with fail
  go_at_call 30
  refine (HOF.out _).mono ?_
  rintro e w2 ⟨rfl, hf⟩
  have HF3 := hide (HF2.out.drew.then_ hf)
  clear hf
  go_wp2
  refine midQ_ok (HF3.out.mono (fun k h => h.elim)) ?_
  iterate 1
    refine ord_read rfl ?_ ?_ (fun W hS => ?_) ?_
    · rfl
    rotate_left
    · (skip; go_simp; rw [fld0]; rfl; try with_reducible rfl)
    simp only [List.getElem_toArray, List.getElem_cons_zero, List.getElem_cons_succ, Act.put, List.setIfInBounds_toArray, List.set_cons_zero, List.set_cons_succ]
  refine ord_act rfl ?_
  go_wp2_with fail
  go_at_call 43
  refine (HCC.out _ HF3.out).mono ?_
  rintro e w3 ⟨rfl, hT, hf⟩
  have HT := hide hT
  have HF4 := hide ((HF3.out.mono (S' := fun k => k = ga ∨ k = gb) (fun k h => h.elim)).trans hf (fun k h => .inl h))
  clear hT hf
  go_wp2
  refine midQ_ok HF4.out ?_
  iterate 1
    refine ord_read rfl ?_ ?_ (fun W hS => ?_) ?_
    · rfl
    rotate_left
    · (skip; go_simp; try with_reducible rfl)
    simp only [List.getElem_toArray, List.getElem_cons_zero, List.getElem_cons_succ, Act.put, List.setIfInBounds_toArray, List.set_cons_zero, List.set_cons_succ]
  refine ord_done ?_
  refine NoPanic.normal ?_
  go_wp2
  go_ret
  exact ⟨rfl, HT.out, (HF1.out.mono (fun k h => h.elim)).trans HF4.out (fun k h => .inl h)⟩
set_option maxHeartbeats 1600000 in
theorem kshard1 (h : TwoAt w pa ga pb gb xs ys) (hm : mayB xs.length ys.length = true) (arg prio : Nat) (need : Int) (hp : prio ≤ 7) (hk : okK 1 arg xs.length) (stay : ∀ w', Fr (fun k => k = gb) w w' → LsAt w' vs A m L) (hfit : fitsB fr to xs.length L = true) (r : Nat) (hr : r ≤ 1000) :
    Calls Tryz.prog 21 #[reqv 1 arg prio need, vecv pa, vecv pb, .agg #[.int .i64 fr, .int .i64 to, .slice A m c], .int .i64 (r : Int)] w fun e w' => e = .returned (.int .i64 0) ∧ TwoAt w' pa ga pb gb xs ((edgs fr L).foldl ((kdOf 1 arg).step r xs) ys) ∧ Fr (fun k => k = gb) w w' := by
  have la := h.a.row.lt
  have lb := h.b.row.lt
  obtain ⟨W1, hW1⟩ : ∃ W1, W1 = (w.alloc (reqc 1 arg prio need)).alloc (.cells #[.int .i64 fr, .int .i64 to, .slice A m c] 43) := ⟨_, rfl⟩
  have F1 : Fr (fun _ => False) w W1 := by rw [hW1]; exact ((Fr.refl _ _).alloc _).alloc _
  have c0 : W1.cell? ⟨w.heap.size, 0, none⟩ = some (.int .i64 1) := by rw [hW1]; unfold reqc; simp
  have c1 : W1.cell? ⟨w.heap.size, 1, none⟩ = some (.int .i64 (arg : Int)) := by rw [hW1]; unfold reqc; simp
  have c2 : W1.cell? ⟨w.heap.size, 2, none⟩ = some (.int .i64 (prio : Int)) := by rw [hW1]; unfold reqc; simp
  have c3 : W1.cell? ⟨w.heap.size, 3, none⟩ = some (.int .i64 need) := by rw [hW1]; unfold reqc; simp
  have d0 : W1.cell? ⟨w.heap.size + 1, 0, none⟩ = some (.int .i64 fr) := by rw [hW1]; unfold reqc; simp
  have d1 : W1.cell? ⟨w.heap.size + 1, 1, none⟩ = some (.int .i64 to) := by rw [hW1]; unfold reqc; simp
  have d2 : W1.cell? ⟨w.heap.size + 1, 2, none⟩ = some (.slice A m c) := by rw [hW1]; unfold reqc; simp
  have HCL := hide (fun W (hf : Fr (fun k => k = gb) W1 W) => (⟨hf.cell c0 (by intro q; simp only at q; omega), hf.cell c1 (by intro q; simp only at q; omega), hf.cell c2 (by intro q; simp only at q; omega), hf.cell c3 (by intro q; simp only at q; omega), hf.cell d0 (by intro q; simp only at q; omega), hf.cell d1 (by intro q; simp only at q; omega), hf.cell d2 (by intro q; simp only at q; omega)⟩ : W.cell? ⟨w.heap.size, 0, none⟩ = some (.int .i64 1) ∧ W.cell? ⟨w.heap.size, 1, none⟩ = some (.int .i64 (arg : Int)) ∧ W.cell? ⟨w.heap.size, 2, none⟩ = some (.int .i64 (prio : Int)) ∧ W.cell? ⟨w.heap.size, 3, none⟩ = some (.int .i64 need) ∧ W.cell? ⟨w.heap.size + 1, 0, none⟩ = some (.int .i64 fr) ∧ W.cell? ⟨w.heap.size + 1, 1, none⟩ = some (.int .i64 to) ∧ W.cell? ⟨w.heap.size + 1, 2, none⟩ = some (.slice A m c)))
  have h1 := h.still F1
  have HCK := hide (kcheck_ok h1 hm 1 arg prio need hp hk)
  have HOF := hide (fun w => of1 w)
  have HCC := hide (fun W (hf : Fr (fun _ => False) W1 W) => cls1 (c := c) (h1.still hf) hm arg hk (fun w2 hf2 => stay w2 (((F1.trans hf (fun k h => h.elim)).mono (fun k h => h.elim)).trans hf2 (fun k h => .inl h))) hfit r hr)
  have HF1 := hide F1
  have HZ := hide hW1
  unfold reqv reqc vecv at *
  simp only [show ((1 : Nat) : Int) = 1 from rfl] at *
  clear c0 c1 c2 c3 d0 d1 d2 h1 h F1 hW1 hm hk hp stay hfit
  go_enter Tryz.func21, Tryz.ntmps21
  go_wp2_with fail
  rw [← HZ.out]
  go_at_call 29
  refine HCK.out.mono ?_
  rintro e w1 ⟨rfl, hf⟩
  have HF2 := hide hf
  clear hf
  go_wp2_with fail
  refine wp_region_ord [(0, true), (1, true), (4, true), (5, true), (6, true), (7, true), (2, false), (3, true), (8, false), (9, true)] (fun W => Fr (fun k => k = gb) W1 W) (by kernel_rfl) (by kernel_rfl) (HF2.out.mono (fun k h => h.elim)).drew ?_
  iterate 6
    refine ord_read rfl ?_ ?_ (fun W hS => ?_) ?_
    · rfl
    rotate_left
    · (obtain ⟨s0, s1, s2, s3, s4, s5, s6⟩ := HCL.out _ hS; go_simp; try with_reducible rfl)
    simp only [List.getElem_toArray, List.getElem_cons_zero, List.getElem_cons_succ, Act.put, List.setIfInBounds_toArray, List.set_cons_zero, List.set_cons_succ]
  refine ord_act rfl ?_
  go_wp2_with fail
  go_at_call 30
  refine (HOF.out _).mono ?_
  rintro e w2 ⟨rfl, hf⟩
  have HF3 := hide (HF2.out.drew.then_ hf)
  clear hf
  go_wp2
  refine midQ_ok (HF3.out.mono (fun k h => h.elim)) ?_
  iterate 1
    refine ord_read rfl ?_ ?_ (fun W hS => ?_) ?_
    · rfl
    rotate_left
    · (skip; go_simp; rw [fld1]; rfl; try with_reducible rfl)
    simp only [List.getElem_toArray, List.getElem_cons_zero, List.getElem_cons_succ, Act.put, List.setIfInBounds_toArray, List.set_cons_zero, List.set_cons_succ]
  refine ord_act rfl ?_
  go_wp2_with fail
  go_at_call 45
  refine (HCC.out _ HF3.out).mono ?_
  rintro e w3 ⟨rfl, hT, hf⟩
  have HT := hide hT
  have HF4 := hide ((HF3.out.mono (S' := fun k => k = gb) (fun k h => h.elim)).trans hf (fun k h => .inl h))
  clear hT hf
  go_wp2
  refine midQ_ok HF4.out ?_
  iterate 1
    refine ord_read rfl ?_ ?_ (fun W hS => ?_) ?_
    · rfl
    rotate_left
    · (skip; go_simp; try with_reducible rfl)
    simp only [List.getElem_toArray, List.getElem_cons_zero, List.getElem_cons_succ, Act.put, List.setIfInBounds_toArray, List.set_cons_zero, List.set_cons_succ]
  refine ord_done ?_
  refine NoPanic.normal ?_
  go_wp2
  go_ret
  exact ⟨rfl, HT.out, (HF1.out.mono (fun k h => h.elim)).trans HF4.out (fun k h => .inl h)⟩
set_option maxHeartbeats 1600000 in
theorem kcommit1 (h : TwoAt w pa ga pb gb xs ys) (hm : mayB xs.length ys.length = true) (arg prio : Nat) (need : Int) (hp : prio ≤ 7) (hk : okK 1 arg xs.length) (r : Nat) (hr : r ≤ 1000) :
    Calls Tryz.prog 22 #[reqv 1 arg prio need, vecv pa, vecv pb, .int .i64 (r : Int)] w fun e w' => e = .returned (.tuple #[.bool ((kdOf 1 arg).dn r xs ys), .int .i64 0]) ∧ TwoAt w' pa ga pb gb ((kdOf 1 arg).cX xs ys) ((kdOf 1 arg).cY xs ys) ∧ Fr (fun k => k = ga ∨ k = gb) w w' := by
  have la := h.a.row.lt
  have lb := h.b.row.lt
  obtain ⟨W1, hW1⟩ : ∃ W1, W1 = w.alloc (reqc 1 arg prio need) := ⟨_, rfl⟩
  have F1 : Fr (fun _ => False) w W1 := by rw [hW1]; exact (Fr.refl _ _).alloc _
  have c0 : W1.cell? ⟨w.heap.size, 0, none⟩ = some (.int .i64 1) := by rw [hW1]; unfold reqc; simp
  have c1 : W1.cell? ⟨w.heap.size, 1, none⟩ = some (.int .i64 (arg : Int)) := by rw [hW1]; unfold reqc; simp
  have c2 : W1.cell? ⟨w.heap.size, 2, none⟩ = some (.int .i64 (prio : Int)) := by rw [hW1]; unfold reqc; simp
  have c3 : W1.cell? ⟨w.heap.size, 3, none⟩ = some (.int .i64 need) := by rw [hW1]; unfold reqc; simp
  have HCL := hide (fun W (hf : Fr (fun k => k = ga ∨ k = gb) W1 W) => (⟨hf.cell c0 (by intro q; simp only at q; omega), hf.cell c1 (by intro q; simp only at q; omega), hf.cell c2 (by intro q; simp only at q; omega), hf.cell c3 (by intro q; simp only at q; omega)⟩ : W.cell? ⟨w.heap.size, 0, none⟩ = some (.int .i64 1) ∧ W.cell? ⟨w.heap.size, 1, none⟩ = some (.int .i64 (arg : Int)) ∧ W.cell? ⟨w.heap.size, 2, none⟩ = some (.int .i64 (prio : Int)) ∧ W.cell? ⟨w.heap.size, 3, none⟩ = some (.int .i64 need)))
  have h1 := h.still F1
  have HCK := hide (kcheck_ok h1 hm 1 arg prio need hp hk)
  have HOF := hide (fun w => of1 w)
  have HCC := hide (fun W (hf : Fr (fun _ => False) W1 W) => clc1 (h1.still hf) hm arg hk r hr)
  have HF1 := hide F1
  have HZ := hide hW1
  unfold reqv reqc vecv at *
  simp only [show ((1 : Nat) : Int) = 1 from rfl] at *
  clear c0 c1 c2 c3 h1 h F1 hW1 hm hk hp
  go_enter Tryz.func22, Tryz.ntmps22
  go_wp2_with fail
  rw [← HZ.out]
  go_at_call 29
  refine HCK.out.mono ?_
  rintro e w1 ⟨rfl, hf⟩
  have HF2 := hide hf
  clear hf
  go_wp2_with fail
  refine wp_region_ord [(0, true), (1, true), (4, true), (5, true), (6, true), (7, true), (8, true), (2, false), (3, true), (9, false), (10, true), (11, true), (12, true), (13, true)] (fun W => Fr (fun k => k = ga ∨ k = gb) W1 W) (by kernel_rfl) (by kernel_rfl) (HF2.out.mono (fun k h => h.elim)).drew ?_
  iterate 7
    refine ord_read rfl ?_ ?_ (fun W hS => ?_) ?_
    · rfl
    rotate_left
    · (obtain ⟨s0, s1, s2, s3⟩ := HCL.out _ hS; go_simp; try with_reducible rfl)
    simp only [List.getElem_toArray, List.getElem_cons_zero, List.getElem_cons_succ, Act.put, List.setIfInBounds_toArray, List.set_cons_zero, List.set_cons_succ]
  refine ord_act rfl ?_
  go_wp2_with fail
  go_at_call 30
  refine (HOF.out _).mono ?_
  rintro e w2 ⟨rfl, hf⟩
  have HF3 := hide (HF2.out.drew.then_ hf)
  clear hf
  go_wp2
  refine midQ_ok (HF3.out.mono (fun k h => h.elim)) ?_
  iterate 1
    refine ord_read rfl ?_ ?_ (fun W hS => ?_) ?_
    · rfl
    rotate_left
    · (skip; go_simp; rw [fld2]; rfl; try with_reducible rfl)
    simp only [List.getElem_toArray, List.getElem_cons_zero, List.getElem_cons_succ, Act.put, List.setIfInBounds_toArray, List.set_cons_zero, List.set_cons_succ]
  refine ord_act rfl ?_
  go_wp2_with fail
  go_at_call 47
  refine (HCC.out _ HF3.out).mono ?_
  rintro e w3 ⟨rfl, hT, hf⟩
  have HT := hide hT
  have HF4 := hide ((HF3.out.mono (S' := fun k => k = ga ∨ k = gb) (fun k h => h.elim)).trans hf (fun k h => .inl h))
  clear hT hf
  go_wp2
  refine midQ_ok HF4.out ?_
  iterate 4
    refine ord_read rfl ?_ ?_ (fun W hS => ?_) ?_
    · rfl
    rotate_left
    · (skip; go_simp; try with_reducible rfl)
    simp only [List.getElem_toArray, List.getElem_cons_zero, List.getElem_cons_succ, Act.put, List.setIfInBounds_toArray, List.set_cons_zero, List.set_cons_succ]
  refine ord_done ?_
  refine NoPanic.normal ?_
  go_wp2
  go_ret2
  exact ⟨rfl, HT.out, (HF1.out.mono (fun k h => h.elim)).trans HF4.out (fun k h => .inl h)⟩
theorem clb2 (h : TwoAt w pa ga pb gb xs ys) (hm : mayB xs.length ys.length = true) (arg : Nat) (hk : okK 2 arg xs.length)  :
    Calls Tryz.prog 49 #[vecv pa, vecv pb, .int .i64 (arg : Int)] w fun e w' => e = .returned (.int .i64 0) ∧ TwoAt w' pa ga pb gb ((kdOf 2 arg).bX xs.length) ((kdOf 2 arg).bY xs.length) ∧ Fr (fun k => k = ga ∨ k = gb) w w' := by
  simp only [okK] at hk
  have m1 := may_len hm
  have HB := hide (rank.begin_ok h hm (arg : Int) (by simp [rank.okArg]; omega))
  unfold vecv at *
  clear h hm
  go_enter Tryz.func49, Tryz.ntmps49
  go_wp2_with fail
  go_at_call 50
  refine HB.out.mono ?_
  rintro e w1 ⟨rfl, hT, hf⟩
  have HT := hide hT
  have HF := hide hf
  clear hT hf
  go_wp2
  go_ret
  exact ⟨rfl, HT.out, HF.out⟩
theorem cls2 (h : TwoAt w pa ga pb gb xs ys) (hm : mayB xs.length ys.length = true) (arg : Nat) (hk : okK 2 arg xs.length) (stay : ∀ w', Fr (fun k => k = gb) w w' → LsAt w' vs A m L) (hfit : fitsB fr to xs.length L = true) (r : Nat) (hr : r ≤ 1000) :
    Calls Tryz.prog 51 #[vecv pa, vecv pb, .agg #[.int .i64 fr, .int .i64 to, .slice A m c], .int .i64 (r : Int)] w fun e w' => e = .returned (.int .i64 0) ∧ TwoAt w' pa ga pb gb xs ((edgs fr L).foldl ((kdOf 2 arg).step r xs) ys) ∧ Fr (fun k => k = gb) w w' := by
  simp only [okK] at hk
  have m1 := may_len hm
  obtain ⟨W1, hW1⟩ : ∃ W1, W1 = w.alloc (.cells #[.int .i64 fr, .int .i64 to, .slice A m c] 43) := ⟨_, rfl⟩
  have F1 : Fr (fun _ => False) w W1 := by rw [hW1]; exact (Fr.refl _ _).alloc _
  have d0 : W1.cell? ⟨w.heap.size, 0, none⟩ = some (.int .i64 fr) := by rw [hW1]; simp
  have d1 : W1.cell? ⟨w.heap.size, 1, none⟩ = some (.int .i64 to) := by rw [hW1]; simp
  have d2 : W1.cell? ⟨w.heap.size, 2, none⟩ = some (.slice A m c) := by rw [hW1]; simp
  have HZ := hide hW1
  have HF1 := hide F1
  have HB := hide (rank.shard_ok (c := c) (h.still F1) hm (fun w2 hf2 => stay w2 ((F1.mono (fun k h => h.elim)).trans hf2 (fun k h => .inl h))) hfit (r : Int) (by omega))
  unfold vecv at *
  clear h hm stay hfit hW1 F1
  go_enter Tryz.func51, Tryz.ntmps51
  go_wp2_with fail
  rw [← HZ.out]
  go_at_call 52
  refine HB.out.mono ?_
  rintro e w1 ⟨rfl, hT, hf⟩
  have HT := hide hT
  have HF := hide ((HF1.out.mono (fun k h => h.elim)).trans hf (fun k h => .inl h))
  clear hT hf
  go_wp2
  go_ret
  exact ⟨rfl, HT.out, HF.out⟩
theorem clc2 (h : TwoAt w pa ga pb gb xs ys) (hm : mayB xs.length ys.length = true) (arg : Nat) (hk : okK 2 arg xs.length) (r : Nat) (hr : r ≤ 1000) :
    Calls Tryz.prog 53 #[vecv pa, vecv pb, .int .i64 (arg : Int), .int .i64 (r : Int)] w fun e w' => e = .returned (.tuple #[.bool ((kdOf 2 arg).dn r xs ys), .int .i64 0]) ∧ TwoAt w' pa ga pb gb ((kdOf 2 arg).cX xs ys) ((kdOf 2 arg).cY xs ys) ∧ Fr (fun k => k = ga ∨ k = gb) w w' := by
  simp only [okK] at hk
  have m1 := may_len hm
  have HB := hide (rank.commit_any h hm (arg : Int) (r : Int) (by omega) (by omega) (by omega) (by omega))
  unfold vecv at *
  clear h hm
  go_enter Tryz.func53, Tryz.ntmps53
  go_wp2_with fail
  go_at_call 54
  refine HB.out.mono ?_
  rintro e w1 ⟨rfl, hT, hf⟩
  have HT := hide hT
  have HF := hide hf
  clear hT hf
  go_wp2
  go_ret2
  exact ⟨rfl, HT.out, HF.out⟩
set_option maxHeartbeats 1600000 in
theorem kbegin2 (h : TwoAt w pa ga pb gb xs ys) (hm : mayB xs.length ys.length = true) (arg prio : Nat) (need : Int) (hp : prio ≤ 7) (hk : okK 2 arg xs.length)  :
    Calls Tryz.prog 19 #[reqv 2 arg prio need, vecv pa, vecv pb] w fun e w' => e = .returned (.int .i64 0) ∧ TwoAt w' pa ga pb gb ((kdOf 2 arg).bX xs.length) ((kdOf 2 arg).bY xs.length) ∧ Fr (fun k => k = ga ∨ k = gb) w w' := by
  have la := h.a.row.lt
  have lb := h.b.row.lt
  obtain ⟨W1, hW1⟩ : ∃ W1, W1 = w.alloc (reqc 2 arg prio need) := ⟨_, rfl⟩
  have F1 : Fr (fun _ => False) w W1 := by rw [hW1]; exact (Fr.refl _ _).alloc _
  have c0 : W1.cell? ⟨w.heap.size, 0, none⟩ = some (.int .i64 2) := by rw [hW1]; unfold reqc; simp
  have c1 : W1.cell? ⟨w.heap.size, 1, none⟩ = some (.int .i64 (arg : Int)) := by rw [hW1]; unfold reqc; simp
  have c2 : W1.cell? ⟨w.heap.size, 2, none⟩ = some (.int .i64 (prio : Int)) := by rw [hW1]; unfold reqc; simp
  have c3 : W1.cell? ⟨w.heap.size, 3, none⟩ = some (.int .i64 need) := by rw [hW1]; unfold reqc; simp
  have HCL := hide (fun W (hf : Fr (fun k => k = ga ∨ k = gb) W1 W) => (⟨hf.cell c0 (by intro q; simp only at q; omega), hf.cell c1 (by intro q; simp only at q; omega), hf.cell c2 (by intro q; simp only at q; omega), hf.cell c3 (by intro q; simp only at q; omega)⟩ : W.cell? ⟨w.heap.size, 0, none⟩ = some (.int .i64 2) ∧ W.cell? ⟨w.heap.size, 1, none⟩ = some (.int .i64 (arg : Int)) ∧ W.cell? ⟨w.heap.size, 2, none⟩ = some (.int .i64 (prio : Int)) ∧ W.cell? ⟨w.heap.size, 3, none⟩ = some (.int .i64 need)))
  have h1 := h.still F1
  have HCK := hide (kcheck_ok h1 hm 2 arg prio need hp hk)
  have HOF := hide (fun w => of2 w)
  have HCC := hide (fun W (hf : Fr (fun _ => False) W1 W) => clb2 (h1.still hf) hm arg hk)
  have HF1 := hide F1
  have HZ := hide hW1
  unfold reqv reqc vecv at *
  simp only [show ((2 : Nat) : Int) = 2 from rfl] at *
  clear c0 c1 c2 c3 h1 h F1 hW1 hm hk hp
  go_enter Tryz.func19, Tryz.ntmps19
  go_wp2_with fail
  rw [← HZ.out]
  go_at_call 29
  refine HCK.out.mono ?_
  rintro e w1 ⟨rfl, hf⟩
  have HF2 := hide hf
  clear hf
  go_wp2_with fail
  refine wp_region_ord [(0, true), (1, true), (4, true), (5, true), (6, true), (7, true), (2, false), (3, true), (8, false), (9, true)] (fun W => Fr (fun k => k = ga ∨ k = gb) W1 W) (by kernel_rfl) (by kernel_rfl) (HF2.out.mono (fun k h => h.elim)).drew ?_
  iterate 6
    refine ord_read rfl ?_ ?_ (fun W hS => ?_) ?_
    · rfl
    rotate_left
    · (obtain ⟨s0, s1, s2, s3⟩ := HCL.out _ hS; go_simp; try with_reducible rfl)
    simp only [List.getElem_toArray, List.getElem_cons_zero, List.getElem_cons_succ, Act.put, List.setIfInBounds_toArray, List.set_cons_zero, List.set_cons_succ]
  refine ord_act rfl ?_
  go_wp2_with fail
  go_at_call 30
  refine (HOF.out _).mono ?_
  rintro e w2 ⟨rfl, hf⟩
  have HF3 := hide (HF2.out.drew.then_ hf)
  clear hf
  go_wp2
  refine midQ_ok (HF3.out.mono (fun k h => h.elim)) ?_
  iterate 1
    refine ord_read rfl ?_ ?_ (fun W hS => ?_) ?_
    · rfl
    rotate_left
    · (skip; go_simp; rw [fld0]; rfl; try with_reducible rfl)
    simp only [List.getElem_toArray, List.getElem_cons_zero, List.getElem_cons_succ, Act.put, List.setIfInBounds_toArray, List.set_cons_zero, List.set_cons_succ]
  refine ord_act rfl ?_
  go_wp2_with fail
  go_at_call 49
  refine (HCC.out _ HF3.out).mono ?_
  rintro e w3 ⟨rfl, hT, hf⟩
  have HT := hide hT
  have HF4 := hide ((HF3.out.mono (S' := fun k => k = ga ∨ k = gb) (fun k h => h.elim)).trans hf (fun k h => .inl h))
  clear hT hf
  go_wp2
  refine midQ_ok HF4.out ?_
  iterate 1
    refine ord_read rfl ?_ ?_ (fun W hS => ?_) ?_
    · rfl
    rotate_left
    · (skip; go_simp; try with_reducible rfl)
    simp only [List.getElem_toArray, List.getElem_cons_zero, List.getElem_cons_succ, Act.put, List.setIfInBounds_toArray, List.set_cons_zero, List.set_cons_succ]
  refine ord_done ?_
  refine NoPanic.normal ?_
  go_wp2
  go_ret
  exact ⟨rfl, HT.out, (HF1.out.mono (fun k h => h.elim)).trans HF4.out (fun k h => .inl h)⟩
set_option maxHeartbeats 1600000 in
theorem kshard2 (h : TwoAt w pa ga pb gb xs ys) (hm : mayB xs.length ys.length = true) (arg prio : Nat) (need : Int) (hp : prio ≤ 7) (hk : okK 2 arg xs.length) (stay : ∀ w', Fr (fun k => k = gb) w w' → LsAt w' vs A m L) (hfit : fitsB fr to xs.length L = true) (r : Nat) (hr : r ≤ 1000) :
    Calls Tryz.prog 21 #[reqv 2 arg prio need, vecv pa, vecv pb, .agg #[.int .i64 fr, .int .i64 to, .slice A m c], .int .i64 (r : Int)] w fun e w' => e = .returned (.int .i64 0) ∧ TwoAt w' pa ga pb gb xs ((edgs fr L).foldl ((kdOf 2 arg).step r xs) ys) ∧ Fr (fun k => k = gb) w w' := by
  have la := h.a.row.lt
  have lb := h.b.row.lt
  obtain ⟨W1, hW1⟩ : ∃ W1, W1 = (w.alloc (reqc 2 arg prio need)).alloc (.cells #[.int .i64 fr, .int .i64 to, .slice A m c] 43) := ⟨_, rfl⟩
  have F1 : Fr (fun _ => False) w W1 := by rw [hW1]; exact ((Fr.refl _ _).alloc _).alloc _
  have c0 : W1.cell? ⟨w.heap.size, 0, none⟩ = some (.int .i64 2) := by rw [hW1]; unfold reqc; simp
  have c1 : W1.cell? ⟨w.heap.size, 1, none⟩ = some (.int .i64 (arg : Int)) := by rw [hW1]; unfold reqc; simp
  have c2 : W1.cell? ⟨w.heap.size, 2, none⟩ = some (.int .i64 (prio : Int)) := by rw [hW1]; unfold reqc; simp
  have c3 : W1.cell? ⟨w.heap.size, 3, none⟩ = some (.int .i64 need) := by rw [hW1]; unfold reqc; simp
  have d0 : W1.cell? ⟨w.heap.size + 1, 0, none⟩ = some (.int .i64 fr) := by rw [hW1]; unfold reqc; simp
  have d1 : W1.cell? ⟨w.heap.size + 1, 1, none⟩ = some (.int .i64 to) := by rw [hW1]; unfold reqc; simp
  have d2 : W1.cell? ⟨w.heap.size + 1, 2, none⟩ = some (.slice A m c) := by rw [hW1]; unfold reqc; simp
  have HCL := hide (fun W (hf : Fr (fun k => k = gb) W1 W) => (⟨hf.cell c0 (by intro q; simp only at q; omega), hf.cell c1 (by intro q; simp only at q; omega), hf.cell c2 (by intro q; simp only at q; omega), hf.cell c3 (by intro q; simp only at q; omega), hf.cell d0 (by intro q; simp only at q; omega), hf.cell d1 (by intro q; simp only at q; omega), hf.cell d2 (by intro q; simp only at q; omega)⟩ : W.cell? ⟨w.heap.size, 0, none⟩ = some (.int .i64 2) ∧ W.cell? ⟨w.heap.size, 1, none⟩ = some (.int .i64 (arg : Int)) ∧ W.cell? ⟨w.heap.size, 2, none⟩ = some (.int .i64 (prio : Int)) ∧ W.cell? ⟨w.heap.size, 3, none⟩ = some (.int .i64 need) ∧ W.cell? ⟨w.heap.size + 1, 0, none⟩ = some (.int .i64 fr) ∧ W.cell? ⟨w.heap.size + 1, 1, none⟩ = some (.int .i64 to) ∧ W.cell? ⟨w.heap.size + 1, 2, none⟩ = some (.slice A m c)))
  have h1 := h.still F1
  have HCK := hide (kcheck_ok h1 hm 2 arg prio need hp hk)
  have HOF := hide (fun w => of2 w)
  have HCC := hide (fun W (hf : Fr (fun _ => False) W1 W) => cls2 (c := c) (h1.still hf) hm arg hk (fun w2 hf2 => stay w2 (((F1.trans hf (fun k h => h.elim)).mono (fun k h => h.elim)).trans hf2 (fun k h => .inl h))) hfit r hr)
  have HF1 := hide F1
  have HZ := hide hW1
  unfold reqv reqc vecv at *
  simp only [show ((2 : Nat) : Int) = 2 from rfl] at *
  clear c0 c1 c2 c3 d0 d1 d2 h1 h F1 hW1 hm hk hp stay hfit
  go_enter Tryz.func21, Tryz.ntmps21
  go_wp2_with fail
  rw [← HZ.out]
  go_at_call 29
  refine HCK.out.mono ?_
  rintro e w1 ⟨rfl, hf⟩
  have HF2 := hide hf
  clear hf
  go_wp2_with fail
  refine wp_region_ord [(0, true), (1, true), (4, true), (5, true), (6, true), (7, true), (2, false), (3, true), (8, false), (9, true)] (fun W => Fr (fun k => k = gb) W1 W) (by kernel_rfl) (by kernel_rfl) (HF2.out.mono (fun k h => h.elim)).drew ?_
  iterate 6
    refine ord_read rfl ?_ ?_ (fun W hS => ?_) ?_
    · rfl
    rotate_left
    · (obtain ⟨s0, s1, s2, s3, s4, s5, s6⟩ := HCL.out _ hS; go_simp; try with_reducible rfl)
    simp only [List.getElem_toArray, List.getElem_cons_zero, List.getElem_cons_succ, Act.put, List.setIfInBounds_toArray, List.set_cons_zero, List.set_cons_succ]
  refine ord_act rfl ?_
  go_wp2_with fail
  go_at_call 30
  refine (HOF.out _).mono ?_
  rintro e w2 ⟨rfl, hf⟩
  have HF3 := hide (HF2.out.drew.then_ hf)
  clear hf
  go_wp2
  refine midQ_ok (HF3.out.mono (fun k h => h.elim)) ?_
  iterate 1
    refine ord_read rfl ?_ ?_ (fun W hS => ?_) ?_
    · rfl
    rotate_left
    · (skip; go_simp; rw [fld1]; rfl; try with_reducible rfl)
    simp only [List.getElem_toArray, List.getElem_cons_zero, List.getElem_cons_succ, Act.put, List.setIfInBounds_toArray, List.set_cons_zero, List.set_cons_succ]
  refine ord_act rfl ?_
  go_wp2_with fail
  go_at_call 51
  refine (HCC.out _ HF3.out).mono ?_
  rintro e w3 ⟨rfl, hT, hf⟩
  have HT := hide hT
  have HF4 := hide ((HF3.out.mono (S' := fun k => k = gb) (fun k h => h.elim)).trans hf (fun k h => .inl h))
  clear hT hf
  go_wp2
  refine midQ_ok HF4.out ?_
  iterate 1
    refine ord_read rfl ?_ ?_ (fun W hS => ?_) ?_
    · rfl
    rotate_left
    · (skip; go_simp; try with_reducible rfl)
    simp only [List.getElem_toArray, List.getElem_cons_zero, List.getElem_cons_succ, Act.put, List.setIfInBounds_toArray, List.set_cons_zero, List.set_cons_succ]
  refine ord_done ?_
  refine NoPanic.normal ?_
  go_wp2
  go_ret
  exact ⟨rfl, HT.out, (HF1.out.mono (fun k h => h.elim)).trans HF4.out (fun k h => .inl h)⟩
set_option maxHeartbeats 1600000 in
theorem kcommit2 (h : TwoAt w pa ga pb gb xs ys) (hm : mayB xs.length ys.length = true) (arg prio : Nat) (need : Int) (hp : prio ≤ 7) (hk : okK 2 arg xs.length) (r : Nat) (hr : r ≤ 1000) :
    Calls Tryz.prog 22 #[reqv 2 arg prio need, vecv pa, vecv pb, .int .i64 (r : Int)] w fun e w' => e = .returned (.tuple #[.bool ((kdOf 2 arg).dn r xs ys), .int .i64 0]) ∧ TwoAt w' pa ga pb gb ((kdOf 2 arg).cX xs ys) ((kdOf 2 arg).cY xs ys) ∧ Fr (fun k => k = ga ∨ k = gb) w w' := by
  have la := h.a.row.lt
  have lb := h.b.row.lt
  obtain ⟨W1, hW1⟩ : ∃ W1, W1 = w.alloc (reqc 2 arg prio need) := ⟨_, rfl⟩
  have F1 : Fr (fun _ => False) w W1 := by rw [hW1]; exact (Fr.refl _ _).alloc _
  have c0 : W1.cell? ⟨w.heap.size, 0, none⟩ = some (.int .i64 2) := by rw [hW1]; unfold reqc; simp
  have c1 : W1.cell? ⟨w.heap.size, 1, none⟩ = some (.int .i64 (arg : Int)) := by rw [hW1]; unfold reqc; simp
  have c2 : W1.cell? ⟨w.heap.size, 2, none⟩ = some (.int .i64 (prio : Int)) := by rw [hW1]; unfold reqc; simp
  have c3 : W1.cell? ⟨w.heap.size, 3, none⟩ = some (.int .i64 need) := by rw [hW1]; unfold reqc; simp
  have HCL := hide (fun W (hf : Fr (fun k => k = ga ∨ k = gb) W1 W) => (⟨hf.cell c0 (by intro q; simp only at q; omega), hf.cell c1 (by intro q; simp only at q; omega), hf.cell c2 (by intro q; simp only at q; omega), hf.cell c3 (by intro q; simp only at q; omega)⟩ : W.cell? ⟨w.heap.size, 0, none⟩ = some (.int .i64 2) ∧ W.cell? ⟨w.heap.size, 1, none⟩ = some (.int .i64 (arg : Int)) ∧ W.cell? ⟨w.heap.size, 2, none⟩ = some (.int .i64 (prio : Int)) ∧ W.cell? ⟨w.heap.size, 3, none⟩ = some (.int .i64 need)))
  have h1 := h.still F1
  have HCK := hide (kcheck_ok h1 hm 2 arg prio need hp hk)
  have HOF := hide (fun w => of2 w)
  have HCC := hide (fun W (hf : Fr (fun _ => False) W1 W) => clc2 (h1.still hf) hm arg hk r hr)
  have HF1 := hide F1
  have HZ := hide hW1
  unfold reqv reqc vecv at *
  simp only [show ((2 : Nat) : Int) = 2 from rfl] at *
  clear c0 c1 c2 c3 h1 h F1 hW1 hm hk hp
  go_enter Tryz.func22, Tryz.ntmps22
  go_wp2_with fail
  rw [← HZ.out]
  go_at_call 29
  refine HCK.out.mono ?_
  rintro e w1 ⟨rfl, hf⟩
  have HF2 := hide hf
  clear hf
  go_wp2_with fail
  refine wp_region_ord [(0, true), (1, true), (4, true), (5, true), (6, true), (7, true), (8, true), (2, false), (3, true), (9, false), (10, true), (11, true), (12, true), (13, true)] (fun W => Fr (fun k => k = ga ∨ k = gb) W1 W) (by kernel_rfl) (by kernel_rfl) (HF2.out.mono (fun k h => h.elim)).drew ?_
  iterate 7
    refine ord_read rfl ?_ ?_ (fun W hS => ?_) ?_
    · rfl
    rotate_left
    · (obtain ⟨s0, s1, s2, s3⟩ := HCL.out _ hS; go_simp; try with_reducible rfl)
    simp only [List.getElem_toArray, List.getElem_cons_zero, List.getElem_cons_succ, Act.put, List.setIfInBounds_toArray, List.set_cons_zero, List.set_cons_succ]
  refine ord_act rfl ?_
  go_wp2_with fail
  go_at_call 30
  refine (HOF.out _).mono ?_
  rintro e w2 ⟨rfl, hf⟩
  have HF3 := hide (HF2.out.drew.then_ hf)
  clear hf
  go_wp2
  refine midQ_ok (HF3.out.mono (fun k h => h.elim)) ?_
  iterate 1
    refine ord_read rfl ?_ ?_ (fun W hS => ?_) ?_
    · rfl
    rotate_left
    · (skip; go_simp; rw [fld2]; rfl; try with_reducible rfl)
    simp only [List.getElem_toArray, List.getElem_cons_zero, List.getElem_cons_succ, Act.put, List.setIfInBounds_toArray, List.set_cons_zero, List.set_cons_succ]
  refine ord_act rfl ?_
  go_wp2_with fail
  go_at_call 53
  refine (HCC.out _ HF3.out).mono ?_
  rintro e w3 ⟨rfl, hT, hf⟩
  have HT := hide hT
  have HF4 := hide ((HF3.out.mono (S' := fun k => k = ga ∨ k = gb) (fun k h => h.elim)).trans hf (fun k h => .inl h))
  clear hT hf
  go_wp2
  refine midQ_ok HF4.out ?_
  iterate 4
    refine ord_read rfl ?_ ?_ (fun W hS => ?_) ?_
    · rfl
    rotate_left
    · (skip; go_simp; try with_reducible rfl)
    simp only [List.getElem_toArray, List.getElem_cons_zero, List.getElem_cons_succ, Act.put, List.setIfInBounds_toArray, List.set_cons_zero, List.set_cons_succ]
  refine ord_done ?_
  refine NoPanic.normal ?_
  go_wp2
  go_ret2
  exact ⟨rfl, HT.out, (HF1.out.mono (fun k h => h.elim)).trans HF4.out (fun k h => .inl h)⟩
theorem clb3 (h : TwoAt w pa ga pb gb xs ys) (hm : mayB xs.length ys.length = true) (arg : Nat) (hk : okK 3 arg xs.length)  :
    Calls Tryz.prog 55 #[vecv pa, vecv pb, .int .i64 (arg : Int)] w fun e w' => e = .returned (.int .i64 0) ∧ TwoAt w' pa ga pb gb ((kdOf 3 arg).bX xs.length) ((kdOf 3 arg).bY xs.length) ∧ Fr (fun k => k = ga ∨ k = gb) w w' := by
  simp only [okK] at hk
  obtain rfl : arg = 0 := by omega
  try simp only [show ((0 : Nat) : Int) = 0 from rfl]
  have m1 := may_len hm
  have HB := hide (labels.begin_ok h hm 0 (by simp [labels.okArg]))
  unfold vecv at *
  clear h hm
  go_enter Tryz.func55, Tryz.ntmps55
  go_wp2_with fail
  go_at_call 56
  refine HB.out.mono ?_
  rintro e w1 ⟨rfl, hT, hf⟩
  have HT := hide hT
  have HF := hide hf
  clear hT hf
  go_wp2
  go_ret
  exact ⟨rfl, HT.out, HF.out⟩
theorem cls3 (h : TwoAt w pa ga pb gb xs ys) (hm : mayB xs.length ys.length = true) (arg : Nat) (hk : okK 3 arg xs.length) (stay : ∀ w', Fr (fun k => k = gb) w w' → LsAt w' vs A m L) (hfit : fitsB fr to xs.length L = true) (r : Nat) (hr : r ≤ 1000) :
    Calls Tryz.prog 57 #[vecv pa, vecv pb, .agg #[.int .i64 fr, .int .i64 to, .slice A m c], .int .i64 (r : Int)] w fun e w' => e = .returned (.int .i64 0) ∧ TwoAt w' pa ga pb gb xs ((edgs fr L).foldl ((kdOf 3 arg).step r xs) ys) ∧ Fr (fun k => k = gb) w w' := by
  simp only [okK] at hk
  obtain rfl : arg = 0 := by omega
  try simp only [show ((0 : Nat) : Int) = 0 from rfl]
  have m1 := may_len hm
  obtain ⟨W1, hW1⟩ : ∃ W1, W1 = w.alloc (.cells #[.int .i64 fr, .int .i64 to, .slice A m c] 43) := ⟨_, rfl⟩
  have F1 : Fr (fun _ => False) w W1 := by rw [hW1]; exact (Fr.refl _ _).alloc _
  have d0 : W1.cell? ⟨w.heap.size, 0, none⟩ = some (.int .i64 fr) := by rw [hW1]; simp
  have d1 : W1.cell? ⟨w.heap.size, 1, none⟩ = some (.int .i64 to) := by rw [hW1]; simp
  have d2 : W1.cell? ⟨w.heap.size, 2, none⟩ = some (.slice A m c) := by rw [hW1]; simp
  have HZ := hide hW1
  have HF1 := hide F1
  have HB := hide (labels.shard_ok (c := c) (h.still F1) hm (fun w2 hf2 => stay w2 ((F1.mono (fun k h => h.elim)).trans hf2 (fun k h => .inl h))) hfit (r : Int) (by omega))
  unfold vecv at *
  clear h hm stay hfit hW1 F1
  go_enter Tryz.func57, Tryz.ntmps57
  go_wp2_with fail
  rw [← HZ.out]
  go_at_call 58
  refine HB.out.mono ?_
  rintro e w1 ⟨rfl, hT, hf⟩
  have HT := hide hT
  have HF := hide ((HF1.out.mono (fun k h => h.elim)).trans hf (fun k h => .inl h))
  clear hT hf
  go_wp2
  go_ret
  exact ⟨rfl, HT.out, HF.out⟩
theorem clc3 (h : TwoAt w pa ga pb gb xs ys) (hm : mayB xs.length ys.length = true) (arg : Nat) (hk : okK 3 arg xs.length) (r : Nat) (hr : r ≤ 1000) :
    Calls Tryz.prog 59 #[vecv pa, vecv pb, .int .i64 (arg : Int), .int .i64 (r : Int)] w fun e w' => e = .returned (.tuple #[.bool ((kdOf 3 arg).dn r xs ys), .int .i64 0]) ∧ TwoAt w' pa ga pb gb ((kdOf 3 arg).cX xs ys) ((kdOf 3 arg).cY xs ys) ∧ Fr (fun k => k = ga ∨ k = gb) w w' := by
  simp only [okK] at hk
  obtain rfl : arg = 0 := by omega
  try simp only [show ((0 : Nat) : Int) = 0 from rfl]
  have m1 := may_len hm
  have HB := hide (labels.commit_ok h hm 0 (r : Int))
  unfold vecv at *
  clear h hm
  go_enter Tryz.func59, Tryz.ntmps59
  go_wp2_with fail
  go_at_call 60
  refine HB.out.mono ?_
  rintro e w1 ⟨rfl, hT, hf⟩
  have HT := hide hT
  have HF := hide hf
  clear hT hf
  go_wp2
  go_ret2
  exact ⟨rfl, HT.out, HF.out⟩
set_option maxHeartbeats 1600000 in
theorem kbegin3 (h : TwoAt w pa ga pb gb xs ys) (hm : mayB xs.length ys.length = true) (arg prio : Nat) (need : Int) (hp : prio ≤ 7) (hk : okK 3 arg xs.length)  :
    Calls Tryz.prog 19 #[reqv 3 arg prio need, vecv pa, vecv pb] w fun e w' => e = .returned (.int .i64 0) ∧ TwoAt w' pa ga pb gb ((kdOf 3 arg).bX xs.length) ((kdOf 3 arg).bY xs.length) ∧ Fr (fun k => k = ga ∨ k = gb) w w' := by
  have la := h.a.row.lt
  have lb := h.b.row.lt
  obtain ⟨W1, hW1⟩ : ∃ W1, W1 = w.alloc (reqc 3 arg prio need) := ⟨_, rfl⟩
  have F1 : Fr (fun _ => False) w W1 := by rw [hW1]; exact (Fr.refl _ _).alloc _
  have c0 : W1.cell? ⟨w.heap.size, 0, none⟩ = some (.int .i64 3) := by rw [hW1]; unfold reqc; simp
  have c1 : W1.cell? ⟨w.heap.size, 1, none⟩ = some (.int .i64 (arg : Int)) := by rw [hW1]; unfold reqc; simp
  have c2 : W1.cell? ⟨w.heap.size, 2, none⟩ = some (.int .i64 (prio : Int)) := by rw [hW1]; unfold reqc; simp
  have c3 : W1.cell? ⟨w.heap.size, 3, none⟩ = some (.int .i64 need) := by rw [hW1]; unfold reqc; simp
  have HCL := hide (fun W (hf : Fr (fun k => k = ga ∨ k = gb) W1 W) => (⟨hf.cell c0 (by intro q; simp only at q; omega), hf.cell c1 (by intro q; simp only at q; omega), hf.cell c2 (by intro q; simp only at q; omega), hf.cell c3 (by intro q; simp only at q; omega)⟩ : W.cell? ⟨w.heap.size, 0, none⟩ = some (.int .i64 3) ∧ W.cell? ⟨w.heap.size, 1, none⟩ = some (.int .i64 (arg : Int)) ∧ W.cell? ⟨w.heap.size, 2, none⟩ = some (.int .i64 (prio : Int)) ∧ W.cell? ⟨w.heap.size, 3, none⟩ = some (.int .i64 need)))
  have h1 := h.still F1
  have HCK := hide (kcheck_ok h1 hm 3 arg prio need hp hk)
  have HOF := hide (fun w => of3 w)
  have HCC := hide (fun W (hf : Fr (fun _ => False) W1 W) => clb3 (h1.still hf) hm arg hk)
  have HF1 := hide F1
  have HZ := hide hW1
  unfold reqv reqc vecv at *
  simp only [show ((3 : Nat) : Int) = 3 from rfl] at *
  clear c0 c1 c2 c3 h1 h F1 hW1 hm hk hp
  go_enter Tryz.func19, Tryz.ntmps19
  go_wp2_with fail
  rw [← HZ.out]
  go_at_call 29
  refine HCK.out.mono ?_
  rintro e w1 ⟨rfl, hf⟩
  have HF2 := hide hf
  clear hf
  go_wp2_with fail
  refine wp_region_ord [(0, true), (1, true), (4, true), (5, true), (6, true), (7, true), (2, false), (3, true), (8, false), (9, true)] (fun W => Fr (fun k => k = ga ∨ k = gb) W1 W) (by kernel_rfl) (by kernel_rfl) (HF2.out.mono (fun k h => h.elim)).drew ?_
  iterate 6
    refine ord_read rfl ?_ ?_ (fun W hS => ?_) ?_
    · rfl
    rotate_left
    · (obtain ⟨s0, s1, s2, s3⟩ := HCL.out _ hS; go_simp; try with_reducible rfl)
    simp only [List.getElem_toArray, List.getElem_cons_zero, List.getElem_cons_succ, Act.put, List.setIfInBounds_toArray, List.set_cons_zero, List.set_cons_succ]
  refine ord_act rfl ?_
  go_wp2_with fail
  go_at_call 30
  refine (HOF.out _).mono ?_
  rintro e w2 ⟨rfl, hf⟩
  have HF3 := hide (HF2.out.drew.then_ hf)
  clear hf
  go_wp2
  refine midQ_ok (HF3.out.mono (fun k h => h.elim)) ?_
  iterate 1
    refine ord_read rfl ?_ ?_ (fun W hS => ?_) ?_
    · rfl
    rotate_left
    · (skip; go_simp; rw [fld0]; rfl; try with_reducible rfl)
    simp only [List.getElem_toArray, List.getElem_cons_zero, List.getElem_cons_succ, Act.put, List.setIfInBounds_toArray, List.set_cons_zero, List.set_cons_succ]
  refine ord_act rfl ?_
  go_wp2_with fail
  go_at_call 55
  refine (HCC.out _ HF3.out).mono ?_
  rintro e w3 ⟨rfl, hT, hf⟩
  have HT := hide hT
  have HF4 := hide ((HF3.out.mono (S' := fun k => k = ga ∨ k = gb) (fun k h => h.elim)).trans hf (fun k h => .inl h))
  clear hT hf
  go_wp2
  refine midQ_ok HF4.out ?_
  iterate 1
    refine ord_read rfl ?_ ?_ (fun W hS => ?_) ?_
    · rfl
    rotate_left
    · (skip; go_simp; try with_reducible rfl)
    simp only [List.getElem_toArray, List.getElem_cons_zero, List.getElem_cons_succ, Act.put, List.setIfInBounds_toArray, List.set_cons_zero, List.set_cons_succ]
  refine ord_done ?_
  refine NoPanic.normal ?_
  go_wp2
  go_ret
  exact ⟨rfl, HT.out, (HF1.out.mono (fun k h => h.elim)).trans HF4.out (fun k h => .inl h)⟩
set_option maxHeartbeats 1600000 in
theorem kshard3 (h : TwoAt w pa ga pb gb xs ys) (hm : mayB xs.length ys.length = true) (arg prio : Nat) (need : Int) (hp : prio ≤ 7) (hk : okK 3 arg xs.length) (stay : ∀ w', Fr (fun k => k = gb) w w' → LsAt w' vs A m L) (hfit : fitsB fr to xs.length L = true) (r : Nat) (hr : r ≤ 1000) :
    Calls Tryz.prog 21 #[reqv 3 arg prio need, vecv pa, vecv pb, .agg #[.int .i64 fr, .int .i64 to, .slice A m c], .int .i64 (r : Int)] w fun e w' => e = .returned (.int .i64 0) ∧ TwoAt w' pa ga pb gb xs ((edgs fr L).foldl ((kdOf 3 arg).step r xs) ys) ∧ Fr (fun k => k = gb) w w' := by
  have la := h.a.row.lt
  have lb := h.b.row.lt
  obtain ⟨W1, hW1⟩ : ∃ W1, W1 = (w.alloc (reqc 3 arg prio need)).alloc (.cells #[.int .i64 fr, .int .i64 to, .slice A m c] 43) := ⟨_, rfl⟩
  have F1 : Fr (fun _ => False) w W1 := by rw [hW1]; exact ((Fr.refl _ _).alloc _).alloc _
  have c0 : W1.cell? ⟨w.heap.size, 0, none⟩ = some (.int .i64 3) := by rw [hW1]; unfold reqc; simp
  have c1 : W1.cell? ⟨w.heap.size, 1, none⟩ = some (.int .i64 (arg : Int)) := by rw [hW1]; unfold reqc; simp
  have c2 : W1.cell? ⟨w.heap.size, 2, none⟩ = some (.int .i64 (prio : Int)) := by rw [hW1]; unfold reqc; simp
  have c3 : W1.cell? ⟨w.heap.size, 3, none⟩ = some (.int .i64 need) := by rw [hW1]; unfold reqc; simp
  have d0 : W1.cell? ⟨w.heap.size + 1, 0, none⟩ = some (.int .i64 fr) := by rw [hW1]; unfold reqc; simp
  have d1 : W1.cell? ⟨w.heap.size + 1, 1, none⟩ = some (.int .i64 to) := by rw [hW1]; unfold reqc; simp
  have d2 : W1.cell? ⟨w.heap.size + 1, 2, none⟩ = some (.slice A m c) := by rw [hW1]; unfold reqc; simp
  have HCL := hide (fun W (hf : Fr (fun k => k = gb) W1 W) => (⟨hf.cell c0 (by intro q; simp only at q; omega), hf.cell c1 (by intro q; simp only at q; omega), hf.cell c2 (by intro q; simp only at q; omega), hf.cell c3 (by intro q; simp only at q; omega), hf.cell d0 (by intro q; simp only at q; omega), hf.cell d1 (by intro q; simp only at q; omega), hf.cell d2 (by intro q; simp only at q; omega)⟩ : W.cell? ⟨w.heap.size, 0, none⟩ = some (.int .i64 3) ∧ W.cell? ⟨w.heap.size, 1, none⟩ = some (.int .i64 (arg : Int)) ∧ W.cell? ⟨w.heap.size, 2, none⟩ = some (.int .i64 (prio : Int)) ∧ W.cell? ⟨w.heap.size, 3, none⟩ = some (.int .i64 need) ∧ W.cell? ⟨w.heap.size + 1, 0, none⟩ = some (.int .i64 fr) ∧ W.cell? ⟨w.heap.size + 1, 1, none⟩ = some (.int .i64 to) ∧ W.cell? ⟨w.heap.size + 1, 2, none⟩ = some (.slice A m c)))
  have h1 := h.still F1
  have HCK := hide (kcheck_ok h1 hm 3 arg prio need hp hk)
  have HOF := hide (fun w => of3 w)
  have HCC := hide (fun W (hf : Fr (fun _ => False) W1 W) => cls3 (c := c) (h1.still hf) hm arg hk (fun w2 hf2 => stay w2 (((F1.trans hf (fun k h => h.elim)).mono (fun k h => h.elim)).trans hf2 (fun k h => .inl h))) hfit r hr)
  have HF1 := hide F1
  have HZ := hide hW1
  unfold reqv reqc vecv at *
  simp only [show ((3 : Nat) : Int) = 3 from rfl] at *
  clear c0 c1 c2 c3 d0 d1 d2 h1 h F1 hW1 hm hk hp stay hfit
  go_enter Tryz.func21, Tryz.ntmps21
  go_wp2_with fail
  rw [← HZ.out]
  go_at_call 29
  refine HCK.out.mono ?_
  rintro e w1 ⟨rfl, hf⟩
  have HF2 := hide hf
  clear hf
  go_wp2_with fail
  refine wp_region_ord [(0, true), (1, true), (4, true), (5, true), (6, true), (7, true), (2, false), (3, true), (8, false), (9, true)] (fun W => Fr (fun k => k = gb) W1 W) (by kernel_rfl) (by kernel_rfl) (HF2.out.mono (fun k h => h.elim)).drew ?_
  iterate 6
    refine ord_read rfl ?_ ?_ (fun W hS => ?_) ?_
    · rfl
    rotate_left
    · (obtain ⟨s0, s1, s2, s3, s4, s5, s6⟩ := HCL.out _ hS; go_simp; try with_reducible rfl)
    simp only [List.getElem_toArray, List.getElem_cons_zero, List.getElem_cons_succ, Act.put, List.setIfInBounds_toArray, List.set_cons_zero, List.set_cons_succ]
  refine ord_act rfl ?_
  go_wp2_with fail
  go_at_call 30
  refine (HOF.out _).mono ?_
  rintro e w2 ⟨rfl, hf⟩
  have HF3 := hide (HF2.out.drew.then_ hf)
  clear hf
  go_wp2
  refine midQ_ok (HF3.out.mono (fun k h => h.elim)) ?_
  iterate 1
    refine ord_read rfl ?_ ?_ (fun W hS => ?_) ?_
    · rfl
    rotate_left
    · (skip; go_simp; rw [fld1]; rfl; try with_reducible rfl)
    simp only [List.getElem_toArray, List.getElem_cons_zero, List.getElem_cons_succ, Act.put, List.setIfInBounds_toArray, List.set_cons_zero, List.set_cons_succ]
  refine ord_act rfl ?_
  go_wp2_with fail
  go_at_call 57
  refine (HCC.out _ HF3.out).mono ?_
  rintro e w3 ⟨rfl, hT, hf⟩
  have HT := hide hT
  have HF4 := hide ((HF3.out.mono (S' := fun k => k = gb) (fun k h => h.elim)).trans hf (fun k h => .inl h))
  clear hT hf
  go_wp2
  refine midQ_ok HF4.out ?_
  iterate 1
    refine ord_read rfl ?_ ?_ (fun W hS => ?_) ?_
    · rfl
    rotate_left
    · (skip; go_simp; try with_reducible rfl)
    simp only [List.getElem_toArray, List.getElem_cons_zero, List.getElem_cons_succ, Act.put, List.setIfInBounds_toArray, List.set_cons_zero, List.set_cons_succ]
  refine ord_done ?_
  refine NoPanic.normal ?_
  go_wp2
  go_ret
  exact ⟨rfl, HT.out, (HF1.out.mono (fun k h => h.elim)).trans HF4.out (fun k h => .inl h)⟩
set_option maxHeartbeats 1600000 in
theorem kcommit3 (h : TwoAt w pa ga pb gb xs ys) (hm : mayB xs.length ys.length = true) (arg prio : Nat) (need : Int) (hp : prio ≤ 7) (hk : okK 3 arg xs.length) (r : Nat) (hr : r ≤ 1000) :
    Calls Tryz.prog 22 #[reqv 3 arg prio need, vecv pa, vecv pb, .int .i64 (r : Int)] w fun e w' => e = .returned (.tuple #[.bool ((kdOf 3 arg).dn r xs ys), .int .i64 0]) ∧ TwoAt w' pa ga pb gb ((kdOf 3 arg).cX xs ys) ((kdOf 3 arg).cY xs ys) ∧ Fr (fun k => k = ga ∨ k = gb) w w' := by
  have la := h.a.row.lt
  have lb := h.b.row.lt
  obtain ⟨W1, hW1⟩ : ∃ W1, W1 = w.alloc (reqc 3 arg prio need) := ⟨_, rfl⟩
  have F1 : Fr (fun _ => False) w W1 := by rw [hW1]; exact (Fr.refl _ _).alloc _
  have c0 : W1.cell? ⟨w.heap.size, 0, none⟩ = some (.int .i64 3) := by rw [hW1]; unfold reqc; simp
  have c1 : W1.cell? ⟨w.heap.size, 1, none⟩ = some (.int .i64 (arg : Int)) := by rw [hW1]; unfold reqc; simp
  have c2 : W1.cell? ⟨w.heap.size, 2, none⟩ = some (.int .i64 (prio : Int)) := by rw [hW1]; unfold reqc; simp
  have c3 : W1.cell? ⟨w.heap.size, 3, none⟩ = some (.int .i64 need) := by rw [hW1]; unfold reqc; simp
  have HCL := hide (fun W (hf : Fr (fun k => k = ga ∨ k = gb) W1 W) => (⟨hf.cell c0 (by intro q; simp only at q; omega), hf.cell c1 (by intro q; simp only at q; omega), hf.cell c2 (by intro q; simp only at q; omega), hf.cell c3 (by intro q; simp only at q; omega)⟩ : W.cell? ⟨w.heap.size, 0, none⟩ = some (.int .i64 3) ∧ W.cell? ⟨w.heap.size, 1, none⟩ = some (.int .i64 (arg : Int)) ∧ W.cell? ⟨w.heap.size, 2, none⟩ = some (.int .i64 (prio : Int)) ∧ W.cell? ⟨w.heap.size, 3, none⟩ = some (.int .i64 need)))
  have h1 := h.still F1
  have HCK := hide (kcheck_ok h1 hm 3 arg prio need hp hk)
  have HOF := hide (fun w => of3 w)
  have HCC := hide (fun W (hf : Fr (fun _ => False) W1 W) => clc3 (h1.still hf) hm arg hk r hr)
  have HF1 := hide F1
  have HZ := hide hW1
  unfold reqv reqc vecv at *
  simp only [show ((3 : Nat) : Int) = 3 from rfl] at *
  clear c0 c1 c2 c3 h1 h F1 hW1 hm hk hp
  go_enter Tryz.func22, Tryz.ntmps22
  go_wp2_with fail
  rw [← HZ.out]
  go_at_call 29
  refine HCK.out.mono ?_
  rintro e w1 ⟨rfl, hf⟩
  have HF2 := hide hf
  clear hf
  go_wp2_with fail
  refine wp_region_ord [(0, true), (1, true), (4, true), (5, true), (6, true), (7, true), (8, true), (2, false), (3, true), (9, false), (10, true), (11, true), (12, true), (13, true)] (fun W => Fr (fun k => k = ga ∨ k = gb) W1 W) (by kernel_rfl) (by kernel_rfl) (HF2.out.mono (fun k h => h.elim)).drew ?_
  iterate 7
    refine ord_read rfl ?_ ?_ (fun W hS => ?_) ?_
    · rfl
    rotate_left
    · (obtain ⟨s0, s1, s2, s3⟩ := HCL.out _ hS; go_simp; try with_reducible rfl)
    simp only [List.getElem_toArray, List.getElem_cons_zero, List.getElem_cons_succ, Act.put, List.setIfInBounds_toArray, List.set_cons_zero, List.set_cons_succ]
  refine ord_act rfl ?_
  go_wp2_with fail
  go_at_call 30
  refine (HOF.out _).mono ?_
  rintro e w2 ⟨rfl, hf⟩
  have HF3 := hide (HF2.out.drew.then_ hf)
  clear hf
  go_wp2
  refine midQ_ok (HF3.out.mono (fun k h => h.elim)) ?_
  iterate 1
    refine ord_read rfl ?_ ?_ (fun W hS => ?_) ?_
    · rfl
    rotate_left
    · (skip; go_simp; rw [fld2]; rfl; try with_reducible rfl)
    simp only [List.getElem_toArray, List.getElem_cons_zero, List.getElem_cons_succ, Act.put, List.setIfInBounds_toArray, List.set_cons_zero, List.set_cons_succ]
  refine ord_act rfl ?_
  go_wp2_with fail
  go_at_call 59
  refine (HCC.out _ HF3.out).mono ?_
  rintro e w3 ⟨rfl, hT, hf⟩
  have HT := hide hT
  have HF4 := hide ((HF3.out.mono (S' := fun k => k = ga ∨ k = gb) (fun k h => h.elim)).trans hf (fun k h => .inl h))
  clear hT hf
  go_wp2
  refine midQ_ok HF4.out ?_
  iterate 4
    refine ord_read rfl ?_ ?_ (fun W hS => ?_) ?_
    · rfl
    rotate_left
    · (skip; go_simp; try with_reducible rfl)
    simp only [List.getElem_toArray, List.getElem_cons_zero, List.getElem_cons_succ, Act.put, List.setIfInBounds_toArray, List.set_cons_zero, List.set_cons_succ]
  refine ord_done ?_
  refine NoPanic.normal ?_
  go_wp2
  go_ret2
  exact ⟨rfl, HT.out, (HF1.out.mono (fun k h => h.elim)).trans HF4.out (fun k h => .inl h)⟩
theorem clb4 (h : TwoAt w pa ga pb gb xs ys) (hm : mayB xs.length ys.length = true) (arg : Nat) (hk : okK 4 arg xs.length)  :
    Calls Tryz.prog 61 #[vecv pa, vecv pb, .int .i64 (arg : Int)] w fun e w' => e = .returned (.int .i64 0) ∧ TwoAt w' pa ga pb gb ((kdOf 4 arg).bX xs.length) ((kdOf 4 arg).bY xs.length) ∧ Fr (fun k => k = ga ∨ k = gb) w w' := by
  simp only [okK] at hk
  have m1 := may_len hm
  have HB := hide (cores.begin_ok h hm (arg : Int) (by simp [cores.okArg]; omega))
  unfold vecv at *
  clear h hm
  go_enter Tryz.func61, Tryz.ntmps61
  go_wp2_with fail
  go_at_call 62
  refine HB.out.mono ?_
  rintro e w1 ⟨rfl, hT, hf⟩
  have HT := hide hT
  have HF := hide hf
  clear hT hf
  go_wp2
  go_ret
  exact ⟨rfl, HT.out, HF.out⟩
theorem cls4 (h : TwoAt w pa ga pb gb xs ys) (hm : mayB xs.length ys.length = true) (arg : Nat) (hk : okK 4 arg xs.length) (stay : ∀ w', Fr (fun k => k = gb) w w' → LsAt w' vs A m L) (hfit : fitsB fr to xs.length L = true) (r : Nat) (hr : r ≤ 1000) :
    Calls Tryz.prog 63 #[vecv pa, vecv pb, .agg #[.int .i64 fr, .int .i64 to, .slice A m c], .int .i64 (r : Int)] w fun e w' => e = .returned (.int .i64 0) ∧ TwoAt w' pa ga pb gb xs ((edgs fr L).foldl ((kdOf 4 arg).step r xs) ys) ∧ Fr (fun k => k = gb) w w' := by
  simp only [okK] at hk
  have m1 := may_len hm
  obtain ⟨W1, hW1⟩ : ∃ W1, W1 = w.alloc (.cells #[.int .i64 fr, .int .i64 to, .slice A m c] 43) := ⟨_, rfl⟩
  have F1 : Fr (fun _ => False) w W1 := by rw [hW1]; exact (Fr.refl _ _).alloc _
  have d0 : W1.cell? ⟨w.heap.size, 0, none⟩ = some (.int .i64 fr) := by rw [hW1]; simp
  have d1 : W1.cell? ⟨w.heap.size, 1, none⟩ = some (.int .i64 to) := by rw [hW1]; simp
  have d2 : W1.cell? ⟨w.heap.size, 2, none⟩ = some (.slice A m c) := by rw [hW1]; simp
  have HZ := hide hW1
  have HF1 := hide F1
  have HB := hide (cores.shard_ok (c := c) (h.still F1) hm (fun w2 hf2 => stay w2 ((F1.mono (fun k h => h.elim)).trans hf2 (fun k h => .inl h))) hfit (r : Int) (by omega))
  unfold vecv at *
  clear h hm stay hfit hW1 F1
  go_enter Tryz.func63, Tryz.ntmps63
  go_wp2_with fail
  rw [← HZ.out]
  go_at_call 64
  refine HB.out.mono ?_
  rintro e w1 ⟨rfl, hT, hf⟩
  have HT := hide hT
  have HF := hide ((HF1.out.mono (fun k h => h.elim)).trans hf (fun k h => .inl h))
  clear hT hf
  go_wp2
  go_ret
  exact ⟨rfl, HT.out, HF.out⟩
theorem clc4 (h : TwoAt w pa ga pb gb xs ys) (hm : mayB xs.length ys.length = true) (arg : Nat) (hk : okK 4 arg xs.length) (r : Nat) (hr : r ≤ 1000) :
    Calls Tryz.prog 65 #[vecv pa, vecv pb, .int .i64 (arg : Int), .int .i64 (r : Int)] w fun e w' => e = .returned (.tuple #[.bool ((kdOf 4 arg).dn r xs ys), .int .i64 0]) ∧ TwoAt w' pa ga pb gb ((kdOf 4 arg).cX xs ys) ((kdOf 4 arg).cY xs ys) ∧ Fr (fun k => k = ga ∨ k = gb) w w' := by
  simp only [okK] at hk
  have m1 := may_len hm
  have HB := hide (cores.commit_ok h hm (arg : Int) (r : Int) (by omega))
  unfold vecv at *
  clear h hm
  go_enter Tryz.func65, Tryz.ntmps65
  go_wp2_with fail
  go_at_call 66
  refine HB.out.mono ?_
  rintro e w1 ⟨rfl, hT, hf⟩
  have HT := hide hT
  have HF := hide hf
  clear hT hf
  go_wp2
  go_ret2
  exact ⟨rfl, HT.out, HF.out⟩
set_option maxHeartbeats 1600000 in
theorem kbegin4 (h : TwoAt w pa ga pb gb xs ys) (hm : mayB xs.length ys.length = true) (arg prio : Nat) (need : Int) (hp : prio ≤ 7) (hk : okK 4 arg xs.length)  :
    Calls Tryz.prog 19 #[reqv 4 arg prio need, vecv pa, vecv pb] w fun e w' => e = .returned (.int .i64 0) ∧ TwoAt w' pa ga pb gb ((kdOf 4 arg).bX xs.length) ((kdOf 4 arg).bY xs.length) ∧ Fr (fun k => k = ga ∨ k = gb) w w' := by
  have la := h.a.row.lt
  have lb := h.b.row.lt
  obtain ⟨W1, hW1⟩ : ∃ W1, W1 = w.alloc (reqc 4 arg prio need) := ⟨_, rfl⟩
  have F1 : Fr (fun _ => False) w W1 := by rw [hW1]; exact (Fr.refl _ _).alloc _
  have c0 : W1.cell? ⟨w.heap.size, 0, none⟩ = some (.int .i64 4) := by rw [hW1]; unfold reqc; simp
  have c1 : W1.cell? ⟨w.heap.size, 1, none⟩ = some (.int .i64 (arg : Int)) := by rw [hW1]; unfold reqc; simp
  have c2 : W1.cell? ⟨w.heap.size, 2, none⟩ = some (.int .i64 (prio : Int)) := by rw [hW1]; unfold reqc; simp
  have c3 : W1.cell? ⟨w.heap.size, 3, none⟩ = some (.int .i64 need) := by rw [hW1]; unfold reqc; simp
  have HCL := hide (fun W (hf : Fr (fun k => k = ga ∨ k = gb) W1 W) => (⟨hf.cell c0 (by intro q; simp only at q; omega), hf.cell c1 (by intro q; simp only at q; omega), hf.cell c2 (by intro q; simp only at q; omega), hf.cell c3 (by intro q; simp only at q; omega)⟩ : W.cell? ⟨w.heap.size, 0, none⟩ = some (.int .i64 4) ∧ W.cell? ⟨w.heap.size, 1, none⟩ = some (.int .i64 (arg : Int)) ∧ W.cell? ⟨w.heap.size, 2, none⟩ = some (.int .i64 (prio : Int)) ∧ W.cell? ⟨w.heap.size, 3, none⟩ = some (.int .i64 need)))
  have h1 := h.still F1
  have HCK := hide (kcheck_ok h1 hm 4 arg prio need hp hk)
  have HOF := hide (fun w => of4 w)
  have HCC := hide (fun W (hf : Fr (fun _ => False) W1 W) => clb4 (h1.still hf) hm arg hk)
  have HF1 := hide F1
  have HZ := hide hW1
  unfold reqv reqc vecv at *
  simp only [show ((4 : Nat) : Int) = 4 from rfl] at *
  clear c0 c1 c2 c3 h1 h F1 hW1 hm hk hp
  go_enter Tryz.func19, Tryz.ntmps19
  go_wp2_with fail
  rw [← HZ.out]
  go_at_call 29
  refine HCK.out.mono ?_
  rintro e w1 ⟨rfl, hf⟩
  have HF2 := hide hf
  clear hf
  go_wp2_with fail
  refine wp_region_ord [(0, true), (1, true), (4, true), (5, true), (6, true), (7, true), (2, false), (3, true), (8, false), (9, true)] (fun W => Fr (fun k => k = ga ∨ k = gb) W1 W) (by kernel_rfl) (by kernel_rfl) (HF2.out.mono (fun k h => h.elim)).drew ?_
  iterate 6
    refine ord_read rfl ?_ ?_ (fun W hS => ?_) ?_
    · rfl
    rotate_left
    · (obtain ⟨s0, s1, s2, s3⟩ := HCL.out _ hS; go_simp; try with_reducible rfl)
    simp only [List.getElem_toArray, List.getElem_cons_zero, List.getElem_cons_succ, Act.put, List.setIfInBounds_toArray, List.set_cons_zero, List.set_cons_succ]
  refine ord_act rfl ?_
  go_wp2_with fail
  go_at_call 30
  refine (HOF.out _).mono ?_
  rintro e w2 ⟨rfl, hf⟩
  have HF3 := hide (HF2.out.drew.then_ hf)
  clear hf
  go_wp2
  refine midQ_ok (HF3.out.mono (fun k h => h.elim)) ?_
  iterate 1
    refine ord_read rfl ?_ ?_ (fun W hS => ?_) ?_
    · rfl
    rotate_left
    · (skip; go_simp; rw [fld0]; rfl; try with_reducible rfl)
    simp only [List.getElem_toArray, List.getElem_cons_zero, List.getElem_cons_succ, Act.put, List.setIfInBounds_toArray, List.set_cons_zero, List.set_cons_succ]
  refine ord_act rfl ?_
  go_wp2_with fail
  go_at_call 61
  refine (HCC.out _ HF3.out).mono ?_
  rintro e w3 ⟨rfl, hT, hf⟩
  have HT := hide hT
  have HF4 := hide ((HF3.out.mono (S' := fun k => k = ga ∨ k = gb) (fun k h => h.elim)).trans hf (fun k h => .inl h))
  clear hT hf
  go_wp2
  refine midQ_ok HF4.out ?_
  iterate 1
    refine ord_read rfl ?_ ?_ (fun W hS => ?_) ?_
    · rfl
    rotate_left
    · (skip; go_simp; try with_reducible rfl)
    simp only [List.getElem_toArray, List.getElem_cons_zero, List.getElem_cons_succ, Act.put, List.setIfInBounds_toArray, List.set_cons_zero, List.set_cons_succ]
  refine ord_done ?_
  refine NoPanic.normal ?_
  go_wp2
  go_ret
  exact ⟨rfl, HT.out, (HF1.out.mono (fun k h => h.elim)).trans HF4.out (fun k h => .inl h)⟩
set_option maxHeartbeats 1600000 in
theorem kshard4 (h : TwoAt w pa ga pb gb xs ys) (hm : mayB xs.length ys.length = true) (arg prio : Nat) (need : Int) (hp : prio ≤ 7) (hk : okK 4 arg xs.length) (stay : ∀ w', Fr (fun k => k = gb) w w' → LsAt w' vs A m L) (hfit : fitsB fr to xs.length L = true) (r : Nat) (hr : r ≤ 1000) :
    Calls Tryz.prog 21 #[reqv 4 arg prio need, vecv pa, vecv pb, .agg #[.int .i64 fr, .int .i64 to, .slice A m c], .int .i64 (r : Int)] w fun e w' => e = .returned (.int .i64 0) ∧ TwoAt w' pa ga pb gb xs ((edgs fr L).foldl ((kdOf 4 arg).step r xs) ys) ∧ Fr (fun k => k = gb) w w' := by
  have la := h.a.row.lt
  have lb := h.b.row.lt
  obtain ⟨W1, hW1⟩ : ∃ W1, W1 = (w.alloc (reqc 4 arg prio need)).alloc (.cells #[.int .i64 fr, .int .i64 to, .slice A m c] 43) := ⟨_, rfl⟩
  have F1 : Fr (fun _ => False) w W1 := by rw [hW1]; exact ((Fr.refl _ _).alloc _).alloc _
  have c0 : W1.cell? ⟨w.heap.size, 0, none⟩ = some (.int .i64 4) := by rw [hW1]; unfold reqc; simp
  have c1 : W1.cell? ⟨w.heap.size, 1, none⟩ = some (.int .i64 (arg : Int)) := by rw [hW1]; unfold reqc; simp
  have c2 : W1.cell? ⟨w.heap.size, 2, none⟩ = some (.int .i64 (prio : Int)) := by rw [hW1]; unfold reqc; simp
  have c3 : W1.cell? ⟨w.heap.size, 3, none⟩ = some (.int .i64 need) := by rw [hW1]; unfold reqc; simp
  have d0 : W1.cell? ⟨w.heap.size + 1, 0, none⟩ = some (.int .i64 fr) := by rw [hW1]; unfold reqc; simp
  have d1 : W1.cell? ⟨w.heap.size + 1, 1, none⟩ = some (.int .i64 to) := by rw [hW1]; unfold reqc; simp
  have d2 : W1.cell? ⟨w.heap.size + 1, 2, none⟩ = some (.slice A m c) := by rw [hW1]; unfold reqc; simp
  have HCL := hide (fun W (hf : Fr (fun k => k = gb) W1 W) => (⟨hf.cell c0 (by intro q; simp only at q; omega), hf.cell c1 (by intro q; simp only at q; omega), hf.cell c2 (by intro q; simp only at q; omega), hf.cell c3 (by intro q; simp only at q; omega), hf.cell d0 (by intro q; simp only at q; omega), hf.cell d1 (by intro q; simp only at q; omega), hf.cell d2 (by intro q; simp only at q; omega)⟩ : W.cell? ⟨w.heap.size, 0, none⟩ = some (.int .i64 4) ∧ W.cell? ⟨w.heap.size, 1, none⟩ = some (.int .i64 (arg : Int)) ∧ W.cell? ⟨w.heap.size, 2, none⟩ = some (.int .i64 (prio : Int)) ∧ W.cell? ⟨w.heap.size, 3, none⟩ = some (.int .i64 need) ∧ W.cell? ⟨w.heap.size + 1, 0, none⟩ = some (.int .i64 fr) ∧ W.cell? ⟨w.heap.size + 1, 1, none⟩ = some (.int .i64 to) ∧ W.cell? ⟨w.heap.size + 1, 2, none⟩ = some (.slice A m c)))
  have h1 := h.still F1
  have HCK := hide (kcheck_ok h1 hm 4 arg prio need hp hk)
  have HOF := hide (fun w => of4 w)
  have HCC := hide (fun W (hf : Fr (fun _ => False) W1 W) => cls4 (c := c) (h1.still hf) hm arg hk (fun w2 hf2 => stay w2 (((F1.trans hf (fun k h => h.elim)).mono (fun k h => h.elim)).trans hf2 (fun k h => .inl h))) hfit r hr)
  have HF1 := hide F1
  have HZ := hide hW1
  unfold reqv reqc vecv at *
  simp only [show ((4 : Nat) : Int) = 4 from rfl] at *
  clear c0 c1 c2 c3 d0 d1 d2 h1 h F1 hW1 hm hk hp stay hfit
  go_enter Tryz.func21, Tryz.ntmps21
  go_wp2_with fail
  rw [← HZ.out]
  go_at_call 29
  refine HCK.out.mono ?_
  rintro e w1 ⟨rfl, hf⟩
  have HF2 := hide hf
  clear hf
  go_wp2_with fail
  refine wp_region_ord [(0, true), (1, true), (4, true), (5, true), (6, true), (7, true), (2, false), (3, true), (8, false), (9, true)] (fun W => Fr (fun k => k = gb) W1 W) (by kernel_rfl) (by kernel_rfl) (HF2.out.mono (fun k h => h.elim)).drew ?_
  iterate 6
    refine ord_read rfl ?_ ?_ (fun W hS => ?_) ?_
    · rfl
    rotate_left
    · (obtain ⟨s0, s1, s2, s3, s4, s5, s6⟩ := HCL.out _ hS; go_simp; try with_reducible rfl)
    simp only [List.getElem_toArray, List.getElem_cons_zero, List.getElem_cons_succ, Act.put, List.setIfInBounds_toArray, List.set_cons_zero, List.set_cons_succ]
  refine ord_act rfl ?_
  go_wp2_with fail
  go_at_call 30
  refine (HOF.out _).mono ?_
  rintro e w2 ⟨rfl, hf⟩
  have HF3 := hide (HF2.out.drew.then_ hf)
  clear hf
  go_wp2
  refine midQ_ok (HF3.out.mono (fun k h => h.elim)) ?_
  iterate 1
    refine ord_read rfl ?_ ?_ (fun W hS => ?_) ?_
    · rfl
    rotate_left
    · (skip; go_simp; rw [fld1]; rfl; try with_reducible rfl)
    simp only [List.getElem_toArray, List.getElem_cons_zero, List.getElem_cons_succ, Act.put, List.setIfInBounds_toArray, List.set_cons_zero, List.set_cons_succ]
  refine ord_act rfl ?_
  go_wp2_with fail
  go_at_call 63
  refine (HCC.out _ HF3.out).mono ?_
  rintro e w3 ⟨rfl, hT, hf⟩
  have HT := hide hT
  have HF4 := hide ((HF3.out.mono (S' := fun k => k = gb) (fun k h => h.elim)).trans hf (fun k h => .inl h))
  clear hT hf
  go_wp2
  refine midQ_ok HF4.out ?_
  iterate 1
    refine ord_read rfl ?_ ?_ (fun W hS => ?_) ?_
    · rfl
    rotate_left
    · (skip; go_simp; try with_reducible rfl)
    simp only [List.getElem_toArray, List.getElem_cons_zero, List.getElem_cons_succ, Act.put, List.setIfInBounds_toArray, List.set_cons_zero, List.set_cons_succ]
  refine ord_done ?_
  refine NoPanic.normal ?_
  go_wp2
  go_ret
  exact ⟨rfl, HT.out, (HF1.out.mono (fun k h => h.elim)).trans HF4.out (fun k h => .inl h)⟩
set_option maxHeartbeats 1600000 in
theorem kcommit4 (h : TwoAt w pa ga pb gb xs ys) (hm : mayB xs.length ys.length = true) (arg prio : Nat) (need : Int) (hp : prio ≤ 7) (hk : okK 4 arg xs.length) (r : Nat) (hr : r ≤ 1000) :
    Calls Tryz.prog 22 #[reqv 4 arg prio need, vecv pa, vecv pb, .int .i64 (r : Int)] w fun e w' => e = .returned (.tuple #[.bool ((kdOf 4 arg).dn r xs ys), .int .i64 0]) ∧ TwoAt w' pa ga pb gb ((kdOf 4 arg).cX xs ys) ((kdOf 4 arg).cY xs ys) ∧ Fr (fun k => k = ga ∨ k = gb) w w' := by
  have la := h.a.row.lt
  have lb := h.b.row.lt
  obtain ⟨W1, hW1⟩ : ∃ W1, W1 = w.alloc (reqc 4 arg prio need) := ⟨_, rfl⟩
  have F1 : Fr (fun _ => False) w W1 := by rw [hW1]; exact (Fr.refl _ _).alloc _
  have c0 : W1.cell? ⟨w.heap.size, 0, none⟩ = some (.int .i64 4) := by rw [hW1]; unfold reqc; simp
  have c1 : W1.cell? ⟨w.heap.size, 1, none⟩ = some (.int .i64 (arg : Int)) := by rw [hW1]; unfold reqc; simp
  have c2 : W1.cell? ⟨w.heap.size, 2, none⟩ = some (.int .i64 (prio : Int)) := by rw [hW1]; unfold reqc; simp
  have c3 : W1.cell? ⟨w.heap.size, 3, none⟩ = some (.int .i64 need) := by rw [hW1]; unfold reqc; simp
  have HCL := hide (fun W (hf : Fr (fun k => k = ga ∨ k = gb) W1 W) => (⟨hf.cell c0 (by intro q; simp only at q; omega), hf.cell c1 (by intro q; simp only at q; omega), hf.cell c2 (by intro q; simp only at q; omega), hf.cell c3 (by intro q; simp only at q; omega)⟩ : W.cell? ⟨w.heap.size, 0, none⟩ = some (.int .i64 4) ∧ W.cell? ⟨w.heap.size, 1, none⟩ = some (.int .i64 (arg : Int)) ∧ W.cell? ⟨w.heap.size, 2, none⟩ = some (.int .i64 (prio : Int)) ∧ W.cell? ⟨w.heap.size, 3, none⟩ = some (.int .i64 need)))
  have h1 := h.still F1
  have HCK := hide (kcheck_ok h1 hm 4 arg prio need hp hk)
  have HOF := hide (fun w => of4 w)
  have HCC := hide (fun W (hf : Fr (fun _ => False) W1 W) => clc4 (h1.still hf) hm arg hk r hr)
  have HF1 := hide F1
  have HZ := hide hW1
  unfold reqv reqc vecv at *
  simp only [show ((4 : Nat) : Int) = 4 from rfl] at *
  clear c0 c1 c2 c3 h1 h F1 hW1 hm hk hp
  go_enter Tryz.func22, Tryz.ntmps22
  go_wp2_with fail
  rw [← HZ.out]
  go_at_call 29
  refine HCK.out.mono ?_
  rintro e w1 ⟨rfl, hf⟩
  have HF2 := hide hf
  clear hf
  go_wp2_with fail
  refine wp_region_ord [(0, true), (1, true), (4, true), (5, true), (6, true), (7, true), (8, true), (2, false), (3, true), (9, false), (10, true), (11, true), (12, true), (13, true)] (fun W => Fr (fun k => k = ga ∨ k = gb) W1 W) (by kernel_rfl) (by kernel_rfl) (HF2.out.mono (fun k h => h.elim)).drew ?_
  iterate 7
    refine ord_read rfl ?_ ?_ (fun W hS => ?_) ?_
    · rfl
    rotate_left
    · (obtain ⟨s0, s1, s2, s3⟩ := HCL.out _ hS; go_simp; try with_reducible rfl)
    simp only [List.getElem_toArray, List.getElem_cons_zero, List.getElem_cons_succ, Act.put, List.setIfInBounds_toArray, List.set_cons_zero, List.set_cons_succ]
  refine ord_act rfl ?_
  go_wp2_with fail
  go_at_call 30
  refine (HOF.out _).mono ?_
  rintro e w2 ⟨rfl, hf⟩
  have HF3 := hide (HF2.out.drew.then_ hf)
  clear hf
  go_wp2
  refine midQ_ok (HF3.out.mono (fun k h => h.elim)) ?_
  iterate 1
    refine ord_read rfl ?_ ?_ (fun W hS => ?_) ?_
    · rfl
    rotate_left
    · (skip; go_simp; rw [fld2]; rfl; try with_reducible rfl)
    simp only [List.getElem_toArray, List.getElem_cons_zero, List.getElem_cons_succ, Act.put, List.setIfInBounds_toArray, List.set_cons_zero, List.set_cons_succ]
  refine ord_act rfl ?_
  go_wp2_with fail
  go_at_call 65
  refine (HCC.out _ HF3.out).mono ?_
  rintro e w3 ⟨rfl, hT, hf⟩
  have HT := hide hT
  have HF4 := hide ((HF3.out.mono (S' := fun k => k = ga ∨ k = gb) (fun k h => h.elim)).trans hf (fun k h => .inl h))
  clear hT hf
  go_wp2
  refine midQ_ok HF4.out ?_
  iterate 4
    refine ord_read rfl ?_ ?_ (fun W hS => ?_) ?_
    · rfl
    rotate_left
    · (skip; go_simp; try with_reducible rfl)
    simp only [List.getElem_toArray, List.getElem_cons_zero, List.getElem_cons_succ, Act.put, List.setIfInBounds_toArray, List.set_cons_zero, List.set_cons_succ]
  refine ord_done ?_
  refine NoPanic.normal ?_
  go_wp2
  go_ret2
  exact ⟨rfl, HT.out, (HF1.out.mono (fun k h => h.elim)).trans HF4.out (fun k h => .inl h)⟩
theorem kbegin_ok (h : TwoAt w pa ga pb gb xs ys) (hm : mayB xs.length ys.length = true) (k arg prio : Nat) (need : Int) (hp : prio ≤ 7) (hk : okK k arg xs.length)  :
    Calls Tryz.prog 19 #[reqv k arg prio need, vecv pa, vecv pb] w fun e w' => e = .returned (.int .i64 0) ∧ TwoAt w' pa ga pb gb ((kdOf k arg).bX xs.length) ((kdOf k arg).bY xs.length) ∧ Fr (fun k => k = ga ∨ k = gb) w w' := by
  have hk2 : k = 1 ∨ k = 2 ∨ k = 3 ∨ k = 4 := by unfold okK at hk; omega
  rcases hk2 with rfl | rfl | rfl | rfl
  · exact kbegin1 h hm arg prio need hp hk 
  · exact kbegin2 h hm arg prio need hp hk 
  · exact kbegin3 h hm arg prio need hp hk 
  · exact kbegin4 h hm arg prio need hp hk 
theorem kshard_ok (h : TwoAt w pa ga pb gb xs ys) (hm : mayB xs.length ys.length = true) (k arg prio : Nat) (need : Int) (hp : prio ≤ 7) (hk : okK k arg xs.length) (stay : ∀ w', Fr (fun k => k = gb) w w' → LsAt w' vs A m L) (hfit : fitsB fr to xs.length L = true) (r : Nat) (hr : r ≤ 1000) :
    Calls Tryz.prog 21 #[reqv k arg prio need, vecv pa, vecv pb, .agg #[.int .i64 fr, .int .i64 to, .slice A m c], .int .i64 (r : Int)] w fun e w' => e = .returned (.int .i64 0) ∧ TwoAt w' pa ga pb gb xs ((edgs fr L).foldl ((kdOf k arg).step r xs) ys) ∧ Fr (fun k => k = gb) w w' := by
  have hk2 : k = 1 ∨ k = 2 ∨ k = 3 ∨ k = 4 := by unfold okK at hk; omega
  rcases hk2 with rfl | rfl | rfl | rfl
  · exact kshard1 h hm arg prio need hp hk stay hfit r hr 
  · exact kshard2 h hm arg prio need hp hk stay hfit r hr 
  · exact kshard3 h hm arg prio need hp hk stay hfit r hr 
  · exact kshard4 h hm arg prio need hp hk stay hfit r hr 
theorem kcommit_ok (h : TwoAt w pa ga pb gb xs ys) (hm : mayB xs.length ys.length = true) (k arg prio : Nat) (need : Int) (hp : prio ≤ 7) (hk : okK k arg xs.length) (r : Nat) (hr : r ≤ 1000) :
    Calls Tryz.prog 22 #[reqv k arg prio need, vecv pa, vecv pb, .int .i64 (r : Int)] w fun e w' => e = .returned (.tuple #[.bool ((kdOf k arg).dn r xs ys), .int .i64 0]) ∧ TwoAt w' pa ga pb gb ((kdOf k arg).cX xs ys) ((kdOf k arg).cY xs ys) ∧ Fr (fun k => k = ga ∨ k = gb) w w' := by
  have hk2 : k = 1 ∨ k = 2 ∨ k = 3 ∨ k = 4 := by unfold okK at hk; omega
  rcases hk2 with rfl | rfl | rfl | rfl
  · exact kcommit1 h hm arg prio need hp hk r hr 
  · exact kcommit2 h hm arg prio need hp hk r hr 
  · exact kcommit3 h hm arg prio need hp hk r hr 
  · exact kcommit4 h hm arg prio need hp hk r hr 
end
end Go.Proofs.YtjdbjahgimlhbaaGreat
end
