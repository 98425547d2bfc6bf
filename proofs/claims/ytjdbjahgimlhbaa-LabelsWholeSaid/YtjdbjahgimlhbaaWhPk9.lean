/- Parts of the proof of several laws: no conditions of their own. -/
import Derived.Test.YtjdbjahgimlhbaaWhPk8
import Derived.Test.YtjdbjahgimlhbaaWhPk3
import Derived.Test.YtjdbjahgimlhbaaWhPk4
import Derived.Test.YtjdbjahgimlhbaaWhPk0
section
set_option linter.unusedVariables false
set_option maxRecDepth 100000
namespace Go.Proofs.Ytjdbjahgimlhbaa.rank
open Go.RowKit

section
variable {w : World} {pa ga pb gb ca cb : Nat} {xs ys : List Nat}
theorem commit_any (h : TwoAt w pa ga pb gb xs ys) (hm : mayB xs.length ys.length = true) (arg round : Int) (ha1 : 1 ≤ arg) (ha2 : arg ≤ 64) (hr0 : 0 ≤ round) (hr1 : round ≤ 1000) :
    Calls Try.prog 23 #[vecv pa, vecv pb, .int .i64 arg, .int .i64 round] w fun e w' => e = .returned (.tuple #[.bool (decide (arg ≤ round + 1)), .int .i64 0]) ∧ TwoAt w' pa ga pb gb ((List.range xs.length).map fun i => cF (ys.getD i 0)) (bY xs.length) ∧ Fr (fun k => k = ga ∨ k = gb) w w' := by
  have hmv := fun p => meth_len p
  have hm' : 1 ≤ xs.length ∧ xs.length ≤ 256 ∧ ys.length = xs.length := by simpa [mayB] using hm
  obtain ⟨W2, hW2⟩ : ∃ W2, W2 = (w.alloc (.cells #[vecv pa] 102)).alloc (.cells #[vecv pb] 102) := ⟨_, rfl⟩
  have F2 : Fr (fun _ => False) w W2 := by rw [hW2]; exact ((Fr.refl _ _).alloc _).alloc _
  have c0 : W2.cell? ⟨w.heap.size, 0, none⟩ = some (vecv pa) := by rw [hW2]; simp
  have c1 : W2.cell? ⟨w.heap.size + 1, 0, none⟩ = some (vecv pb) := by rw [hW2]; simp
  have H2 := h.still F2
  have la := h.a.row.lt
  have lb := h.b.row.lt
  have key : Calls Try.prog 54 #[.int .i64 xs.length, .func (.func 60) #[] #[.pointer (some ⟨w.heap.size + 1, 0, none⟩), .pointer (some ⟨w.heap.size, 0, none⟩)]] W2 fun e w' => e = .returned (.int .i64 0) ∧ TwoAt w' pa ga pb gb ((List.range xs.length).map fun i => cF (ys.getD i 0)) (bY xs.length) ∧ Fr (fun k => k = ga ∨ k = gb) W2 w' := by
    refine (each_any 60 (fun args w => by kernel_rfl) #[.pointer (some ⟨w.heap.size + 1, 0, none⟩), .pointer (some ⟨w.heap.size, 0, none⟩)] xs.length
      (fun i w' => TwoAt w' pa ga pb gb (pre (fun i => cF (ys.getD i 0)) i xs) (pre (fun _ => 0) i ys) ∧ Fr (fun k => k = ga ∨ k = gb) W2 w') W2 ⟨by rw [pre_zero, pre_zero]; exact H2, Fr.refl _ _⟩ ?_ (by omega)).mono ?_
    · rintro i w' hi ⟨hT, hF⟩
      refine (commit_step hT (hF.cell c0 (by simp; omega)) (hF.cell c1 (by simp; omega)) (by omega) i (by rw [pre_len _ (by omega)]; omega) (by rw [pre_len _ (by omega)]; omega)).mono ?_
      rintro e w'' ⟨rfl, hT', hF'⟩
      rw [pre_get (fun _ => 0) (show i < ys.length by omega), pre_set (fun i => cF (ys.getD i 0)) hi, pre_set (fun _ => 0) (show i < ys.length by omega)] at hT'
      exact ⟨rfl, hT', hF.trans hF' (fun k h => .inl h)⟩
    · rintro e w' ⟨rfl, hT, hF⟩
      rw [pre_full _ rfl, pre_full _ hm'.2.2] at hT
      exact ⟨rfl, hT, hF⟩
  have CK := check_any H2
  rw [hm] at CK
  have LN := len_any H2.a
  have K : ∀ e w', (e = Ending.returned (.tuple #[.bool (decide (arg ≤ round + 1)), .int .i64 0]) ∧ TwoAt w' pa ga pb gb ((List.range xs.length).map fun i => cF (ys.getD i 0)) (bY xs.length) ∧ Fr (fun k => k = ga ∨ k = gb) W2 w') → (e = .returned (.tuple #[.bool (decide (arg ≤ round + 1)), .int .i64 0]) ∧ TwoAt w' pa ga pb gb ((List.range xs.length).map fun i => cF (ys.getD i 0)) (bY xs.length) ∧ Fr (fun k => k = ga ∨ k = gb) w w') := by
    rintro e w' ⟨h1, h2, h3⟩
    exact ⟨h1, h2, (F2.mono (fun _ h => h.elim)).trans h3 (fun k h => .inl h)⟩
  refine Calls.mono ?_ K
  have HL := hide LN
  have HC := hide CK
  have HK := hide key
  unfold vecv at *
  clear K key CK LN H2 h F2 hm hm'
  have hw : IntKind.i64.wrap (arg - 1) = arg - 1 := by simp only [IntKind.wrap, IntKind.bits, IntKind.signed]; simp; omega
  rcases (show arg ≤ round ∨ (round < arg ∧ round = arg - 1) ∨ (round < arg ∧ round ≠ arg - 1 ∧ round + 1 < arg) by omega) with hc | ⟨hc, hc2⟩ | ⟨hc, hc2, hc3⟩
  · have hdn : decide (arg ≤ round + 1) = true := by simp; omega
    go_enter Try.func23, Try.ntmps23
    go_wp2_with fail
    go_at_call 53
    rw [← hW2]
    refine HC.out.mono ?_
    rintro e w1 ⟨rfl, rfl⟩
    clear hW2
    unfold errB
    go_wp2_with fail
    go_at_call 61
    refine HL.out.mono ?_
    rintro e w1 ⟨rfl, rfl⟩
    go_wp2_with fail
    go_at_call 54
    refine HK.out.mono ?_
    rintro e w1 ⟨rfl, hT, hF⟩
    have H1 := hide hT
    have H2 := hide hF
    clear hT hF
    go_wp2
    go_ret2
    exact ⟨by rw [hdn]; rfl, H1.out, H2.out⟩
  · have hdn : decide (arg ≤ round + 1) = true := by simp; omega
    have hle : decide (arg ≤ round) = false := by simp; omega
    have hbe : (round == arg - 1) = true := by simp; omega
    go_enter Try.func23, Try.ntmps23
    go_wp2_with fail
    go_at_call 53
    rw [← hW2]
    refine HC.out.mono ?_
    rintro e w1 ⟨rfl, rfl⟩
    clear hW2
    unfold errB
    go_wp2_with fail
    go_at_call 61
    refine HL.out.mono ?_
    rintro e w1 ⟨rfl, rfl⟩
    go_wp2_with fail
    go_at_call 54
    refine HK.out.mono ?_
    rintro e w1 ⟨rfl, hT, hF⟩
    have H1 := hide hT
    have H2 := hide hF
    clear hT hF
    go_wp2
    go_ret2
    exact ⟨by rw [hdn]; rfl, H1.out, H2.out⟩
  · have hdn : decide (arg ≤ round + 1) = false := by simp; omega
    have hle : decide (arg ≤ round) = false := by simp; omega
    have hbe : (round == arg - 1) = false := by simp; omega
    go_enter Try.func23, Try.ntmps23
    go_wp2_with fail
    go_at_call 53
    rw [← hW2]
    refine HC.out.mono ?_
    rintro e w1 ⟨rfl, rfl⟩
    clear hW2
    unfold errB
    go_wp2_with fail
    go_at_call 61
    refine HL.out.mono ?_
    rintro e w1 ⟨rfl, rfl⟩
    go_wp2_with fail
    go_at_call 54
    refine HK.out.mono ?_
    rintro e w1 ⟨rfl, hT, hF⟩
    have H1 := hide hT
    have H2 := hide hF
    clear hT hF
    go_wp2
    go_ret2
    exact ⟨by rw [hdn]; rfl, H1.out, H2.out⟩
end
end Go.Proofs.Ytjdbjahgimlhbaa.rank
end
section
set_option linter.unusedVariables false
set_option maxRecDepth 100000
namespace Go.Proofs.Ytjdbjahgimlhbaa
open Go.RowKit
open Gr (E T)

/-- what a kind does with rows -/
structure Kd where
  bX : Nat → List Nat
  bY : Nat → List Nat
  step : Nat → List Nat → List Nat → T → List Nat
  cX : List Nat → List Nat → List Nat
  cY : List Nat → List Nat → List Nat
  dn : Nat → List Nat → List Nat → Bool
def kdOf (k arg : Nat) : Kd := match k with
  | 1 => ⟨fun n => bfs.bX n (arg : Int), bfs.bY, fun r xs => bfs.step (r : Int) xs, bfs.cXs (arg : Int), bfs.cYs (arg : Int), fun _ => bfs.cDone (arg : Int)⟩
  | 2 => ⟨rank.bX, rank.bY, fun _ => rank.step, fun xs ys => (List.range xs.length).map fun i => rank.cF (ys.getD i 0), fun xs _ => rank.bY xs.length, fun r _ _ => decide ((arg : Int) ≤ (r : Int) + 1)⟩
  | 3 => ⟨labels.bX, labels.bY, fun _ => labels.step, labels.cXs 0, labels.cYs 0, fun _ => labels.cDone 0⟩
  | _ => ⟨cores.bX, cores.bY, fun _ => cores.step, cores.cXs (arg : Int), cores.cYs (arg : Int), fun _ => cores.cDone (arg : Int)⟩

theorem results_cell1 {fn : Func} {a : Tmp} {ty : TypeId} (h : fn.results = #[.cell a ty]) (tmps : Array Value) (P : Program) (w : World) (v : Value) (hv : (do loadVar ty (← asAddr (tmps.getD a undef)) : Sem Value).run P w = .ok v w) : (results fn tmps).run P w = .ok v w := by
  simp only [results, h]
  simpa using hv
section
variable {w : World} {pa ga pb gb : Nat} {xs ys : List Nat}
theorem may_len {n m : Nat} (hm : mayB n m = true) : 1 ≤ n ∧ n ≤ 256 ∧ m = n := by simpa [mayB] using hm
/-- check, whatever is said of the arguments -/
theorem kcheck_of (h : TwoAt w pa ga pb gb xs ys) (hm : mayB xs.length ys.length = true) (k arg prio : Nat) (need z : Int)
    (hT : ∀ w, Calls Try.prog 76 #[reqv k arg prio need, .int .i64 (xs.length : Int)] w fun e w' => e = .returned (.int .i64 z) ∧ Fr (fun _ => False) w w') :
    Calls Try.prog 74 #[reqv k arg prio need, vecv pa, vecv pb] w fun e w' => e = .returned (.int .i64 z) ∧ Fr (fun _ => False) w w' := by
  obtain ⟨m1, m2, m3⟩ := may_len hm
  have hmv := fun p => meth_len p
  obtain ⟨W1, hW1⟩ : ∃ W1, W1 = w.alloc (reqc k arg prio need) := ⟨_, rfl⟩
  have F1 : Fr (fun _ => False) w W1 := by rw [hW1]; exact (Fr.refl _ _).alloc _
  have c0 : W1.cell? ⟨w.heap.size, 0, none⟩ = some (.int .i64 (k : Int)) := by rw [hW1]; unfold reqc; simp
  have c1 : W1.cell? ⟨w.heap.size, 1, none⟩ = some (.int .i64 (arg : Int)) := by rw [hW1]; unfold reqc; simp
  have c2 : W1.cell? ⟨w.heap.size, 2, none⟩ = some (.int .i64 (prio : Int)) := by rw [hW1]; unfold reqc; simp
  have c3 : W1.cell? ⟨w.heap.size, 3, none⟩ = some (.int .i64 need) := by rw [hW1]; unfold reqc; simp
  have h1 := h.still F1
  have HC := hide (check_ok h1.a h1.b m1 m3)
  have HL := hide (fun W (hf : Fr (fun _ => False) W1 W) => len_any (h1.still hf).a)
  have HCL := hide (fun W (hf : Fr (fun _ => False) W1 W) => (⟨hf.cell c0 id, hf.cell c1 id, hf.cell c2 id, hf.cell c3 id⟩ : W.cell? ⟨w.heap.size, 0, none⟩ = some (.int .i64 (k : Int)) ∧ W.cell? ⟨w.heap.size, 1, none⟩ = some (.int .i64 (arg : Int)) ∧ W.cell? ⟨w.heap.size, 2, none⟩ = some (.int .i64 (prio : Int)) ∧ W.cell? ⟨w.heap.size, 3, none⟩ = some (.int .i64 need)))
  have HT := hide hT
  have HF1 := hide F1
  have HZ := hide hW1
  unfold reqv reqc vecv at *
  clear c0 c1 c2 c3 h1 h F1 hT hW1
  go_enter Try.func74, Try.ntmps74
  go_wp2_with fail
  rw [← HZ.out]
  go_at_call 53
  refine HC.out.mono ?_
  rintro e w1 ⟨rfl, rfl⟩
  go_wp2_with fail
  refine wp_region_ord [(0, true), (1, true), (2, false), (3, false), (4, true)] (fun W => Fr (fun _ => False) W1 W) (by kernel_rfl) (by kernel_rfl) (Fr.refl _ _).drew ?_
  iterate 2
    refine ord_read rfl ?_ ?_ (fun W hS => ?_) ?_
    · rfl
    rotate_left
    · (obtain ⟨s0, s1, s2, s3⟩ := HCL.out _ hS; go_simp; try with_reducible rfl)
    simp only [List.getElem_toArray, List.getElem_cons_zero, List.getElem_cons_succ, Act.put, List.setIfInBounds_toArray, List.set_cons_zero, List.set_cons_succ]
  refine ord_act rfl ?_
  go_wp2_with fail
  go_at_call 61
  refine (HL.out _ (Fr.refl _ _).drew).mono ?_
  rintro e w2 ⟨rfl, rfl⟩
  go_wp2
  refine midQ_ok (Fr.refl _ _).drew ?_
  refine ord_act rfl ?_
  go_wp2_with fail
  go_at_call 76
  refine (HT.out _).mono ?_
  rintro e w2 ⟨rfl, hf⟩
  have HF2 := hide ((Fr.refl (fun _ => False) W1).drew.trans hf (fun k h => h.elim))
  go_wp2
  refine midQ_ok HF2.out ?_
  iterate 1
    refine ord_read rfl ?_ ?_ (fun W hS => ?_) ?_
    · rfl
    rotate_left
    · (skip; go_simp; try with_reducible rfl)
    simp only [List.getElem_toArray, List.getElem_cons_zero, List.getElem_cons_succ, Act.put, List.setIfInBounds_toArray, List.set_cons_zero, List.set_cons_succ]
  refine ord_done ?_
  refine NoPanic.normal ?_
  go_wp2
  go_ret
  exact ⟨rfl, HF1.out.trans HF2.out (fun k h => h.elim)⟩
theorem kcheck_ok (h : TwoAt w pa ga pb gb xs ys) (hm : mayB xs.length ys.length = true) (k arg prio : Nat) (need : Int) (hp : prio ≤ 7) (hk : okK k arg xs.length) :
    Calls Try.prog 74 #[reqv k arg prio need, vecv pa, vecv pb] w fun e w' => e = .returned (.int .i64 0) ∧ Fr (fun _ => False) w w' := by
  obtain ⟨m1, m2, m3⟩ := may_len hm
  exact kcheck_of h hm k arg prio need 0 (fun w => tcheck_ok k arg prio _ need m1 m2 hp hk w)
end
theorem of1 (w : World) : Calls Try.prog 75 #[.int .i64 1] w fun e w' => e = .returned (.agg #[.func (.func 84) #[] #[], .func (.func 85) #[] #[], .func (.func 86) #[] #[]]) ∧ Fr (fun _ => False) w w' := by
  have F1 := hide ((Fr.refl (fun _ => False) w).alloc (.cells #[.func (.func 84) #[] #[], .func (.func 85) #[] #[], .func (.func 86) #[] #[]] 126))
  have hst : ∀ (a : Addr) (f : FuncId) (W : World) (m : Mode), (store a (.func (.func f) #[] #[]) m).run Try.prog W = stored Try.prog W a (.func (.func f) #[] #[]) m := fun a f W m => run_store _ W a _ m rfl
  go_enter Try.func75, Try.ntmps75
  go_wp2
  try simp only [Exit.inBlock, Exit.then]
  refine bodyPost_ret (results_cell1 rfl _ _ _ (.agg #[.func (.func 84) #[] #[], .func (.func 85) #[] #[], .func (.func 86) #[] #[]]) ?hv) rfl ?_
  case hv => go_simp
  exact ⟨rfl, F1.out⟩
theorem of2 (w : World) : Calls Try.prog 75 #[.int .i64 2] w fun e w' => e = .returned (.agg #[.func (.func 87) #[] #[], .func (.func 88) #[] #[], .func (.func 89) #[] #[]]) ∧ Fr (fun _ => False) w w' := by
  have F1 := hide ((Fr.refl (fun _ => False) w).alloc (.cells #[.func (.func 87) #[] #[], .func (.func 88) #[] #[], .func (.func 89) #[] #[]] 126))
  have hst : ∀ (a : Addr) (f : FuncId) (W : World) (m : Mode), (store a (.func (.func f) #[] #[]) m).run Try.prog W = stored Try.prog W a (.func (.func f) #[] #[]) m := fun a f W m => run_store _ W a _ m rfl
  go_enter Try.func75, Try.ntmps75
  go_wp2
  try simp only [Exit.inBlock, Exit.then]
  refine bodyPost_ret (results_cell1 rfl _ _ _ (.agg #[.func (.func 87) #[] #[], .func (.func 88) #[] #[], .func (.func 89) #[] #[]]) ?hv) rfl ?_
  case hv => go_simp
  exact ⟨rfl, F1.out⟩
theorem of3 (w : World) : Calls Try.prog 75 #[.int .i64 3] w fun e w' => e = .returned (.agg #[.func (.func 90) #[] #[], .func (.func 91) #[] #[], .func (.func 92) #[] #[]]) ∧ Fr (fun _ => False) w w' := by
  have F1 := hide ((Fr.refl (fun _ => False) w).alloc (.cells #[.func (.func 90) #[] #[], .func (.func 91) #[] #[], .func (.func 92) #[] #[]] 126))
  have hst : ∀ (a : Addr) (f : FuncId) (W : World) (m : Mode), (store a (.func (.func f) #[] #[]) m).run Try.prog W = stored Try.prog W a (.func (.func f) #[] #[]) m := fun a f W m => run_store _ W a _ m rfl
  go_enter Try.func75, Try.ntmps75
  go_wp2
  try simp only [Exit.inBlock, Exit.then]
  refine bodyPost_ret (results_cell1 rfl _ _ _ (.agg #[.func (.func 90) #[] #[], .func (.func 91) #[] #[], .func (.func 92) #[] #[]]) ?hv) rfl ?_
  case hv => go_simp
  exact ⟨rfl, F1.out⟩
theorem of4 (w : World) : Calls Try.prog 75 #[.int .i64 4] w fun e w' => e = .returned (.agg #[.func (.func 93) #[] #[], .func (.func 94) #[] #[], .func (.func 95) #[] #[]]) ∧ Fr (fun _ => False) w w' := by
  have F1 := hide ((Fr.refl (fun _ => False) w).alloc (.cells #[.func (.func 93) #[] #[], .func (.func 94) #[] #[], .func (.func 95) #[] #[]] 126))
  have hst : ∀ (a : Addr) (f : FuncId) (W : World) (m : Mode), (store a (.func (.func f) #[] #[]) m).run Try.prog W = stored Try.prog W a (.func (.func f) #[] #[]) m := fun a f W m => run_store _ W a _ m rfl
  go_enter Try.func75, Try.ntmps75
  go_wp2
  try simp only [Exit.inBlock, Exit.then]
  refine bodyPost_ret (results_cell1 rfl _ _ _ (.agg #[.func (.func 93) #[] #[], .func (.func 94) #[] #[], .func (.func 95) #[] #[]]) ?hv) rfl ?_
  case hv => go_simp
  exact ⟨rfl, F1.out⟩
theorem fld0 (a b c : Value) (W : World) : (Instr.field 126 (.agg #[a, b, c]) 0).run Try.prog W = .ok a W := by kernel_rfl
theorem fld1 (a b c : Value) (W : World) : (Instr.field 126 (.agg #[a, b, c]) 1).run Try.prog W = .ok b W := by kernel_rfl
theorem fld2 (a b c : Value) (W : World) : (Instr.field 126 (.agg #[a, b, c]) 2).run Try.prog W = .ok c W := by kernel_rfl
section
variable {w : World} {pa ga pb gb : Nat} {xs ys : List Nat} {fr to : Int} {A : Option Addr} {m c : Nat} {vs : List Value} {L : List (List Int)}
theorem clb1 (h : TwoAt w pa ga pb gb xs ys) (hm : mayB xs.length ys.length = true) (arg : Nat) (hk : okK 1 arg xs.length)  :
    Calls Try.prog 84 #[vecv pa, vecv pb, .int .i64 (arg : Int)] w fun e w' => e = .returned (.int .i64 0) ∧ TwoAt w' pa ga pb gb ((kdOf 1 arg).bX xs.length) ((kdOf 1 arg).bY xs.length) ∧ Fr (fun k => k = ga ∨ k = gb) w w' := by
  simp only [okK] at hk
  have m1 := may_len hm
  have HB := hide (bfs.begin_ok h hm (arg : Int) (by simp [bfs.okArg]; omega))
  unfold vecv at *
  clear h hm
  go_enter Try.func84, Try.ntmps84
  go_wp2_with fail
  go_at_call 33
  refine HB.out.mono ?_
  rintro e w1 ⟨rfl, hT, hf⟩
  have HT := hide hT
  have HF := hide hf
  clear hT hf
  go_wp2
  go_ret
  exact ⟨rfl, HT.out, HF.out⟩
theorem cls1 (h : TwoAt w pa ga pb gb xs ys) (hm : mayB xs.length ys.length = true) (arg : Nat) (hk : okK 1 arg xs.length) (stay : ∀ w', Fr (fun k => k = gb) w w' → LsAt w' vs A m L) (hfit : fitsB fr to xs.length L = true) (r : Nat) (hr : r ≤ 1000) :
    Calls Try.prog 85 #[vecv pa, vecv pb, .agg #[.int .i64 fr, .int .i64 to, .slice A m c], .int .i64 (r : Int)] w fun e w' => e = .returned (.int .i64 0) ∧ TwoAt w' pa ga pb gb xs ((edgs fr L).foldl ((kdOf 1 arg).step r xs) ys) ∧ Fr (fun k => k = gb) w w' := by
  simp only [okK] at hk
  have m1 := may_len hm
  obtain ⟨W1, hW1⟩ : ∃ W1, W1 = w.alloc (.cells #[.int .i64 fr, .int .i64 to, .slice A m c] 45) := ⟨_, rfl⟩
  have F1 : Fr (fun _ => False) w W1 := by rw [hW1]; exact (Fr.refl _ _).alloc _
  have d0 : W1.cell? ⟨w.heap.size, 0, none⟩ = some (.int .i64 fr) := by rw [hW1]; simp
  have d1 : W1.cell? ⟨w.heap.size, 1, none⟩ = some (.int .i64 to) := by rw [hW1]; simp
  have d2 : W1.cell? ⟨w.heap.size, 2, none⟩ = some (.slice A m c) := by rw [hW1]; simp
  have HZ := hide hW1
  have HF1 := hide F1
  have HB := hide (bfs.shard_ok (c := c) (h.still F1) hm (fun w2 hf2 => stay w2 ((F1.mono (fun k h => h.elim)).trans hf2 (fun k h => .inl h))) hfit (r : Int) (by omega) (by omega))
  unfold vecv at *
  clear h hm stay hfit hW1 F1
  go_enter Try.func85, Try.ntmps85
  go_wp2_with fail
  rw [← HZ.out]
  go_at_call 35
  refine HB.out.mono ?_
  rintro e w1 ⟨rfl, hT, hf⟩
  have HT := hide hT
  have HF := hide ((HF1.out.mono (fun k h => h.elim)).trans hf (fun k h => .inl h))
  clear hT hf
  go_wp2
  go_ret
  exact ⟨rfl, HT.out, HF.out⟩
theorem clc1 (h : TwoAt w pa ga pb gb xs ys) (hm : mayB xs.length ys.length = true) (arg : Nat) (hk : okK 1 arg xs.length) (r : Nat) (hr : r ≤ 1000) :
    Calls Try.prog 86 #[vecv pa, vecv pb, .int .i64 (arg : Int), .int .i64 (r : Int)] w fun e w' => e = .returned (.tuple #[.bool ((kdOf 1 arg).dn r xs ys), .int .i64 0]) ∧ TwoAt w' pa ga pb gb ((kdOf 1 arg).cX xs ys) ((kdOf 1 arg).cY xs ys) ∧ Fr (fun k => k = ga ∨ k = gb) w w' := by
  simp only [okK] at hk
  have m1 := may_len hm
  have HB := hide (bfs.commit_ok h hm (arg : Int) (r : Int))
  unfold vecv at *
  clear h hm
  go_enter Try.func86, Try.ntmps86
  go_wp2_with fail
  go_at_call 36
  refine HB.out.mono ?_
  rintro e w1 ⟨rfl, hT, hf⟩
  have HT := hide hT
  have HF := hide hf
  clear hT hf
  go_wp2
  go_ret2
  exact ⟨rfl, HT.out, HF.out⟩
set_option maxHeartbeats 1600000 in
theorem kbegin1 (h : TwoAt w pa ga pb gb xs ys) (hm : mayB xs.length ys.length = true) (arg prio : Nat) (need : Int) (hp : prio ≤ 7) (hk : okK 1 arg xs.length)  :
    Calls Try.prog 42 #[reqv 1 arg prio need, vecv pa, vecv pb] w fun e w' => e = .returned (.int .i64 0) ∧ TwoAt w' pa ga pb gb ((kdOf 1 arg).bX xs.length) ((kdOf 1 arg).bY xs.length) ∧ Fr (fun k => k = ga ∨ k = gb) w w' := by
  have la := h.a.row.lt
  have lb := h.b.row.lt
  obtain ⟨W1, hW1⟩ : ∃ W1, W1 = w.alloc (reqc 1 arg prio need) := ⟨_, rfl⟩
  have F1 : Fr (fun _ => False) w W1 := by rw [hW1]; exact (Fr.refl _ _).alloc _
  have c0 : W1.cell? ⟨w.heap.size, 0, none⟩ = some (.int .i64 1) := by rw [hW1]; unfold reqc; simp
  have c1 : W1.cell? ⟨w.heap.size, 1, none⟩ = some (.int .i64 (arg : Int)) := by rw [hW1]; unfold reqc; simp
  have c2 : W1.cell? ⟨w.heap.size, 2, none⟩ = some (.int .i64 (prio : Int)) := by rw [hW1]; unfold reqc; simp
  have c3 : W1.cell? ⟨w.heap.size, 3, none⟩ = some (.int .i64 need) := by rw [hW1]; unfold reqc; simp
  have HCL := hide (fun W (hf : Fr (fun k => k = ga ∨ k = gb) W1 W) => (⟨hf.cell c0 (by intro q; simp only at q; omega), hf.cell c1 (by intro q; simp only at q; omega), hf.cell c2 (by intro q; simp only at q; omega), hf.cell c3 (by intro q; simp only at q; omega)⟩ : W.cell? ⟨w.heap.size, 0, none⟩ = some (.int .i64 1) ∧ W.cell? ⟨w.heap.size, 1, none⟩ = some (.int .i64 (arg : Int)) ∧ W.cell? ⟨w.heap.size, 2, none⟩ = some (.int .i64 (prio : Int)) ∧ W.cell? ⟨w.heap.size, 3, none⟩ = some (.int .i64 need)))
  have h1 := h.still F1
  have HCK := hide (kcheck_ok h1 hm 1 arg prio need hp hk)
  have HOF := hide (fun w => of1 w)
  have HCC := hide (fun W (hf : Fr (fun _ => False) W1 W) => clb1 (h1.still hf) hm arg hk)
  have HF1 := hide F1
  have HZ := hide hW1
  unfold reqv reqc vecv at *
  simp only [show ((1 : Nat) : Int) = 1 from rfl] at *
  clear c0 c1 c2 c3 h1 h F1 hW1 hm hk hp
  go_enter Try.func42, Try.ntmps42
  go_wp2_with fail
  rw [← HZ.out]
  go_at_call 74
  refine HCK.out.mono ?_
  rintro e w1 ⟨rfl, hf⟩
  have HF2 := hide hf
  clear hf
  go_wp2_with fail
  refine wp_region_ord [(0, true), (1, true), (4, true), (5, true), (6, true), (7, true), (2, false), (3, true), (8, false), (9, true)] (fun W => Fr (fun k => k = ga ∨ k = gb) W1 W) (by kernel_rfl) (by kernel_rfl) (HF2.out.mono (fun k h => h.elim)).drew ?_
  iterate 6
    refine ord_read rfl ?_ ?_ (fun W hS => ?_) ?_
    · rfl
    rotate_left
    · (obtain ⟨s0, s1, s2, s3⟩ := HCL.out _ hS; go_simp; try with_reducible rfl)
    simp only [List.getElem_toArray, List.getElem_cons_zero, List.getElem_cons_succ, Act.put, List.setIfInBounds_toArray, List.set_cons_zero, List.set_cons_succ]
  refine ord_act rfl ?_
  go_wp2_with fail
  go_at_call 75
  refine (HOF.out _).mono ?_
  rintro e w2 ⟨rfl, hf⟩
  have HF3 := hide (HF2.out.drew.then_ hf)
  clear hf
  go_wp2
  refine midQ_ok (HF3.out.mono (fun k h => h.elim)) ?_
  iterate 1
    refine ord_read rfl ?_ ?_ (fun W hS => ?_) ?_
    · rfl
    rotate_left
    · (skip; go_simp; rw [fld0]; rfl; try with_reducible rfl)
    simp only [List.getElem_toArray, List.getElem_cons_zero, List.getElem_cons_succ, Act.put, List.setIfInBounds_toArray, List.set_cons_zero, List.set_cons_succ]
  refine ord_act rfl ?_
  go_wp2_with fail
  go_at_call 84
  refine (HCC.out _ HF3.out).mono ?_
  rintro e w3 ⟨rfl, hT, hf⟩
  have HT := hide hT
  have HF4 := hide ((HF3.out.mono (S' := fun k => k = ga ∨ k = gb) (fun k h => h.elim)).trans hf (fun k h => .inl h))
  clear hT hf
  go_wp2
  refine midQ_ok HF4.out ?_
  iterate 1
    refine ord_read rfl ?_ ?_ (fun W hS => ?_) ?_
    · rfl
    rotate_left
    · (skip; go_simp; try with_reducible rfl)
    simp only [List.getElem_toArray, List.getElem_cons_zero, List.getElem_cons_succ, Act.put, List.setIfInBounds_toArray, List.set_cons_zero, List.set_cons_succ]
  refine ord_done ?_
  refine NoPanic.normal ?_
  go_wp2
  go_ret
  exact ⟨rfl, HT.out, (HF1.out.mono (fun k h => h.elim)).trans HF4.out (fun k h => .inl h)⟩
set_option maxHeartbeats 1600000 in
theorem kshard1 (h : TwoAt w pa ga pb gb xs ys) (hm : mayB xs.length ys.length = true) (arg prio : Nat) (need : Int) (hp : prio ≤ 7) (hk : okK 1 arg xs.length) (stay : ∀ w', Fr (fun k => k = gb) w w' → LsAt w' vs A m L) (hfit : fitsB fr to xs.length L = true) (r : Nat) (hr : r ≤ 1000) :
    Calls Try.prog 43 #[reqv 1 arg prio need, vecv pa, vecv pb, .agg #[.int .i64 fr, .int .i64 to, .slice A m c], .int .i64 (r : Int)] w fun e w' => e = .returned (.int .i64 0) ∧ TwoAt w' pa ga pb gb xs ((edgs fr L).foldl ((kdOf 1 arg).step r xs) ys) ∧ Fr (fun k => k = gb) w w' := by
  have la := h.a.row.lt
  have lb := h.b.row.lt
  obtain ⟨W1, hW1⟩ : ∃ W1, W1 = (w.alloc (reqc 1 arg prio need)).alloc (.cells #[.int .i64 fr, .int .i64 to, .slice A m c] 45) := ⟨_, rfl⟩
  have F1 : Fr (fun _ => False) w W1 := by rw [hW1]; exact ((Fr.refl _ _).alloc _).alloc _
  have c0 : W1.cell? ⟨w.heap.size, 0, none⟩ = some (.int .i64 1) := by rw [hW1]; unfold reqc; simp
  have c1 : W1.cell? ⟨w.heap.size, 1, none⟩ = some (.int .i64 (arg : Int)) := by rw [hW1]; unfold reqc; simp
  have c2 : W1.cell? ⟨w.heap.size, 2, none⟩ = some (.int .i64 (prio : Int)) := by rw [hW1]; unfold reqc; simp
  have c3 : W1.cell? ⟨w.heap.size, 3, none⟩ = some (.int .i64 need) := by rw [hW1]; unfold reqc; simp
  have d0 : W1.cell? ⟨w.heap.size + 1, 0, none⟩ = some (.int .i64 fr) := by rw [hW1]; unfold reqc; simp
  have d1 : W1.cell? ⟨w.heap.size + 1, 1, none⟩ = some (.int .i64 to) := by rw [hW1]; unfold reqc; simp
  have d2 : W1.cell? ⟨w.heap.size + 1, 2, none⟩ = some (.slice A m c) := by rw [hW1]; unfold reqc; simp
  have HCL := hide (fun W (hf : Fr (fun k => k = gb) W1 W) => (⟨hf.cell c0 (by intro q; simp only at q; omega), hf.cell c1 (by intro q; simp only at q; omega), hf.cell c2 (by intro q; simp only at q; omega), hf.cell c3 (by intro q; simp only at q; omega), hf.cell d0 (by intro q; simp only at q; omega), hf.cell d1 (by intro q; simp only at q; omega), hf.cell d2 (by intro q; simp only at q; omega)⟩ : W.cell? ⟨w.heap.size, 0, none⟩ = some (.int .i64 1) ∧ W.cell? ⟨w.heap.size, 1, none⟩ = some (.int .i64 (arg : Int)) ∧ W.cell? ⟨w.heap.size, 2, none⟩ = some (.int .i64 (prio : Int)) ∧ W.cell? ⟨w.heap.size, 3, none⟩ = some (.int .i64 need) ∧ W.cell? ⟨w.heap.size + 1, 0, none⟩ = some (.int .i64 fr) ∧ W.cell? ⟨w.heap.size + 1, 1, none⟩ = some (.int .i64 to) ∧ W.cell? ⟨w.heap.size + 1, 2, none⟩ = some (.slice A m c)))
  have h1 := h.still F1
  have HCK := hide (kcheck_ok h1 hm 1 arg prio need hp hk)
  have HOF := hide (fun w => of1 w)
  have HCC := hide (fun W (hf : Fr (fun _ => False) W1 W) => cls1 (c := c) (h1.still hf) hm arg hk (fun w2 hf2 => stay w2 (((F1.trans hf (fun k h => h.elim)).mono (fun k h => h.elim)).trans hf2 (fun k h => .inl h))) hfit r hr)
  have HF1 := hide F1
  have HZ := hide hW1
  unfold reqv reqc vecv at *
  simp only [show ((1 : Nat) : Int) = 1 from rfl] at *
  clear c0 c1 c2 c3 d0 d1 d2 h1 h F1 hW1 hm hk hp stay hfit
  go_enter Try.func43, Try.ntmps43
  go_wp2_with fail
  rw [← HZ.out]
  go_at_call 74
  refine HCK.out.mono ?_
  rintro e w1 ⟨rfl, hf⟩
  have HF2 := hide hf
  clear hf
  go_wp2_with fail
  refine wp_region_ord [(0, true), (1, true), (4, true), (5, true), (6, true), (7, true), (2, false), (3, true), (8, false), (9, true)] (fun W => Fr (fun k => k = gb) W1 W) (by kernel_rfl) (by kernel_rfl) (HF2.out.mono (fun k h => h.elim)).drew ?_
  iterate 6
    refine ord_read rfl ?_ ?_ (fun W hS => ?_) ?_
    · rfl
    rotate_left
    · (obtain ⟨s0, s1, s2, s3, s4, s5, s6⟩ := HCL.out _ hS; go_simp; try with_reducible rfl)
    simp only [List.getElem_toArray, List.getElem_cons_zero, List.getElem_cons_succ, Act.put, List.setIfInBounds_toArray, List.set_cons_zero, List.set_cons_succ]
  refine ord_act rfl ?_
  go_wp2_with fail
  go_at_call 75
  refine (HOF.out _).mono ?_
  rintro e w2 ⟨rfl, hf⟩
  have HF3 := hide (HF2.out.drew.then_ hf)
  clear hf
  go_wp2
  refine midQ_ok (HF3.out.mono (fun k h => h.elim)) ?_
  iterate 1
    refine ord_read rfl ?_ ?_ (fun W hS => ?_) ?_
    · rfl
    rotate_left
    · (skip; go_simp; rw [fld1]; rfl; try with_reducible rfl)
    simp only [List.getElem_toArray, List.getElem_cons_zero, List.getElem_cons_succ, Act.put, List.setIfInBounds_toArray, List.set_cons_zero, List.set_cons_succ]
  refine ord_act rfl ?_
  go_wp2_with fail
  go_at_call 85
  refine (HCC.out _ HF3.out).mono ?_
  rintro e w3 ⟨rfl, hT, hf⟩
  have HT := hide hT
  have HF4 := hide ((HF3.out.mono (S' := fun k => k = gb) (fun k h => h.elim)).trans hf (fun k h => .inl h))
  clear hT hf
  go_wp2
  refine midQ_ok HF4.out ?_
  iterate 1
    refine ord_read rfl ?_ ?_ (fun W hS => ?_) ?_
    · rfl
    rotate_left
    · (skip; go_simp; try with_reducible rfl)
    simp only [List.getElem_toArray, List.getElem_cons_zero, List.getElem_cons_succ, Act.put, List.setIfInBounds_toArray, List.set_cons_zero, List.set_cons_succ]
  refine ord_done ?_
  refine NoPanic.normal ?_
  go_wp2
  go_ret
  exact ⟨rfl, HT.out, (HF1.out.mono (fun k h => h.elim)).trans HF4.out (fun k h => .inl h)⟩
set_option maxHeartbeats 1600000 in
theorem kcommit1 (h : TwoAt w pa ga pb gb xs ys) (hm : mayB xs.length ys.length = true) (arg prio : Nat) (need : Int) (hp : prio ≤ 7) (hk : okK 1 arg xs.length) (r : Nat) (hr : r ≤ 1000) :
    Calls Try.prog 41 #[reqv 1 arg prio need, vecv pa, vecv pb, .int .i64 (r : Int)] w fun e w' => e = .returned (.tuple #[.bool ((kdOf 1 arg).dn r xs ys), .int .i64 0]) ∧ TwoAt w' pa ga pb gb ((kdOf 1 arg).cX xs ys) ((kdOf 1 arg).cY xs ys) ∧ Fr (fun k => k = ga ∨ k = gb) w w' := by
  have la := h.a.row.lt
  have lb := h.b.row.lt
  obtain ⟨W1, hW1⟩ : ∃ W1, W1 = w.alloc (reqc 1 arg prio need) := ⟨_, rfl⟩
  have F1 : Fr (fun _ => False) w W1 := by rw [hW1]; exact (Fr.refl _ _).alloc _
  have c0 : W1.cell? ⟨w.heap.size, 0, none⟩ = some (.int .i64 1) := by rw [hW1]; unfold reqc; simp
  have c1 : W1.cell? ⟨w.heap.size, 1, none⟩ = some (.int .i64 (arg : Int)) := by rw [hW1]; unfold reqc; simp
  have c2 : W1.cell? ⟨w.heap.size, 2, none⟩ = some (.int .i64 (prio : Int)) := by rw [hW1]; unfold reqc; simp
  have c3 : W1.cell? ⟨w.heap.size, 3, none⟩ = some (.int .i64 need) := by rw [hW1]; unfold reqc; simp
  have HCL := hide (fun W (hf : Fr (fun k => k = ga ∨ k = gb) W1 W) => (⟨hf.cell c0 (by intro q; simp only at q; omega), hf.cell c1 (by intro q; simp only at q; omega), hf.cell c2 (by intro q; simp only at q; omega), hf.cell c3 (by intro q; simp only at q; omega)⟩ : W.cell? ⟨w.heap.size, 0, none⟩ = some (.int .i64 1) ∧ W.cell? ⟨w.heap.size, 1, none⟩ = some (.int .i64 (arg : Int)) ∧ W.cell? ⟨w.heap.size, 2, none⟩ = some (.int .i64 (prio : Int)) ∧ W.cell? ⟨w.heap.size, 3, none⟩ = some (.int .i64 need)))
  have h1 := h.still F1
  have HCK := hide (kcheck_ok h1 hm 1 arg prio need hp hk)
  have HOF := hide (fun w => of1 w)
  have HCC := hide (fun W (hf : Fr (fun _ => False) W1 W) => clc1 (h1.still hf) hm arg hk r hr)
  have HF1 := hide F1
  have HZ := hide hW1
  unfold reqv reqc vecv at *
  simp only [show ((1 : Nat) : Int) = 1 from rfl] at *
  clear c0 c1 c2 c3 h1 h F1 hW1 hm hk hp
  go_enter Try.func41, Try.ntmps41
  go_wp2_with fail
  rw [← HZ.out]
  go_at_call 74
  refine HCK.out.mono ?_
  rintro e w1 ⟨rfl, hf⟩
  have HF2 := hide hf
  clear hf
  go_wp2_with fail
  refine wp_region_ord [(0, true), (1, true), (4, true), (5, true), (6, true), (7, true), (8, true), (2, false), (3, true), (9, false), (10, true), (11, true), (12, true), (13, true)] (fun W => Fr (fun k => k = ga ∨ k = gb) W1 W) (by kernel_rfl) (by kernel_rfl) (HF2.out.mono (fun k h => h.elim)).drew ?_
  iterate 7
    refine ord_read rfl ?_ ?_ (fun W hS => ?_) ?_
    · rfl
    rotate_left
    · (obtain ⟨s0, s1, s2, s3⟩ := HCL.out _ hS; go_simp; try with_reducible rfl)
    simp only [List.getElem_toArray, List.getElem_cons_zero, List.getElem_cons_succ, Act.put, List.setIfInBounds_toArray, List.set_cons_zero, List.set_cons_succ]
  refine ord_act rfl ?_
  go_wp2_with fail
  go_at_call 75
  refine (HOF.out _).mono ?_
  rintro e w2 ⟨rfl, hf⟩
  have HF3 := hide (HF2.out.drew.then_ hf)
  clear hf
  go_wp2
  refine midQ_ok (HF3.out.mono (fun k h => h.elim)) ?_
  iterate 1
    refine ord_read rfl ?_ ?_ (fun W hS => ?_) ?_
    · rfl
    rotate_left
    · (skip; go_simp; rw [fld2]; rfl; try with_reducible rfl)
    simp only [List.getElem_toArray, List.getElem_cons_zero, List.getElem_cons_succ, Act.put, List.setIfInBounds_toArray, List.set_cons_zero, List.set_cons_succ]
  refine ord_act rfl ?_
  go_wp2_with fail
  go_at_call 86
  refine (HCC.out _ HF3.out).mono ?_
  rintro e w3 ⟨rfl, hT, hf⟩
  have HT := hide hT
  have HF4 := hide ((HF3.out.mono (S' := fun k => k = ga ∨ k = gb) (fun k h => h.elim)).trans hf (fun k h => .inl h))
  clear hT hf
  go_wp2
  refine midQ_ok HF4.out ?_
  iterate 4
    refine ord_read rfl ?_ ?_ (fun W hS => ?_) ?_
    · rfl
    rotate_left
    · (skip; go_simp; try with_reducible rfl)
    simp only [List.getElem_toArray, List.getElem_cons_zero, List.getElem_cons_succ, Act.put, List.setIfInBounds_toArray, List.set_cons_zero, List.set_cons_succ]
  refine ord_done ?_
  refine NoPanic.normal ?_
  go_wp2
  go_ret2
  exact ⟨rfl, HT.out, (HF1.out.mono (fun k h => h.elim)).trans HF4.out (fun k h => .inl h)⟩
theorem clb2 (h : TwoAt w pa ga pb gb xs ys) (hm : mayB xs.length ys.length = true) (arg : Nat) (hk : okK 2 arg xs.length)  :
    Calls Try.prog 87 #[vecv pa, vecv pb, .int .i64 (arg : Int)] w fun e w' => e = .returned (.int .i64 0) ∧ TwoAt w' pa ga pb gb ((kdOf 2 arg).bX xs.length) ((kdOf 2 arg).bY xs.length) ∧ Fr (fun k => k = ga ∨ k = gb) w w' := by
  simp only [okK] at hk
  have m1 := may_len hm
  have HB := hide (rank.begin_ok h hm (arg : Int) (by simp [rank.okArg]; omega))
  unfold vecv at *
  clear h hm
  go_enter Try.func87, Try.ntmps87
  go_wp2_with fail
  go_at_call 20
  refine HB.out.mono ?_
  rintro e w1 ⟨rfl, hT, hf⟩
  have HT := hide hT
  have HF := hide hf
  clear hT hf
  go_wp2
  go_ret
  exact ⟨rfl, HT.out, HF.out⟩
theorem cls2 (h : TwoAt w pa ga pb gb xs ys) (hm : mayB xs.length ys.length = true) (arg : Nat) (hk : okK 2 arg xs.length) (stay : ∀ w', Fr (fun k => k = gb) w w' → LsAt w' vs A m L) (hfit : fitsB fr to xs.length L = true) (r : Nat) (hr : r ≤ 1000) :
    Calls Try.prog 88 #[vecv pa, vecv pb, .agg #[.int .i64 fr, .int .i64 to, .slice A m c], .int .i64 (r : Int)] w fun e w' => e = .returned (.int .i64 0) ∧ TwoAt w' pa ga pb gb xs ((edgs fr L).foldl ((kdOf 2 arg).step r xs) ys) ∧ Fr (fun k => k = gb) w w' := by
  simp only [okK] at hk
  have m1 := may_len hm
  obtain ⟨W1, hW1⟩ : ∃ W1, W1 = w.alloc (.cells #[.int .i64 fr, .int .i64 to, .slice A m c] 45) := ⟨_, rfl⟩
  have F1 : Fr (fun _ => False) w W1 := by rw [hW1]; exact (Fr.refl _ _).alloc _
  have d0 : W1.cell? ⟨w.heap.size, 0, none⟩ = some (.int .i64 fr) := by rw [hW1]; simp
  have d1 : W1.cell? ⟨w.heap.size, 1, none⟩ = some (.int .i64 to) := by rw [hW1]; simp
  have d2 : W1.cell? ⟨w.heap.size, 2, none⟩ = some (.slice A m c) := by rw [hW1]; simp
  have HZ := hide hW1
  have HF1 := hide F1
  have HB := hide (rank.shard_ok (c := c) (h.still F1) hm (fun w2 hf2 => stay w2 ((F1.mono (fun k h => h.elim)).trans hf2 (fun k h => .inl h))) hfit (r : Int) (by omega))
  unfold vecv at *
  clear h hm stay hfit hW1 F1
  go_enter Try.func88, Try.ntmps88
  go_wp2_with fail
  rw [← HZ.out]
  go_at_call 22
  refine HB.out.mono ?_
  rintro e w1 ⟨rfl, hT, hf⟩
  have HT := hide hT
  have HF := hide ((HF1.out.mono (fun k h => h.elim)).trans hf (fun k h => .inl h))
  clear hT hf
  go_wp2
  go_ret
  exact ⟨rfl, HT.out, HF.out⟩
theorem clc2 (h : TwoAt w pa ga pb gb xs ys) (hm : mayB xs.length ys.length = true) (arg : Nat) (hk : okK 2 arg xs.length) (r : Nat) (hr : r ≤ 1000) :
    Calls Try.prog 89 #[vecv pa, vecv pb, .int .i64 (arg : Int), .int .i64 (r : Int)] w fun e w' => e = .returned (.tuple #[.bool ((kdOf 2 arg).dn r xs ys), .int .i64 0]) ∧ TwoAt w' pa ga pb gb ((kdOf 2 arg).cX xs ys) ((kdOf 2 arg).cY xs ys) ∧ Fr (fun k => k = ga ∨ k = gb) w w' := by
  simp only [okK] at hk
  have m1 := may_len hm
  have HB := hide (rank.commit_any h hm (arg : Int) (r : Int) (by omega) (by omega) (by omega) (by omega))
  unfold vecv at *
  clear h hm
  go_enter Try.func89, Try.ntmps89
  go_wp2_with fail
  go_at_call 23
  refine HB.out.mono ?_
  rintro e w1 ⟨rfl, hT, hf⟩
  have HT := hide hT
  have HF := hide hf
  clear hT hf
  go_wp2
  go_ret2
  exact ⟨rfl, HT.out, HF.out⟩
set_option maxHeartbeats 1600000 in
theorem kbegin2 (h : TwoAt w pa ga pb gb xs ys) (hm : mayB xs.length ys.length = true) (arg prio : Nat) (need : Int) (hp : prio ≤ 7) (hk : okK 2 arg xs.length)  :
    Calls Try.prog 42 #[reqv 2 arg prio need, vecv pa, vecv pb] w fun e w' => e = .returned (.int .i64 0) ∧ TwoAt w' pa ga pb gb ((kdOf 2 arg).bX xs.length) ((kdOf 2 arg).bY xs.length) ∧ Fr (fun k => k = ga ∨ k = gb) w w' := by
  have la := h.a.row.lt
  have lb := h.b.row.lt
  obtain ⟨W1, hW1⟩ : ∃ W1, W1 = w.alloc (reqc 2 arg prio need) := ⟨_, rfl⟩
  have F1 : Fr (fun _ => False) w W1 := by rw [hW1]; exact (Fr.refl _ _).alloc _
  have c0 : W1.cell? ⟨w.heap.size, 0, none⟩ = some (.int .i64 2) := by rw [hW1]; unfold reqc; simp
  have c1 : W1.cell? ⟨w.heap.size, 1, none⟩ = some (.int .i64 (arg : Int)) := by rw [hW1]; unfold reqc; simp
  have c2 : W1.cell? ⟨w.heap.size, 2, none⟩ = some (.int .i64 (prio : Int)) := by rw [hW1]; unfold reqc; simp
  have c3 : W1.cell? ⟨w.heap.size, 3, none⟩ = some (.int .i64 need) := by rw [hW1]; unfold reqc; simp
  have HCL := hide (fun W (hf : Fr (fun k => k = ga ∨ k = gb) W1 W) => (⟨hf.cell c0 (by intro q; simp only at q; omega), hf.cell c1 (by intro q; simp only at q; omega), hf.cell c2 (by intro q; simp only at q; omega), hf.cell c3 (by intro q; simp only at q; omega)⟩ : W.cell? ⟨w.heap.size, 0, none⟩ = some (.int .i64 2) ∧ W.cell? ⟨w.heap.size, 1, none⟩ = some (.int .i64 (arg : Int)) ∧ W.cell? ⟨w.heap.size, 2, none⟩ = some (.int .i64 (prio : Int)) ∧ W.cell? ⟨w.heap.size, 3, none⟩ = some (.int .i64 need)))
  have h1 := h.still F1
  have HCK := hide (kcheck_ok h1 hm 2 arg prio need hp hk)
  have HOF := hide (fun w => of2 w)
  have HCC := hide (fun W (hf : Fr (fun _ => False) W1 W) => clb2 (h1.still hf) hm arg hk)
  have HF1 := hide F1
  have HZ := hide hW1
  unfold reqv reqc vecv at *
  simp only [show ((2 : Nat) : Int) = 2 from rfl] at *
  clear c0 c1 c2 c3 h1 h F1 hW1 hm hk hp
  go_enter Try.func42, Try.ntmps42
  go_wp2_with fail
  rw [← HZ.out]
  go_at_call 74
  refine HCK.out.mono ?_
  rintro e w1 ⟨rfl, hf⟩
  have HF2 := hide hf
  clear hf
  go_wp2_with fail
  refine wp_region_ord [(0, true), (1, true), (4, true), (5, true), (6, true), (7, true), (2, false), (3, true), (8, false), (9, true)] (fun W => Fr (fun k => k = ga ∨ k = gb) W1 W) (by kernel_rfl) (by kernel_rfl) (HF2.out.mono (fun k h => h.elim)).drew ?_
  iterate 6
    refine ord_read rfl ?_ ?_ (fun W hS => ?_) ?_
    · rfl
    rotate_left
    · (obtain ⟨s0, s1, s2, s3⟩ := HCL.out _ hS; go_simp; try with_reducible rfl)
    simp only [List.getElem_toArray, List.getElem_cons_zero, List.getElem_cons_succ, Act.put, List.setIfInBounds_toArray, List.set_cons_zero, List.set_cons_succ]
  refine ord_act rfl ?_
  go_wp2_with fail
  go_at_call 75
  refine (HOF.out _).mono ?_
  rintro e w2 ⟨rfl, hf⟩
  have HF3 := hide (HF2.out.drew.then_ hf)
  clear hf
  go_wp2
  refine midQ_ok (HF3.out.mono (fun k h => h.elim)) ?_
  iterate 1
    refine ord_read rfl ?_ ?_ (fun W hS => ?_) ?_
    · rfl
    rotate_left
    · (skip; go_simp; rw [fld0]; rfl; try with_reducible rfl)
    simp only [List.getElem_toArray, List.getElem_cons_zero, List.getElem_cons_succ, Act.put, List.setIfInBounds_toArray, List.set_cons_zero, List.set_cons_succ]
  refine ord_act rfl ?_
  go_wp2_with fail
  go_at_call 87
  refine (HCC.out _ HF3.out).mono ?_
  rintro e w3 ⟨rfl, hT, hf⟩
  have HT := hide hT
  have HF4 := hide ((HF3.out.mono (S' := fun k => k = ga ∨ k = gb) (fun k h => h.elim)).trans hf (fun k h => .inl h))
  clear hT hf
  go_wp2
  refine midQ_ok HF4.out ?_
  iterate 1
    refine ord_read rfl ?_ ?_ (fun W hS => ?_) ?_
    · rfl
    rotate_left
    · (skip; go_simp; try with_reducible rfl)
    simp only [List.getElem_toArray, List.getElem_cons_zero, List.getElem_cons_succ, Act.put, List.setIfInBounds_toArray, List.set_cons_zero, List.set_cons_succ]
  refine ord_done ?_
  refine NoPanic.normal ?_
  go_wp2
  go_ret
  exact ⟨rfl, HT.out, (HF1.out.mono (fun k h => h.elim)).trans HF4.out (fun k h => .inl h)⟩
set_option maxHeartbeats 1600000 in
theorem kshard2 (h : TwoAt w pa ga pb gb xs ys) (hm : mayB xs.length ys.length = true) (arg prio : Nat) (need : Int) (hp : prio ≤ 7) (hk : okK 2 arg xs.length) (stay : ∀ w', Fr (fun k => k = gb) w w' → LsAt w' vs A m L) (hfit : fitsB fr to xs.length L = true) (r : Nat) (hr : r ≤ 1000) :
    Calls Try.prog 43 #[reqv 2 arg prio need, vecv pa, vecv pb, .agg #[.int .i64 fr, .int .i64 to, .slice A m c], .int .i64 (r : Int)] w fun e w' => e = .returned (.int .i64 0) ∧ TwoAt w' pa ga pb gb xs ((edgs fr L).foldl ((kdOf 2 arg).step r xs) ys) ∧ Fr (fun k => k = gb) w w' := by
  have la := h.a.row.lt
  have lb := h.b.row.lt
  obtain ⟨W1, hW1⟩ : ∃ W1, W1 = (w.alloc (reqc 2 arg prio need)).alloc (.cells #[.int .i64 fr, .int .i64 to, .slice A m c] 45) := ⟨_, rfl⟩
  have F1 : Fr (fun _ => False) w W1 := by rw [hW1]; exact ((Fr.refl _ _).alloc _).alloc _
  have c0 : W1.cell? ⟨w.heap.size, 0, none⟩ = some (.int .i64 2) := by rw [hW1]; unfold reqc; simp
  have c1 : W1.cell? ⟨w.heap.size, 1, none⟩ = some (.int .i64 (arg : Int)) := by rw [hW1]; unfold reqc; simp
  have c2 : W1.cell? ⟨w.heap.size, 2, none⟩ = some (.int .i64 (prio : Int)) := by rw [hW1]; unfold reqc; simp
  have c3 : W1.cell? ⟨w.heap.size, 3, none⟩ = some (.int .i64 need) := by rw [hW1]; unfold reqc; simp
  have d0 : W1.cell? ⟨w.heap.size + 1, 0, none⟩ = some (.int .i64 fr) := by rw [hW1]; unfold reqc; simp
  have d1 : W1.cell? ⟨w.heap.size + 1, 1, none⟩ = some (.int .i64 to) := by rw [hW1]; unfold reqc; simp
  have d2 : W1.cell? ⟨w.heap.size + 1, 2, none⟩ = some (.slice A m c) := by rw [hW1]; unfold reqc; simp
  have HCL := hide (fun W (hf : Fr (fun k => k = gb) W1 W) => (⟨hf.cell c0 (by intro q; simp only at q; omega), hf.cell c1 (by intro q; simp only at q; omega), hf.cell c2 (by intro q; simp only at q; omega), hf.cell c3 (by intro q; simp only at q; omega), hf.cell d0 (by intro q; simp only at q; omega), hf.cell d1 (by intro q; simp only at q; omega), hf.cell d2 (by intro q; simp only at q; omega)⟩ : W.cell? ⟨w.heap.size, 0, none⟩ = some (.int .i64 2) ∧ W.cell? ⟨w.heap.size, 1, none⟩ = some (.int .i64 (arg : Int)) ∧ W.cell? ⟨w.heap.size, 2, none⟩ = some (.int .i64 (prio : Int)) ∧ W.cell? ⟨w.heap.size, 3, none⟩ = some (.int .i64 need) ∧ W.cell? ⟨w.heap.size + 1, 0, none⟩ = some (.int .i64 fr) ∧ W.cell? ⟨w.heap.size + 1, 1, none⟩ = some (.int .i64 to) ∧ W.cell? ⟨w.heap.size + 1, 2, none⟩ = some (.slice A m c)))
  have h1 := h.still F1
  have HCK := hide (kcheck_ok h1 hm 2 arg prio need hp hk)
  have HOF := hide (fun w => of2 w)
  have HCC := hide (fun W (hf : Fr (fun _ => False) W1 W) => cls2 (c := c) (h1.still hf) hm arg hk (fun w2 hf2 => stay w2 (((F1.trans hf (fun k h => h.elim)).mono (fun k h => h.elim)).trans hf2 (fun k h => .inl h))) hfit r hr)
  have HF1 := hide F1
  have HZ := hide hW1
  unfold reqv reqc vecv at *
  simp only [show ((2 : Nat) : Int) = 2 from rfl] at *
  clear c0 c1 c2 c3 d0 d1 d2 h1 h F1 hW1 hm hk hp stay hfit
  go_enter Try.func43, Try.ntmps43
  go_wp2_with fail
  rw [← HZ.out]
  go_at_call 74
  refine HCK.out.mono ?_
  rintro e w1 ⟨rfl, hf⟩
  have HF2 := hide hf
  clear hf
  go_wp2_with fail
  refine wp_region_ord [(0, true), (1, true), (4, true), (5, true), (6, true), (7, true), (2, false), (3, true), (8, false), (9, true)] (fun W => Fr (fun k => k = gb) W1 W) (by kernel_rfl) (by kernel_rfl) (HF2.out.mono (fun k h => h.elim)).drew ?_
  iterate 6
    refine ord_read rfl ?_ ?_ (fun W hS => ?_) ?_
    · rfl
    rotate_left
    · (obtain ⟨s0, s1, s2, s3, s4, s5, s6⟩ := HCL.out _ hS; go_simp; try with_reducible rfl)
    simp only [List.getElem_toArray, List.getElem_cons_zero, List.getElem_cons_succ, Act.put, List.setIfInBounds_toArray, List.set_cons_zero, List.set_cons_succ]
  refine ord_act rfl ?_
  go_wp2_with fail
  go_at_call 75
  refine (HOF.out _).mono ?_
  rintro e w2 ⟨rfl, hf⟩
  have HF3 := hide (HF2.out.drew.then_ hf)
  clear hf
  go_wp2
  refine midQ_ok (HF3.out.mono (fun k h => h.elim)) ?_
  iterate 1
    refine ord_read rfl ?_ ?_ (fun W hS => ?_) ?_
    · rfl
    rotate_left
    · (skip; go_simp; rw [fld1]; rfl; try with_reducible rfl)
    simp only [List.getElem_toArray, List.getElem_cons_zero, List.getElem_cons_succ, Act.put, List.setIfInBounds_toArray, List.set_cons_zero, List.set_cons_succ]
  refine ord_act rfl ?_
  go_wp2_with fail
  go_at_call 88
  refine (HCC.out _ HF3.out).mono ?_
  rintro e w3 ⟨rfl, hT, hf⟩
  have HT := hide hT
  have HF4 := hide ((HF3.out.mono (S' := fun k => k = gb) (fun k h => h.elim)).trans hf (fun k h => .inl h))
  clear hT hf
  go_wp2
  refine midQ_ok HF4.out ?_
  iterate 1
    refine ord_read rfl ?_ ?_ (fun W hS => ?_) ?_
    · rfl
    rotate_left
    · (skip; go_simp; try with_reducible rfl)
    simp only [List.getElem_toArray, List.getElem_cons_zero, List.getElem_cons_succ, Act.put, List.setIfInBounds_toArray, List.set_cons_zero, List.set_cons_succ]
  refine ord_done ?_
  refine NoPanic.normal ?_
  go_wp2
  go_ret
  exact ⟨rfl, HT.out, (HF1.out.mono (fun k h => h.elim)).trans HF4.out (fun k h => .inl h)⟩
set_option maxHeartbeats 1600000 in
theorem kcommit2 (h : TwoAt w pa ga pb gb xs ys) (hm : mayB xs.length ys.length = true) (arg prio : Nat) (need : Int) (hp : prio ≤ 7) (hk : okK 2 arg xs.length) (r : Nat) (hr : r ≤ 1000) :
    Calls Try.prog 41 #[reqv 2 arg prio need, vecv pa, vecv pb, .int .i64 (r : Int)] w fun e w' => e = .returned (.tuple #[.bool ((kdOf 2 arg).dn r xs ys), .int .i64 0]) ∧ TwoAt w' pa ga pb gb ((kdOf 2 arg).cX xs ys) ((kdOf 2 arg).cY xs ys) ∧ Fr (fun k => k = ga ∨ k = gb) w w' := by
  have la := h.a.row.lt
  have lb := h.b.row.lt
  obtain ⟨W1, hW1⟩ : ∃ W1, W1 = w.alloc (reqc 2 arg prio need) := ⟨_, rfl⟩
  have F1 : Fr (fun _ => False) w W1 := by rw [hW1]; exact (Fr.refl _ _).alloc _
  have c0 : W1.cell? ⟨w.heap.size, 0, none⟩ = some (.int .i64 2) := by rw [hW1]; unfold reqc; simp
  have c1 : W1.cell? ⟨w.heap.size, 1, none⟩ = some (.int .i64 (arg : Int)) := by rw [hW1]; unfold reqc; simp
  have c2 : W1.cell? ⟨w.heap.size, 2, none⟩ = some (.int .i64 (prio : Int)) := by rw [hW1]; unfold reqc; simp
  have c3 : W1.cell? ⟨w.heap.size, 3, none⟩ = some (.int .i64 need) := by rw [hW1]; unfold reqc; simp
  have HCL := hide (fun W (hf : Fr (fun k => k = ga ∨ k = gb) W1 W) => (⟨hf.cell c0 (by intro q; simp only at q; omega), hf.cell c1 (by intro q; simp only at q; omega), hf.cell c2 (by intro q; simp only at q; omega), hf.cell c3 (by intro q; simp only at q; omega)⟩ : W.cell? ⟨w.heap.size, 0, none⟩ = some (.int .i64 2) ∧ W.cell? ⟨w.heap.size, 1, none⟩ = some (.int .i64 (arg : Int)) ∧ W.cell? ⟨w.heap.size, 2, none⟩ = some (.int .i64 (prio : Int)) ∧ W.cell? ⟨w.heap.size, 3, none⟩ = some (.int .i64 need)))
  have h1 := h.still F1
  have HCK := hide (kcheck_ok h1 hm 2 arg prio need hp hk)
  have HOF := hide (fun w => of2 w)
  have HCC := hide (fun W (hf : Fr (fun _ => False) W1 W) => clc2 (h1.still hf) hm arg hk r hr)
  have HF1 := hide F1
  have HZ := hide hW1
  unfold reqv reqc vecv at *
  simp only [show ((2 : Nat) : Int) = 2 from rfl] at *
  clear c0 c1 c2 c3 h1 h F1 hW1 hm hk hp
  go_enter Try.func41, Try.ntmps41
  go_wp2_with fail
  rw [← HZ.out]
  go_at_call 74
  refine HCK.out.mono ?_
  rintro e w1 ⟨rfl, hf⟩
  have HF2 := hide hf
  clear hf
  go_wp2_with fail
  refine wp_region_ord [(0, true), (1, true), (4, true), (5, true), (6, true), (7, true), (8, true), (2, false), (3, true), (9, false), (10, true), (11, true), (12, true), (13, true)] (fun W => Fr (fun k => k = ga ∨ k = gb) W1 W) (by kernel_rfl) (by kernel_rfl) (HF2.out.mono (fun k h => h.elim)).drew ?_
  iterate 7
    refine ord_read rfl ?_ ?_ (fun W hS => ?_) ?_
    · rfl
    rotate_left
    · (obtain ⟨s0, s1, s2, s3⟩ := HCL.out _ hS; go_simp; try with_reducible rfl)
    simp only [List.getElem_toArray, List.getElem_cons_zero, List.getElem_cons_succ, Act.put, List.setIfInBounds_toArray, List.set_cons_zero, List.set_cons_succ]
  refine ord_act rfl ?_
  go_wp2_with fail
  go_at_call 75
  refine (HOF.out _).mono ?_
  rintro e w2 ⟨rfl, hf⟩
  have HF3 := hide (HF2.out.drew.then_ hf)
  clear hf
  go_wp2
  refine midQ_ok (HF3.out.mono (fun k h => h.elim)) ?_
  iterate 1
    refine ord_read rfl ?_ ?_ (fun W hS => ?_) ?_
    · rfl
    rotate_left
    · (skip; go_simp; rw [fld2]; rfl; try with_reducible rfl)
    simp only [List.getElem_toArray, List.getElem_cons_zero, List.getElem_cons_succ, Act.put, List.setIfInBounds_toArray, List.set_cons_zero, List.set_cons_succ]
  refine ord_act rfl ?_
  go_wp2_with fail
  go_at_call 89
  refine (HCC.out _ HF3.out).mono ?_
  rintro e w3 ⟨rfl, hT, hf⟩
  have HT := hide hT
  have HF4 := hide ((HF3.out.mono (S' := fun k => k = ga ∨ k = gb) (fun k h => h.elim)).trans hf (fun k h => .inl h))
  clear hT hf
  go_wp2
  refine midQ_ok HF4.out ?_
  iterate 4
    refine ord_read rfl ?_ ?_ (fun W hS => ?_) ?_
    · rfl
    rotate_left
    · (skip; go_simp; try with_reducible rfl)
    simp only [List.getElem_toArray, List.getElem_cons_zero, List.getElem_cons_succ, Act.put, List.setIfInBounds_toArray, List.set_cons_zero, List.set_cons_succ]
  refine ord_done ?_
  refine NoPanic.normal ?_
  go_wp2
  go_ret2
  exact ⟨rfl, HT.out, (HF1.out.mono (fun k h => h.elim)).trans HF4.out (fun k h => .inl h)⟩
theorem clb3 (h : TwoAt w pa ga pb gb xs ys) (hm : mayB xs.length ys.length = true) (arg : Nat) (hk : okK 3 arg xs.length)  :
    Calls Try.prog 90 #[vecv pa, vecv pb, .int .i64 (arg : Int)] w fun e w' => e = .returned (.int .i64 0) ∧ TwoAt w' pa ga pb gb ((kdOf 3 arg).bX xs.length) ((kdOf 3 arg).bY xs.length) ∧ Fr (fun k => k = ga ∨ k = gb) w w' := by
  simp only [okK] at hk
  obtain rfl : arg = 0 := by omega
  try simp only [show ((0 : Nat) : Int) = 0 from rfl]
  have m1 := may_len hm
  have HB := hide (labels.begin_ok h hm 0 (by simp [labels.okArg]))
  unfold vecv at *
  clear h hm
  go_enter Try.func90, Try.ntmps90
  go_wp2_with fail
  go_at_call 30
  refine HB.out.mono ?_
  rintro e w1 ⟨rfl, hT, hf⟩
  have HT := hide hT
  have HF := hide hf
  clear hT hf
  go_wp2
  go_ret
  exact ⟨rfl, HT.out, HF.out⟩
theorem cls3 (h : TwoAt w pa ga pb gb xs ys) (hm : mayB xs.length ys.length = true) (arg : Nat) (hk : okK 3 arg xs.length) (stay : ∀ w', Fr (fun k => k = gb) w w' → LsAt w' vs A m L) (hfit : fitsB fr to xs.length L = true) (r : Nat) (hr : r ≤ 1000) :
    Calls Try.prog 91 #[vecv pa, vecv pb, .agg #[.int .i64 fr, .int .i64 to, .slice A m c], .int .i64 (r : Int)] w fun e w' => e = .returned (.int .i64 0) ∧ TwoAt w' pa ga pb gb xs ((edgs fr L).foldl ((kdOf 3 arg).step r xs) ys) ∧ Fr (fun k => k = gb) w w' := by
  simp only [okK] at hk
  obtain rfl : arg = 0 := by omega
  try simp only [show ((0 : Nat) : Int) = 0 from rfl]
  have m1 := may_len hm
  obtain ⟨W1, hW1⟩ : ∃ W1, W1 = w.alloc (.cells #[.int .i64 fr, .int .i64 to, .slice A m c] 45) := ⟨_, rfl⟩
  have F1 : Fr (fun _ => False) w W1 := by rw [hW1]; exact (Fr.refl _ _).alloc _
  have d0 : W1.cell? ⟨w.heap.size, 0, none⟩ = some (.int .i64 fr) := by rw [hW1]; simp
  have d1 : W1.cell? ⟨w.heap.size, 1, none⟩ = some (.int .i64 to) := by rw [hW1]; simp
  have d2 : W1.cell? ⟨w.heap.size, 2, none⟩ = some (.slice A m c) := by rw [hW1]; simp
  have HZ := hide hW1
  have HF1 := hide F1
  have HB := hide (labels.shard_ok (c := c) (h.still F1) hm (fun w2 hf2 => stay w2 ((F1.mono (fun k h => h.elim)).trans hf2 (fun k h => .inl h))) hfit (r : Int) (by omega))
  unfold vecv at *
  clear h hm stay hfit hW1 F1
  go_enter Try.func91, Try.ntmps91
  go_wp2_with fail
  rw [← HZ.out]
  go_at_call 27
  refine HB.out.mono ?_
  rintro e w1 ⟨rfl, hT, hf⟩
  have HT := hide hT
  have HF := hide ((HF1.out.mono (fun k h => h.elim)).trans hf (fun k h => .inl h))
  clear hT hf
  go_wp2
  go_ret
  exact ⟨rfl, HT.out, HF.out⟩
theorem clc3 (h : TwoAt w pa ga pb gb xs ys) (hm : mayB xs.length ys.length = true) (arg : Nat) (hk : okK 3 arg xs.length) (r : Nat) (hr : r ≤ 1000) :
    Calls Try.prog 92 #[vecv pa, vecv pb, .int .i64 (arg : Int), .int .i64 (r : Int)] w fun e w' => e = .returned (.tuple #[.bool ((kdOf 3 arg).dn r xs ys), .int .i64 0]) ∧ TwoAt w' pa ga pb gb ((kdOf 3 arg).cX xs ys) ((kdOf 3 arg).cY xs ys) ∧ Fr (fun k => k = ga ∨ k = gb) w w' := by
  simp only [okK] at hk
  obtain rfl : arg = 0 := by omega
  try simp only [show ((0 : Nat) : Int) = 0 from rfl]
  have m1 := may_len hm
  have HB := hide (labels.commit_ok h hm 0 (r : Int))
  unfold vecv at *
  clear h hm
  go_enter Try.func92, Try.ntmps92
  go_wp2_with fail
  go_at_call 28
  refine HB.out.mono ?_
  rintro e w1 ⟨rfl, hT, hf⟩
  have HT := hide hT
  have HF := hide hf
  clear hT hf
  go_wp2
  go_ret2
  exact ⟨rfl, HT.out, HF.out⟩
set_option maxHeartbeats 1600000 in
theorem kbegin3 (h : TwoAt w pa ga pb gb xs ys) (hm : mayB xs.length ys.length = true) (arg prio : Nat) (need : Int) (hp : prio ≤ 7) (hk : okK 3 arg xs.length)  :
    Calls Try.prog 42 #[reqv 3 arg prio need, vecv pa, vecv pb] w fun e w' => e = .returned (.int .i64 0) ∧ TwoAt w' pa ga pb gb ((kdOf 3 arg).bX xs.length) ((kdOf 3 arg).bY xs.length) ∧ Fr (fun k => k = ga ∨ k = gb) w w' := by
  have la := h.a.row.lt
  have lb := h.b.row.lt
  obtain ⟨W1, hW1⟩ : ∃ W1, W1 = w.alloc (reqc 3 arg prio need) := ⟨_, rfl⟩
  have F1 : Fr (fun _ => False) w W1 := by rw [hW1]; exact (Fr.refl _ _).alloc _
  have c0 : W1.cell? ⟨w.heap.size, 0, none⟩ = some (.int .i64 3) := by rw [hW1]; unfold reqc; simp
  have c1 : W1.cell? ⟨w.heap.size, 1, none⟩ = some (.int .i64 (arg : Int)) := by rw [hW1]; unfold reqc; simp
  have c2 : W1.cell? ⟨w.heap.size, 2, none⟩ = some (.int .i64 (prio : Int)) := by rw [hW1]; unfold reqc; simp
  have c3 : W1.cell? ⟨w.heap.size, 3, none⟩ = some (.int .i64 need) := by rw [hW1]; unfold reqc; simp
  have HCL := hide (fun W (hf : Fr (fun k => k = ga ∨ k = gb) W1 W) => (⟨hf.cell c0 (by intro q; simp only at q; omega), hf.cell c1 (by intro q; simp only at q; omega), hf.cell c2 (by intro q; simp only at q; omega), hf.cell c3 (by intro q; simp only at q; omega)⟩ : W.cell? ⟨w.heap.size, 0, none⟩ = some (.int .i64 3) ∧ W.cell? ⟨w.heap.size, 1, none⟩ = some (.int .i64 (arg : Int)) ∧ W.cell? ⟨w.heap.size, 2, none⟩ = some (.int .i64 (prio : Int)) ∧ W.cell? ⟨w.heap.size, 3, none⟩ = some (.int .i64 need)))
  have h1 := h.still F1
  have HCK := hide (kcheck_ok h1 hm 3 arg prio need hp hk)
  have HOF := hide (fun w => of3 w)
  have HCC := hide (fun W (hf : Fr (fun _ => False) W1 W) => clb3 (h1.still hf) hm arg hk)
  have HF1 := hide F1
  have HZ := hide hW1
  unfold reqv reqc vecv at *
  simp only [show ((3 : Nat) : Int) = 3 from rfl] at *
  clear c0 c1 c2 c3 h1 h F1 hW1 hm hk hp
  go_enter Try.func42, Try.ntmps42
  go_wp2_with fail
  rw [← HZ.out]
  go_at_call 74
  refine HCK.out.mono ?_
  rintro e w1 ⟨rfl, hf⟩
  have HF2 := hide hf
  clear hf
  go_wp2_with fail
  refine wp_region_ord [(0, true), (1, true), (4, true), (5, true), (6, true), (7, true), (2, false), (3, true), (8, false), (9, true)] (fun W => Fr (fun k => k = ga ∨ k = gb) W1 W) (by kernel_rfl) (by kernel_rfl) (HF2.out.mono (fun k h => h.elim)).drew ?_
  iterate 6
    refine ord_read rfl ?_ ?_ (fun W hS => ?_) ?_
    · rfl
    rotate_left
    · (obtain ⟨s0, s1, s2, s3⟩ := HCL.out _ hS; go_simp; try with_reducible rfl)
    simp only [List.getElem_toArray, List.getElem_cons_zero, List.getElem_cons_succ, Act.put, List.setIfInBounds_toArray, List.set_cons_zero, List.set_cons_succ]
  refine ord_act rfl ?_
  go_wp2_with fail
  go_at_call 75
  refine (HOF.out _).mono ?_
  rintro e w2 ⟨rfl, hf⟩
  have HF3 := hide (HF2.out.drew.then_ hf)
  clear hf
  go_wp2
  refine midQ_ok (HF3.out.mono (fun k h => h.elim)) ?_
  iterate 1
    refine ord_read rfl ?_ ?_ (fun W hS => ?_) ?_
    · rfl
    rotate_left
    · (skip; go_simp; rw [fld0]; rfl; try with_reducible rfl)
    simp only [List.getElem_toArray, List.getElem_cons_zero, List.getElem_cons_succ, Act.put, List.setIfInBounds_toArray, List.set_cons_zero, List.set_cons_succ]
  refine ord_act rfl ?_
  go_wp2_with fail
  go_at_call 90
  refine (HCC.out _ HF3.out).mono ?_
  rintro e w3 ⟨rfl, hT, hf⟩
  have HT := hide hT
  have HF4 := hide ((HF3.out.mono (S' := fun k => k = ga ∨ k = gb) (fun k h => h.elim)).trans hf (fun k h => .inl h))
  clear hT hf
  go_wp2
  refine midQ_ok HF4.out ?_
  iterate 1
    refine ord_read rfl ?_ ?_ (fun W hS => ?_) ?_
    · rfl
    rotate_left
    · (skip; go_simp; try with_reducible rfl)
    simp only [List.getElem_toArray, List.getElem_cons_zero, List.getElem_cons_succ, Act.put, List.setIfInBounds_toArray, List.set_cons_zero, List.set_cons_succ]
  refine ord_done ?_
  refine NoPanic.normal ?_
  go_wp2
  go_ret
  exact ⟨rfl, HT.out, (HF1.out.mono (fun k h => h.elim)).trans HF4.out (fun k h => .inl h)⟩
set_option maxHeartbeats 1600000 in
theorem kshard3 (h : TwoAt w pa ga pb gb xs ys) (hm : mayB xs.length ys.length = true) (arg prio : Nat) (need : Int) (hp : prio ≤ 7) (hk : okK 3 arg xs.length) (stay : ∀ w', Fr (fun k => k = gb) w w' → LsAt w' vs A m L) (hfit : fitsB fr to xs.length L = true) (r : Nat) (hr : r ≤ 1000) :
    Calls Try.prog 43 #[reqv 3 arg prio need, vecv pa, vecv pb, .agg #[.int .i64 fr, .int .i64 to, .slice A m c], .int .i64 (r : Int)] w fun e w' => e = .returned (.int .i64 0) ∧ TwoAt w' pa ga pb gb xs ((edgs fr L).foldl ((kdOf 3 arg).step r xs) ys) ∧ Fr (fun k => k = gb) w w' := by
  have la := h.a.row.lt
  have lb := h.b.row.lt
  obtain ⟨W1, hW1⟩ : ∃ W1, W1 = (w.alloc (reqc 3 arg prio need)).alloc (.cells #[.int .i64 fr, .int .i64 to, .slice A m c] 45) := ⟨_, rfl⟩
  have F1 : Fr (fun _ => False) w W1 := by rw [hW1]; exact ((Fr.refl _ _).alloc _).alloc _
  have c0 : W1.cell? ⟨w.heap.size, 0, none⟩ = some (.int .i64 3) := by rw [hW1]; unfold reqc; simp
  have c1 : W1.cell? ⟨w.heap.size, 1, none⟩ = some (.int .i64 (arg : Int)) := by rw [hW1]; unfold reqc; simp
  have c2 : W1.cell? ⟨w.heap.size, 2, none⟩ = some (.int .i64 (prio : Int)) := by rw [hW1]; unfold reqc; simp
  have c3 : W1.cell? ⟨w.heap.size, 3, none⟩ = some (.int .i64 need) := by rw [hW1]; unfold reqc; simp
  have d0 : W1.cell? ⟨w.heap.size + 1, 0, none⟩ = some (.int .i64 fr) := by rw [hW1]; unfold reqc; simp
  have d1 : W1.cell? ⟨w.heap.size + 1, 1, none⟩ = some (.int .i64 to) := by rw [hW1]; unfold reqc; simp
  have d2 : W1.cell? ⟨w.heap.size + 1, 2, none⟩ = some (.slice A m c) := by rw [hW1]; unfold reqc; simp
  have HCL := hide (fun W (hf : Fr (fun k => k = gb) W1 W) => (⟨hf.cell c0 (by intro q; simp only at q; omega), hf.cell c1 (by intro q; simp only at q; omega), hf.cell c2 (by intro q; simp only at q; omega), hf.cell c3 (by intro q; simp only at q; omega), hf.cell d0 (by intro q; simp only at q; omega), hf.cell d1 (by intro q; simp only at q; omega), hf.cell d2 (by intro q; simp only at q; omega)⟩ : W.cell? ⟨w.heap.size, 0, none⟩ = some (.int .i64 3) ∧ W.cell? ⟨w.heap.size, 1, none⟩ = some (.int .i64 (arg : Int)) ∧ W.cell? ⟨w.heap.size, 2, none⟩ = some (.int .i64 (prio : Int)) ∧ W.cell? ⟨w.heap.size, 3, none⟩ = some (.int .i64 need) ∧ W.cell? ⟨w.heap.size + 1, 0, none⟩ = some (.int .i64 fr) ∧ W.cell? ⟨w.heap.size + 1, 1, none⟩ = some (.int .i64 to) ∧ W.cell? ⟨w.heap.size + 1, 2, none⟩ = some (.slice A m c)))
  have h1 := h.still F1
  have HCK := hide (kcheck_ok h1 hm 3 arg prio need hp hk)
  have HOF := hide (fun w => of3 w)
  have HCC := hide (fun W (hf : Fr (fun _ => False) W1 W) => cls3 (c := c) (h1.still hf) hm arg hk (fun w2 hf2 => stay w2 (((F1.trans hf (fun k h => h.elim)).mono (fun k h => h.elim)).trans hf2 (fun k h => .inl h))) hfit r hr)
  have HF1 := hide F1
  have HZ := hide hW1
  unfold reqv reqc vecv at *
  simp only [show ((3 : Nat) : Int) = 3 from rfl] at *
  clear c0 c1 c2 c3 d0 d1 d2 h1 h F1 hW1 hm hk hp stay hfit
  go_enter Try.func43, Try.ntmps43
  go_wp2_with fail
  rw [← HZ.out]
  go_at_call 74
  refine HCK.out.mono ?_
  rintro e w1 ⟨rfl, hf⟩
  have HF2 := hide hf
  clear hf
  go_wp2_with fail
  refine wp_region_ord [(0, true), (1, true), (4, true), (5, true), (6, true), (7, true), (2, false), (3, true), (8, false), (9, true)] (fun W => Fr (fun k => k = gb) W1 W) (by kernel_rfl) (by kernel_rfl) (HF2.out.mono (fun k h => h.elim)).drew ?_
  iterate 6
    refine ord_read rfl ?_ ?_ (fun W hS => ?_) ?_
    · rfl
    rotate_left
    · (obtain ⟨s0, s1, s2, s3, s4, s5, s6⟩ := HCL.out _ hS; go_simp; try with_reducible rfl)
    simp only [List.getElem_toArray, List.getElem_cons_zero, List.getElem_cons_succ, Act.put, List.setIfInBounds_toArray, List.set_cons_zero, List.set_cons_succ]
  refine ord_act rfl ?_
  go_wp2_with fail
  go_at_call 75
  refine (HOF.out _).mono ?_
  rintro e w2 ⟨rfl, hf⟩
  have HF3 := hide (HF2.out.drew.then_ hf)
  clear hf
  go_wp2
  refine midQ_ok (HF3.out.mono (fun k h => h.elim)) ?_
  iterate 1
    refine ord_read rfl ?_ ?_ (fun W hS => ?_) ?_
    · rfl
    rotate_left
    · (skip; go_simp; rw [fld1]; rfl; try with_reducible rfl)
    simp only [List.getElem_toArray, List.getElem_cons_zero, List.getElem_cons_succ, Act.put, List.setIfInBounds_toArray, List.set_cons_zero, List.set_cons_succ]
  refine ord_act rfl ?_
  go_wp2_with fail
  go_at_call 91
  refine (HCC.out _ HF3.out).mono ?_
  rintro e w3 ⟨rfl, hT, hf⟩
  have HT := hide hT
  have HF4 := hide ((HF3.out.mono (S' := fun k => k = gb) (fun k h => h.elim)).trans hf (fun k h => .inl h))
  clear hT hf
  go_wp2
  refine midQ_ok HF4.out ?_
  iterate 1
    refine ord_read rfl ?_ ?_ (fun W hS => ?_) ?_
    · rfl
    rotate_left
    · (skip; go_simp; try with_reducible rfl)
    simp only [List.getElem_toArray, List.getElem_cons_zero, List.getElem_cons_succ, Act.put, List.setIfInBounds_toArray, List.set_cons_zero, List.set_cons_succ]
  refine ord_done ?_
  refine NoPanic.normal ?_
  go_wp2
  go_ret
  exact ⟨rfl, HT.out, (HF1.out.mono (fun k h => h.elim)).trans HF4.out (fun k h => .inl h)⟩
set_option maxHeartbeats 1600000 in
theorem kcommit3 (h : TwoAt w pa ga pb gb xs ys) (hm : mayB xs.length ys.length = true) (arg prio : Nat) (need : Int) (hp : prio ≤ 7) (hk : okK 3 arg xs.length) (r : Nat) (hr : r ≤ 1000) :
    Calls Try.prog 41 #[reqv 3 arg prio need, vecv pa, vecv pb, .int .i64 (r : Int)] w fun e w' => e = .returned (.tuple #[.bool ((kdOf 3 arg).dn r xs ys), .int .i64 0]) ∧ TwoAt w' pa ga pb gb ((kdOf 3 arg).cX xs ys) ((kdOf 3 arg).cY xs ys) ∧ Fr (fun k => k = ga ∨ k = gb) w w' := by
  have la := h.a.row.lt
  have lb := h.b.row.lt
  obtain ⟨W1, hW1⟩ : ∃ W1, W1 = w.alloc (reqc 3 arg prio need) := ⟨_, rfl⟩
  have F1 : Fr (fun _ => False) w W1 := by rw [hW1]; exact (Fr.refl _ _).alloc _
  have c0 : W1.cell? ⟨w.heap.size, 0, none⟩ = some (.int .i64 3) := by rw [hW1]; unfold reqc; simp
  have c1 : W1.cell? ⟨w.heap.size, 1, none⟩ = some (.int .i64 (arg : Int)) := by rw [hW1]; unfold reqc; simp
  have c2 : W1.cell? ⟨w.heap.size, 2, none⟩ = some (.int .i64 (prio : Int)) := by rw [hW1]; unfold reqc; simp
  have c3 : W1.cell? ⟨w.heap.size, 3, none⟩ = some (.int .i64 need) := by rw [hW1]; unfold reqc; simp
  have HCL := hide (fun W (hf : Fr (fun k => k = ga ∨ k = gb) W1 W) => (⟨hf.cell c0 (by intro q; simp only at q; omega), hf.cell c1 (by intro q; simp only at q; omega), hf.cell c2 (by intro q; simp only at q; omega), hf.cell c3 (by intro q; simp only at q; omega)⟩ : W.cell? ⟨w.heap.size, 0, none⟩ = some (.int .i64 3) ∧ W.cell? ⟨w.heap.size, 1, none⟩ = some (.int .i64 (arg : Int)) ∧ W.cell? ⟨w.heap.size, 2, none⟩ = some (.int .i64 (prio : Int)) ∧ W.cell? ⟨w.heap.size, 3, none⟩ = some (.int .i64 need)))
  have h1 := h.still F1
  have HCK := hide (kcheck_ok h1 hm 3 arg prio need hp hk)
  have HOF := hide (fun w => of3 w)
  have HCC := hide (fun W (hf : Fr (fun _ => False) W1 W) => clc3 (h1.still hf) hm arg hk r hr)
  have HF1 := hide F1
  have HZ := hide hW1
  unfold reqv reqc vecv at *
  simp only [show ((3 : Nat) : Int) = 3 from rfl] at *
  clear c0 c1 c2 c3 h1 h F1 hW1 hm hk hp
  go_enter Try.func41, Try.ntmps41
  go_wp2_with fail
  rw [← HZ.out]
  go_at_call 74
  refine HCK.out.mono ?_
  rintro e w1 ⟨rfl, hf⟩
  have HF2 := hide hf
  clear hf
  go_wp2_with fail
  refine wp_region_ord [(0, true), (1, true), (4, true), (5, true), (6, true), (7, true), (8, true), (2, false), (3, true), (9, false), (10, true), (11, true), (12, true), (13, true)] (fun W => Fr (fun k => k = ga ∨ k = gb) W1 W) (by kernel_rfl) (by kernel_rfl) (HF2.out.mono (fun k h => h.elim)).drew ?_
  iterate 7
    refine ord_read rfl ?_ ?_ (fun W hS => ?_) ?_
    · rfl
    rotate_left
    · (obtain ⟨s0, s1, s2, s3⟩ := HCL.out _ hS; go_simp; try with_reducible rfl)
    simp only [List.getElem_toArray, List.getElem_cons_zero, List.getElem_cons_succ, Act.put, List.setIfInBounds_toArray, List.set_cons_zero, List.set_cons_succ]
  refine ord_act rfl ?_
  go_wp2_with fail
  go_at_call 75
  refine (HOF.out _).mono ?_
  rintro e w2 ⟨rfl, hf⟩
  have HF3 := hide (HF2.out.drew.then_ hf)
  clear hf
  go_wp2
  refine midQ_ok (HF3.out.mono (fun k h => h.elim)) ?_
  iterate 1
    refine ord_read rfl ?_ ?_ (fun W hS => ?_) ?_
    · rfl
    rotate_left
    · (skip; go_simp; rw [fld2]; rfl; try with_reducible rfl)
    simp only [List.getElem_toArray, List.getElem_cons_zero, List.getElem_cons_succ, Act.put, List.setIfInBounds_toArray, List.set_cons_zero, List.set_cons_succ]
  refine ord_act rfl ?_
  go_wp2_with fail
  go_at_call 92
  refine (HCC.out _ HF3.out).mono ?_
  rintro e w3 ⟨rfl, hT, hf⟩
  have HT := hide hT
  have HF4 := hide ((HF3.out.mono (S' := fun k => k = ga ∨ k = gb) (fun k h => h.elim)).trans hf (fun k h => .inl h))
  clear hT hf
  go_wp2
  refine midQ_ok HF4.out ?_
  iterate 4
    refine ord_read rfl ?_ ?_ (fun W hS => ?_) ?_
    · rfl
    rotate_left
    · (skip; go_simp; try with_reducible rfl)
    simp only [List.getElem_toArray, List.getElem_cons_zero, List.getElem_cons_succ, Act.put, List.setIfInBounds_toArray, List.set_cons_zero, List.set_cons_succ]
  refine ord_done ?_
  refine NoPanic.normal ?_
  go_wp2
  go_ret2
  exact ⟨rfl, HT.out, (HF1.out.mono (fun k h => h.elim)).trans HF4.out (fun k h => .inl h)⟩
theorem clb4 (h : TwoAt w pa ga pb gb xs ys) (hm : mayB xs.length ys.length = true) (arg : Nat) (hk : okK 4 arg xs.length)  :
    Calls Try.prog 93 #[vecv pa, vecv pb, .int .i64 (arg : Int)] w fun e w' => e = .returned (.int .i64 0) ∧ TwoAt w' pa ga pb gb ((kdOf 4 arg).bX xs.length) ((kdOf 4 arg).bY xs.length) ∧ Fr (fun k => k = ga ∨ k = gb) w w' := by
  simp only [okK] at hk
  have m1 := may_len hm
  have HB := hide (cores.begin_ok h hm (arg : Int) (by simp [cores.okArg]; omega))
  unfold vecv at *
  clear h hm
  go_enter Try.func93, Try.ntmps93
  go_wp2_with fail
  go_at_call 38
  refine HB.out.mono ?_
  rintro e w1 ⟨rfl, hT, hf⟩
  have HT := hide hT
  have HF := hide hf
  clear hT hf
  go_wp2
  go_ret
  exact ⟨rfl, HT.out, HF.out⟩
theorem cls4 (h : TwoAt w pa ga pb gb xs ys) (hm : mayB xs.length ys.length = true) (arg : Nat) (hk : okK 4 arg xs.length) (stay : ∀ w', Fr (fun k => k = gb) w w' → LsAt w' vs A m L) (hfit : fitsB fr to xs.length L = true) (r : Nat) (hr : r ≤ 1000) :
    Calls Try.prog 94 #[vecv pa, vecv pb, .agg #[.int .i64 fr, .int .i64 to, .slice A m c], .int .i64 (r : Int)] w fun e w' => e = .returned (.int .i64 0) ∧ TwoAt w' pa ga pb gb xs ((edgs fr L).foldl ((kdOf 4 arg).step r xs) ys) ∧ Fr (fun k => k = gb) w w' := by
  simp only [okK] at hk
  have m1 := may_len hm
  obtain ⟨W1, hW1⟩ : ∃ W1, W1 = w.alloc (.cells #[.int .i64 fr, .int .i64 to, .slice A m c] 45) := ⟨_, rfl⟩
  have F1 : Fr (fun _ => False) w W1 := by rw [hW1]; exact (Fr.refl _ _).alloc _
  have d0 : W1.cell? ⟨w.heap.size, 0, none⟩ = some (.int .i64 fr) := by rw [hW1]; simp
  have d1 : W1.cell? ⟨w.heap.size, 1, none⟩ = some (.int .i64 to) := by rw [hW1]; simp
  have d2 : W1.cell? ⟨w.heap.size, 2, none⟩ = some (.slice A m c) := by rw [hW1]; simp
  have HZ := hide hW1
  have HF1 := hide F1
  have HB := hide (cores.shard_ok (c := c) (h.still F1) hm (fun w2 hf2 => stay w2 ((F1.mono (fun k h => h.elim)).trans hf2 (fun k h => .inl h))) hfit (r : Int) (by omega))
  unfold vecv at *
  clear h hm stay hfit hW1 F1
  go_enter Try.func94, Try.ntmps94
  go_wp2_with fail
  rw [← HZ.out]
  go_at_call 39
  refine HB.out.mono ?_
  rintro e w1 ⟨rfl, hT, hf⟩
  have HT := hide hT
  have HF := hide ((HF1.out.mono (fun k h => h.elim)).trans hf (fun k h => .inl h))
  clear hT hf
  go_wp2
  go_ret
  exact ⟨rfl, HT.out, HF.out⟩
theorem clc4 (h : TwoAt w pa ga pb gb xs ys) (hm : mayB xs.length ys.length = true) (arg : Nat) (hk : okK 4 arg xs.length) (r : Nat) (hr : r ≤ 1000) :
    Calls Try.prog 95 #[vecv pa, vecv pb, .int .i64 (arg : Int), .int .i64 (r : Int)] w fun e w' => e = .returned (.tuple #[.bool ((kdOf 4 arg).dn r xs ys), .int .i64 0]) ∧ TwoAt w' pa ga pb gb ((kdOf 4 arg).cX xs ys) ((kdOf 4 arg).cY xs ys) ∧ Fr (fun k => k = ga ∨ k = gb) w w' := by
  simp only [okK] at hk
  have m1 := may_len hm
  have HB := hide (cores.commit_ok h hm (arg : Int) (r : Int) (by omega))
  unfold vecv at *
  clear h hm
  go_enter Try.func95, Try.ntmps95
  go_wp2_with fail
  go_at_call 40
  refine HB.out.mono ?_
  rintro e w1 ⟨rfl, hT, hf⟩
  have HT := hide hT
  have HF := hide hf
  clear hT hf
  go_wp2
  go_ret2
  exact ⟨rfl, HT.out, HF.out⟩
set_option maxHeartbeats 1600000 in
theorem kbegin4 (h : TwoAt w pa ga pb gb xs ys) (hm : mayB xs.length ys.length = true) (arg prio : Nat) (need : Int) (hp : prio ≤ 7) (hk : okK 4 arg xs.length)  :
    Calls Try.prog 42 #[reqv 4 arg prio need, vecv pa, vecv pb] w fun e w' => e = .returned (.int .i64 0) ∧ TwoAt w' pa ga pb gb ((kdOf 4 arg).bX xs.length) ((kdOf 4 arg).bY xs.length) ∧ Fr (fun k => k = ga ∨ k = gb) w w' := by
  have la := h.a.row.lt
  have lb := h.b.row.lt
  obtain ⟨W1, hW1⟩ : ∃ W1, W1 = w.alloc (reqc 4 arg prio need) := ⟨_, rfl⟩
  have F1 : Fr (fun _ => False) w W1 := by rw [hW1]; exact (Fr.refl _ _).alloc _
  have c0 : W1.cell? ⟨w.heap.size, 0, none⟩ = some (.int .i64 4) := by rw [hW1]; unfold reqc; simp
  have c1 : W1.cell? ⟨w.heap.size, 1, none⟩ = some (.int .i64 (arg : Int)) := by rw [hW1]; unfold reqc; simp
  have c2 : W1.cell? ⟨w.heap.size, 2, none⟩ = some (.int .i64 (prio : Int)) := by rw [hW1]; unfold reqc; simp
  have c3 : W1.cell? ⟨w.heap.size, 3, none⟩ = some (.int .i64 need) := by rw [hW1]; unfold reqc; simp
  have HCL := hide (fun W (hf : Fr (fun k => k = ga ∨ k = gb) W1 W) => (⟨hf.cell c0 (by intro q; simp only at q; omega), hf.cell c1 (by intro q; simp only at q; omega), hf.cell c2 (by intro q; simp only at q; omega), hf.cell c3 (by intro q; simp only at q; omega)⟩ : W.cell? ⟨w.heap.size, 0, none⟩ = some (.int .i64 4) ∧ W.cell? ⟨w.heap.size, 1, none⟩ = some (.int .i64 (arg : Int)) ∧ W.cell? ⟨w.heap.size, 2, none⟩ = some (.int .i64 (prio : Int)) ∧ W.cell? ⟨w.heap.size, 3, none⟩ = some (.int .i64 need)))
  have h1 := h.still F1
  have HCK := hide (kcheck_ok h1 hm 4 arg prio need hp hk)
  have HOF := hide (fun w => of4 w)
  have HCC := hide (fun W (hf : Fr (fun _ => False) W1 W) => clb4 (h1.still hf) hm arg hk)
  have HF1 := hide F1
  have HZ := hide hW1
  unfold reqv reqc vecv at *
  simp only [show ((4 : Nat) : Int) = 4 from rfl] at *
  clear c0 c1 c2 c3 h1 h F1 hW1 hm hk hp
  go_enter Try.func42, Try.ntmps42
  go_wp2_with fail
  rw [← HZ.out]
  go_at_call 74
  refine HCK.out.mono ?_
  rintro e w1 ⟨rfl, hf⟩
  have HF2 := hide hf
  clear hf
  go_wp2_with fail
  refine wp_region_ord [(0, true), (1, true), (4, true), (5, true), (6, true), (7, true), (2, false), (3, true), (8, false), (9, true)] (fun W => Fr (fun k => k = ga ∨ k = gb) W1 W) (by kernel_rfl) (by kernel_rfl) (HF2.out.mono (fun k h => h.elim)).drew ?_
  iterate 6
    refine ord_read rfl ?_ ?_ (fun W hS => ?_) ?_
    · rfl
    rotate_left
    · (obtain ⟨s0, s1, s2, s3⟩ := HCL.out _ hS; go_simp; try with_reducible rfl)
    simp only [List.getElem_toArray, List.getElem_cons_zero, List.getElem_cons_succ, Act.put, List.setIfInBounds_toArray, List.set_cons_zero, List.set_cons_succ]
  refine ord_act rfl ?_
  go_wp2_with fail
  go_at_call 75
  refine (HOF.out _).mono ?_
  rintro e w2 ⟨rfl, hf⟩
  have HF3 := hide (HF2.out.drew.then_ hf)
  clear hf
  go_wp2
  refine midQ_ok (HF3.out.mono (fun k h => h.elim)) ?_
  iterate 1
    refine ord_read rfl ?_ ?_ (fun W hS => ?_) ?_
    · rfl
    rotate_left
    · (skip; go_simp; rw [fld0]; rfl; try with_reducible rfl)
    simp only [List.getElem_toArray, List.getElem_cons_zero, List.getElem_cons_succ, Act.put, List.setIfInBounds_toArray, List.set_cons_zero, List.set_cons_succ]
  refine ord_act rfl ?_
  go_wp2_with fail
  go_at_call 93
  refine (HCC.out _ HF3.out).mono ?_
  rintro e w3 ⟨rfl, hT, hf⟩
  have HT := hide hT
  have HF4 := hide ((HF3.out.mono (S' := fun k => k = ga ∨ k = gb) (fun k h => h.elim)).trans hf (fun k h => .inl h))
  clear hT hf
  go_wp2
  refine midQ_ok HF4.out ?_
  iterate 1
    refine ord_read rfl ?_ ?_ (fun W hS => ?_) ?_
    · rfl
    rotate_left
    · (skip; go_simp; try with_reducible rfl)
    simp only [List.getElem_toArray, List.getElem_cons_zero, List.getElem_cons_succ, Act.put, List.setIfInBounds_toArray, List.set_cons_zero, List.set_cons_succ]
  refine ord_done ?_
  refine NoPanic.normal ?_
  go_wp2
  go_ret
  exact ⟨rfl, HT.out, (HF1.out.mono (fun k h => h.elim)).trans HF4.out (fun k h => .inl h)⟩
set_option maxHeartbeats 1600000 in
theorem kshard4 (h : TwoAt w pa ga pb gb xs ys) (hm : mayB xs.length ys.length = true) (arg prio : Nat) (need : Int) (hp : prio ≤ 7) (hk : okK 4 arg xs.length) (stay : ∀ w', Fr (fun k => k = gb) w w' → LsAt w' vs A m L) (hfit : fitsB fr to xs.length L = true) (r : Nat) (hr : r ≤ 1000) :
    Calls Try.prog 43 #[reqv 4 arg prio need, vecv pa, vecv pb, .agg #[.int .i64 fr, .int .i64 to, .slice A m c], .int .i64 (r : Int)] w fun e w' => e = .returned (.int .i64 0) ∧ TwoAt w' pa ga pb gb xs ((edgs fr L).foldl ((kdOf 4 arg).step r xs) ys) ∧ Fr (fun k => k = gb) w w' := by
  have la := h.a.row.lt
  have lb := h.b.row.lt
  obtain ⟨W1, hW1⟩ : ∃ W1, W1 = (w.alloc (reqc 4 arg prio need)).alloc (.cells #[.int .i64 fr, .int .i64 to, .slice A m c] 45) := ⟨_, rfl⟩
  have F1 : Fr (fun _ => False) w W1 := by rw [hW1]; exact ((Fr.refl _ _).alloc _).alloc _
  have c0 : W1.cell? ⟨w.heap.size, 0, none⟩ = some (.int .i64 4) := by rw [hW1]; unfold reqc; simp
  have c1 : W1.cell? ⟨w.heap.size, 1, none⟩ = some (.int .i64 (arg : Int)) := by rw [hW1]; unfold reqc; simp
  have c2 : W1.cell? ⟨w.heap.size, 2, none⟩ = some (.int .i64 (prio : Int)) := by rw [hW1]; unfold reqc; simp
  have c3 : W1.cell? ⟨w.heap.size, 3, none⟩ = some (.int .i64 need) := by rw [hW1]; unfold reqc; simp
  have d0 : W1.cell? ⟨w.heap.size + 1, 0, none⟩ = some (.int .i64 fr) := by rw [hW1]; unfold reqc; simp
  have d1 : W1.cell? ⟨w.heap.size + 1, 1, none⟩ = some (.int .i64 to) := by rw [hW1]; unfold reqc; simp
  have d2 : W1.cell? ⟨w.heap.size + 1, 2, none⟩ = some (.slice A m c) := by rw [hW1]; unfold reqc; simp
  have HCL := hide (fun W (hf : Fr (fun k => k = gb) W1 W) => (⟨hf.cell c0 (by intro q; simp only at q; omega), hf.cell c1 (by intro q; simp only at q; omega), hf.cell c2 (by intro q; simp only at q; omega), hf.cell c3 (by intro q; simp only at q; omega), hf.cell d0 (by intro q; simp only at q; omega), hf.cell d1 (by intro q; simp only at q; omega), hf.cell d2 (by intro q; simp only at q; omega)⟩ : W.cell? ⟨w.heap.size, 0, none⟩ = some (.int .i64 4) ∧ W.cell? ⟨w.heap.size, 1, none⟩ = some (.int .i64 (arg : Int)) ∧ W.cell? ⟨w.heap.size, 2, none⟩ = some (.int .i64 (prio : Int)) ∧ W.cell? ⟨w.heap.size, 3, none⟩ = some (.int .i64 need) ∧ W.cell? ⟨w.heap.size + 1, 0, none⟩ = some (.int .i64 fr) ∧ W.cell? ⟨w.heap.size + 1, 1, none⟩ = some (.int .i64 to) ∧ W.cell? ⟨w.heap.size + 1, 2, none⟩ = some (.slice A m c)))
  have h1 := h.still F1
  have HCK := hide (kcheck_ok h1 hm 4 arg prio need hp hk)
  have HOF := hide (fun w => of4 w)
  have HCC := hide (fun W (hf : Fr (fun _ => False) W1 W) => cls4 (c := c) (h1.still hf) hm arg hk (fun w2 hf2 => stay w2 (((F1.trans hf (fun k h => h.elim)).mono (fun k h => h.elim)).trans hf2 (fun k h => .inl h))) hfit r hr)
  have HF1 := hide F1
  have HZ := hide hW1
  unfold reqv reqc vecv at *
  simp only [show ((4 : Nat) : Int) = 4 from rfl] at *
  clear c0 c1 c2 c3 d0 d1 d2 h1 h F1 hW1 hm hk hp stay hfit
  go_enter Try.func43, Try.ntmps43
  go_wp2_with fail
  rw [← HZ.out]
  go_at_call 74
  refine HCK.out.mono ?_
  rintro e w1 ⟨rfl, hf⟩
  have HF2 := hide hf
  clear hf
  go_wp2_with fail
  refine wp_region_ord [(0, true), (1, true), (4, true), (5, true), (6, true), (7, true), (2, false), (3, true), (8, false), (9, true)] (fun W => Fr (fun k => k = gb) W1 W) (by kernel_rfl) (by kernel_rfl) (HF2.out.mono (fun k h => h.elim)).drew ?_
  iterate 6
    refine ord_read rfl ?_ ?_ (fun W hS => ?_) ?_
    · rfl
    rotate_left
    · (obtain ⟨s0, s1, s2, s3, s4, s5, s6⟩ := HCL.out _ hS; go_simp; try with_reducible rfl)
    simp only [List.getElem_toArray, List.getElem_cons_zero, List.getElem_cons_succ, Act.put, List.setIfInBounds_toArray, List.set_cons_zero, List.set_cons_succ]
  refine ord_act rfl ?_
  go_wp2_with fail
  go_at_call 75
  refine (HOF.out _).mono ?_
  rintro e w2 ⟨rfl, hf⟩
  have HF3 := hide (HF2.out.drew.then_ hf)
  clear hf
  go_wp2
  refine midQ_ok (HF3.out.mono (fun k h => h.elim)) ?_
  iterate 1
    refine ord_read rfl ?_ ?_ (fun W hS => ?_) ?_
    · rfl
    rotate_left
    · (skip; go_simp; rw [fld1]; rfl; try with_reducible rfl)
    simp only [List.getElem_toArray, List.getElem_cons_zero, List.getElem_cons_succ, Act.put, List.setIfInBounds_toArray, List.set_cons_zero, List.set_cons_succ]
  refine ord_act rfl ?_
  go_wp2_with fail
  go_at_call 94
  refine (HCC.out _ HF3.out).mono ?_
  rintro e w3 ⟨rfl, hT, hf⟩
  have HT := hide hT
  have HF4 := hide ((HF3.out.mono (S' := fun k => k = gb) (fun k h => h.elim)).trans hf (fun k h => .inl h))
  clear hT hf
  go_wp2
  refine midQ_ok HF4.out ?_
  iterate 1
    refine ord_read rfl ?_ ?_ (fun W hS => ?_) ?_
    · rfl
    rotate_left
    · (skip; go_simp; try with_reducible rfl)
    simp only [List.getElem_toArray, List.getElem_cons_zero, List.getElem_cons_succ, Act.put, List.setIfInBounds_toArray, List.set_cons_zero, List.set_cons_succ]
  refine ord_done ?_
  refine NoPanic.normal ?_
  go_wp2
  go_ret
  exact ⟨rfl, HT.out, (HF1.out.mono (fun k h => h.elim)).trans HF4.out (fun k h => .inl h)⟩
set_option maxHeartbeats 1600000 in
theorem kcommit4 (h : TwoAt w pa ga pb gb xs ys) (hm : mayB xs.length ys.length = true) (arg prio : Nat) (need : Int) (hp : prio ≤ 7) (hk : okK 4 arg xs.length) (r : Nat) (hr : r ≤ 1000) :
    Calls Try.prog 41 #[reqv 4 arg prio need, vecv pa, vecv pb, .int .i64 (r : Int)] w fun e w' => e = .returned (.tuple #[.bool ((kdOf 4 arg).dn r xs ys), .int .i64 0]) ∧ TwoAt w' pa ga pb gb ((kdOf 4 arg).cX xs ys) ((kdOf 4 arg).cY xs ys) ∧ Fr (fun k => k = ga ∨ k = gb) w w' := by
  have la := h.a.row.lt
  have lb := h.b.row.lt
  obtain ⟨W1, hW1⟩ : ∃ W1, W1 = w.alloc (reqc 4 arg prio need) := ⟨_, rfl⟩
  have F1 : Fr (fun _ => False) w W1 := by rw [hW1]; exact (Fr.refl _ _).alloc _
  have c0 : W1.cell? ⟨w.heap.size, 0, none⟩ = some (.int .i64 4) := by rw [hW1]; unfold reqc; simp
  have c1 : W1.cell? ⟨w.heap.size, 1, none⟩ = some (.int .i64 (arg : Int)) := by rw [hW1]; unfold reqc; simp
  have c2 : W1.cell? ⟨w.heap.size, 2, none⟩ = some (.int .i64 (prio : Int)) := by rw [hW1]; unfold reqc; simp
  have c3 : W1.cell? ⟨w.heap.size, 3, none⟩ = some (.int .i64 need) := by rw [hW1]; unfold reqc; simp
  have HCL := hide (fun W (hf : Fr (fun k => k = ga ∨ k = gb) W1 W) => (⟨hf.cell c0 (by intro q; simp only at q; omega), hf.cell c1 (by intro q; simp only at q; omega), hf.cell c2 (by intro q; simp only at q; omega), hf.cell c3 (by intro q; simp only at q; omega)⟩ : W.cell? ⟨w.heap.size, 0, none⟩ = some (.int .i64 4) ∧ W.cell? ⟨w.heap.size, 1, none⟩ = some (.int .i64 (arg : Int)) ∧ W.cell? ⟨w.heap.size, 2, none⟩ = some (.int .i64 (prio : Int)) ∧ W.cell? ⟨w.heap.size, 3, none⟩ = some (.int .i64 need)))
  have h1 := h.still F1
  have HCK := hide (kcheck_ok h1 hm 4 arg prio need hp hk)
  have HOF := hide (fun w => of4 w)
  have HCC := hide (fun W (hf : Fr (fun _ => False) W1 W) => clc4 (h1.still hf) hm arg hk r hr)
  have HF1 := hide F1
  have HZ := hide hW1
  unfold reqv reqc vecv at *
  simp only [show ((4 : Nat) : Int) = 4 from rfl] at *
  clear c0 c1 c2 c3 h1 h F1 hW1 hm hk hp
  go_enter Try.func41, Try.ntmps41
  go_wp2_with fail
  rw [← HZ.out]
  go_at_call 74
  refine HCK.out.mono ?_
  rintro e w1 ⟨rfl, hf⟩
  have HF2 := hide hf
  clear hf
  go_wp2_with fail
  refine wp_region_ord [(0, true), (1, true), (4, true), (5, true), (6, true), (7, true), (8, true), (2, false), (3, true), (9, false), (10, true), (11, true), (12, true), (13, true)] (fun W => Fr (fun k => k = ga ∨ k = gb) W1 W) (by kernel_rfl) (by kernel_rfl) (HF2.out.mono (fun k h => h.elim)).drew ?_
  iterate 7
    refine ord_read rfl ?_ ?_ (fun W hS => ?_) ?_
    · rfl
    rotate_left
    · (obtain ⟨s0, s1, s2, s3⟩ := HCL.out _ hS; go_simp; try with_reducible rfl)
    simp only [List.getElem_toArray, List.getElem_cons_zero, List.getElem_cons_succ, Act.put, List.setIfInBounds_toArray, List.set_cons_zero, List.set_cons_succ]
  refine ord_act rfl ?_
  go_wp2_with fail
  go_at_call 75
  refine (HOF.out _).mono ?_
  rintro e w2 ⟨rfl, hf⟩
  have HF3 := hide (HF2.out.drew.then_ hf)
  clear hf
  go_wp2
  refine midQ_ok (HF3.out.mono (fun k h => h.elim)) ?_
  iterate 1
    refine ord_read rfl ?_ ?_ (fun W hS => ?_) ?_
    · rfl
    rotate_left
    · (skip; go_simp; rw [fld2]; rfl; try with_reducible rfl)
    simp only [List.getElem_toArray, List.getElem_cons_zero, List.getElem_cons_succ, Act.put, List.setIfInBounds_toArray, List.set_cons_zero, List.set_cons_succ]
  refine ord_act rfl ?_
  go_wp2_with fail
  go_at_call 95
  refine (HCC.out _ HF3.out).mono ?_
  rintro e w3 ⟨rfl, hT, hf⟩
  have HT := hide hT
  have HF4 := hide ((HF3.out.mono (S' := fun k => k = ga ∨ k = gb) (fun k h => h.elim)).trans hf (fun k h => .inl h))
  clear hT hf
  go_wp2
  refine midQ_ok HF4.out ?_
  iterate 4
    refine ord_read rfl ?_ ?_ (fun W hS => ?_) ?_
    · rfl
    rotate_left
    · (skip; go_simp; try with_reducible rfl)
    simp only [List.getElem_toArray, List.getElem_cons_zero, List.getElem_cons_succ, Act.put, List.setIfInBounds_toArray, List.set_cons_zero, List.set_cons_succ]
  refine ord_done ?_
  refine NoPanic.normal ?_
  go_wp2
  go_ret2
  exact ⟨rfl, HT.out, (HF1.out.mono (fun k h => h.elim)).trans HF4.out (fun k h => .inl h)⟩
theorem kbegin_ok (h : TwoAt w pa ga pb gb xs ys) (hm : mayB xs.length ys.length = true) (k arg prio : Nat) (need : Int) (hp : prio ≤ 7) (hk : okK k arg xs.length)  :
    Calls Try.prog 42 #[reqv k arg prio need, vecv pa, vecv pb] w fun e w' => e = .returned (.int .i64 0) ∧ TwoAt w' pa ga pb gb ((kdOf k arg).bX xs.length) ((kdOf k arg).bY xs.length) ∧ Fr (fun k => k = ga ∨ k = gb) w w' := by
  have hk2 : k = 1 ∨ k = 2 ∨ k = 3 ∨ k = 4 := by unfold okK at hk; omega
  rcases hk2 with rfl | rfl | rfl | rfl
  · exact kbegin1 h hm arg prio need hp hk 
  · exact kbegin2 h hm arg prio need hp hk 
  · exact kbegin3 h hm arg prio need hp hk 
  · exact kbegin4 h hm arg prio need hp hk 
theorem kshard_ok (h : TwoAt w pa ga pb gb xs ys) (hm : mayB xs.length ys.length = true) (k arg prio : Nat) (need : Int) (hp : prio ≤ 7) (hk : okK k arg xs.length) (stay : ∀ w', Fr (fun k => k = gb) w w' → LsAt w' vs A m L) (hfit : fitsB fr to xs.length L = true) (r : Nat) (hr : r ≤ 1000) :
    Calls Try.prog 43 #[reqv k arg prio need, vecv pa, vecv pb, .agg #[.int .i64 fr, .int .i64 to, .slice A m c], .int .i64 (r : Int)] w fun e w' => e = .returned (.int .i64 0) ∧ TwoAt w' pa ga pb gb xs ((edgs fr L).foldl ((kdOf k arg).step r xs) ys) ∧ Fr (fun k => k = gb) w w' := by
  have hk2 : k = 1 ∨ k = 2 ∨ k = 3 ∨ k = 4 := by unfold okK at hk; omega
  rcases hk2 with rfl | rfl | rfl | rfl
  · exact kshard1 h hm arg prio need hp hk stay hfit r hr 
  · exact kshard2 h hm arg prio need hp hk stay hfit r hr 
  · exact kshard3 h hm arg prio need hp hk stay hfit r hr 
  · exact kshard4 h hm arg prio need hp hk stay hfit r hr 
theorem kcommit_ok (h : TwoAt w pa ga pb gb xs ys) (hm : mayB xs.length ys.length = true) (k arg prio : Nat) (need : Int) (hp : prio ≤ 7) (hk : okK k arg xs.length) (r : Nat) (hr : r ≤ 1000) :
    Calls Try.prog 41 #[reqv k arg prio need, vecv pa, vecv pb, .int .i64 (r : Int)] w fun e w' => e = .returned (.tuple #[.bool ((kdOf k arg).dn r xs ys), .int .i64 0]) ∧ TwoAt w' pa ga pb gb ((kdOf k arg).cX xs ys) ((kdOf k arg).cY xs ys) ∧ Fr (fun k => k = ga ∨ k = gb) w w' := by
  have hk2 : k = 1 ∨ k = 2 ∨ k = 3 ∨ k = 4 := by unfold okK at hk; omega
  rcases hk2 with rfl | rfl | rfl | rfl
  · exact kcommit1 h hm arg prio need hp hk r hr 
  · exact kcommit2 h hm arg prio need hp hk r hr 
  · exact kcommit3 h hm arg prio need hp hk r hr 
  · exact kcommit4 h hm arg prio need hp hk r hr 
end
end Go.Proofs.Ytjdbjahgimlhbaa
end
section
set_option linter.unusedVariables false
set_option maxRecDepth 100000
namespace Go.Proofs.Ytjdbjahgimlhbaa
open Go.RowKit
open Gr (E cut)

def PartsAt (w : World) (g n s : Nat) : Prop := g < w.heap.size ∧ ∀ k, k < s → w.cell? ⟨g, k * 2, none⟩ = some (.int .i64 ((cut n s k : Nat) : Int)) ∧ w.cell? ⟨g, k * 2 + 1, none⟩ = some (.int .i64 ((cut n s (k + 1) : Nat) : Int))
theorem PartsAt.fr {S : Nat → Prop} {w w' : World} {g n s : Nat} (h : PartsAt w g n s) (hf : Fr S w w') (hn : ¬ S g) : PartsAt w' g n s :=
  ⟨Nat.lt_of_lt_of_le h.1 hf.size, fun k hk => ⟨hf.cell (h.2 k hk).1 hn, hf.cell (h.2 k hk).2 hn⟩⟩
theorem part_info : (Try.prog.info? 42).map (fun i => (i.zero, i.size, i.bytes)) = some (some (.agg #[.int .i64 0, .int .i64 0]), 2, 16) := by kernel_rfl
theorem cut_i64 (n s k : Nat) (h0 : 1 ≤ s) (hk : k ≤ s) (hs : s ≤ 16) (hn : n ≤ 256) : IntKind.i64.wrap ((IntKind.i64.wrap ((k : Int) * (n : Int))).tdiv (s : Int)) = ((cut n s k : Nat) : Int) := by
  have h1 : k * n ≤ 16 * 256 := Nat.mul_le_mul (by omega) hn
  have h2 : ((k : Int) * (n : Int)) = ((k * n : Nat) : Int) := by simp
  rw [h2]
  have h3 : IntKind.i64.wrap ((k * n : Nat) : Int) = ((k * n : Nat) : Int) := by simp only [IntKind.wrap, IntKind.bits, IntKind.signed]; simp; omega
  rw [h3]
  have h4 : (((k * n : Nat) : Int)).tdiv (s : Int) = ((k * n / s : Nat) : Int) := by rw [Int.tdiv_eq_ediv_of_nonneg (by omega)]; rfl
  rw [h4]
  have h5 : k * n / s ≤ k * n := Nat.div_le_self _ _
  unfold cut
  generalize k * n / s = q at *
  simp only [IntKind.wrap, IntKind.bits, IntKind.signed]
  simp
  omega
theorem cut_w64 (n s k : Nat) (h0 : 1 ≤ s) (hk : k ≤ s) (hs : s ≤ 16) (hn : n ≤ 256) : wrap64 ((wrap64 ((k : Int) * (n : Int))).tdiv (s : Int)) = ((cut n s k : Nat) : Int) := by
  have h1 : k * n ≤ 16 * 256 := Nat.mul_le_mul (by omega) hn
  have h2 : ((k : Int) * (n : Int)) = ((k * n : Nat) : Int) := by simp
  rw [h2]
  have h3 : wrap64 ((k * n : Nat) : Int) = ((k * n : Nat) : Int) := by unfold wrap64; omega
  rw [h3]
  have h4 : (((k * n : Nat) : Int)).tdiv (s : Int) = ((k * n / s : Nat) : Int) := by rw [Int.tdiv_eq_ediv_of_nonneg (by omega)]; rfl
  rw [h4]
  have h5 : k * n / s ≤ k * n := Nat.div_le_self _ _
  unfold cut
  generalize k * n / s = q at *
  unfold wrap64
  omega
set_option maxHeartbeats 1600000 in
theorem cut_any (n s : Nat) (w : World) (h0 : 1 ≤ s) (hs : s ≤ n) (hs16 : s ≤ 16) (hn : n ≤ 256) :
    Calls Try.prog 50 #[.int .i64 (n : Int), .int .i64 (s : Int)] w fun e w' => ∃ g, e = .returned (.tuple #[.slice (some ⟨g, 0, none⟩) s s, .int .i64 0]) ∧ w.heap.size ≤ g ∧ PartsAt w' g n s ∧ Fr (fun _ => False) w w' := by
  obtain ⟨i0, hi, hz0, hz1, hz2⟩ := info_parts part_info
  have hmk := fun w => run_make_rowN (P := Try.prog) 96 42 i0 _ rfl hi hz0 .i64 .i64 s s (Nat.le_refl _) (by rw [hz2]; omega) (by omega) w
  rw [hz1] at hmk
  have H0 := hide (Blk.new w 42 (madeCells (Value.agg #[.int .i64 0, .int .i64 0]).cells (s * 2)))
  have F0 := hide ((Fr.refl (fun _ => False) w).alloc (.cells (madeCells (Value.agg #[.int .i64 0, .int .i64 0]).cells (s * 2)) 42))
  have hsz : (madeCells (Value.agg #[.int .i64 0, .int .i64 0]).cells (s * 2)).size = s * 2 := by simp [madeCells]
  generalize madeCells (Value.agg #[.int .i64 0, .int .i64 0]).cells (s * 2) = cs0 at *
  by_cases h16 : (16 : Int) < (n : Int)
  · go_enter Try.func50, Try.ntmps50
    go_wp2
    go_loopw [28, 7] (fun i j wr => ∃ (k : Nat), k ≤ s ∧ i = .int .i64 k ∧ Hid (∃ cs, Blk wr w.heap.size 42 cs ∧ cs.size = s * 2 ∧ (∀ j, j < k → cs[j * 2]? = some (.int .i64 ((cut n s j : Nat) : Int)) ∧ cs[j * 2 + 1]? = some (.int .i64 ((cut n s (j + 1) : Nat) : Int))) ∧ Fr (fun _ => False) w wr)) (fun i _ _ => s - (intOf i).toNat)
    case atStart => exact ⟨0, by omega, rfl, cs0, H0.out, hsz, fun j hj => absurd hj (by omega), F0.out⟩
    case round =>
      obtain ⟨k, hk, rfl, HI⟩ := hrel
      by_cases hlt : k < s
      · obtain ⟨cs, hb, hcs, hc, hf⟩ := HI.out
        have HB := hide hb
        have HC := hide hc
        have HF := hide hf
        have q0 := cut_i64 n s k h0 (by omega) hs16 hn
        have q1 := cut_i64 n s (k + 1) h0 (by omega) hs16 hn
        have q2 : IntKind.i64.wrap ((k : Int) + 1) = ((k + 1 : Nat) : Int) := by simp only [IntKind.wrap, IntKind.bits, IntKind.signed]; simp; omega
        have b0 : (0 : Int) ≤ (k : Int) := by omega
        have b1 : (k : Int) < (s : Int) := by omega
        have b2 : ¬ ((s : Int) = 0) := by omega
        have c0 : ∃ v, wr.cell? ⟨w.heap.size, k * 2, none⟩ = some v := by rw [hb.cell]; exact ⟨cs[k * 2]'(by omega), Array.getElem?_eq_getElem (by omega)⟩
        have c1 : ∃ v, wr.cell? ⟨w.heap.size, k * 2 + 1, none⟩ = some v := by rw [hb.cell]; exact ⟨cs[k * 2 + 1]'(by omega), Array.getElem?_eq_getElem (by omega)⟩
        have f0 := hb.frozen (k * 2)
        have f1 := hb.frozen (k * 2 + 1)
        obtain ⟨v0, c0⟩ := c0
        obtain ⟨v1, c1⟩ := c1
        clear hb hc hf
        go_wp2_with fail
        go_region
        go_wp2
        go_roundw
        case rel =>
          refine ⟨k + 1, by omega, by go_num, ?_⟩
          have r0 : wrap64 ((wrap64 ((k : Int) * (n : Int))).tdiv (s : Int)) = ((cut n s k : Nat) : Int) := cut_w64 n s k h0 (by omega) hs16 hn
          have r1 : wrap64 ((wrap64 (((k : Int) + 1) * (n : Int))).tdiv (s : Int)) = ((cut n s (k + 1) : Nat) : Int) := by
            rw [show (k : Int) + 1 = ((k + 1 : Nat) : Int) by omega]; exact cut_w64 n s (k + 1) h0 (by omega) hs16 hn
          rw [r0, r1]
          refine ⟨_, (((HB.out.set_ _ _).set_ _ _).drew), by simp [hcs], fun j hj => ?_, ((HF.out.setCell (p := ⟨w.heap.size, k * 2, none⟩) (.inr (Nat.le_refl _)) _).setCell (p := ⟨w.heap.size, k * 2 + 1, none⟩) (.inr (Nat.le_refl _)) _).drew⟩
          simp only [Array.getElem?_setIfInBounds, Array.size_setIfInBounds, hcs]
          by_cases hjk : j = k
          · subst hjk
            simp
            omega
          · rw [if_neg (by omega), if_neg (by omega), if_neg (by omega), if_neg (by omega)]
            exact HC.out j (by omega)
        case measure => simp [intOf]; omega
      · obtain rfl : k = s := by omega
        obtain ⟨cs, hb, hcs, hc, hf⟩ := HI.out
        have HP := hide (show PartsAt wr w.heap.size n k from ⟨hb.lt, fun j hj => by rw [hb.cell, hb.cell]; exact hc j hj⟩)
        have HF := hide hf
        clear hb hc hf
        go_wp2
        go_ret2
        exact ⟨_, rfl, Nat.le_refl _, HP.out, HF.out⟩
  · go_enter Try.func50, Try.ntmps50
    go_wp2
    go_loopw [28, 7] (fun i j wr => ∃ (k : Nat), k ≤ s ∧ i = .int .i64 k ∧ Hid (∃ cs, Blk wr w.heap.size 42 cs ∧ cs.size = s * 2 ∧ (∀ j, j < k → cs[j * 2]? = some (.int .i64 ((cut n s j : Nat) : Int)) ∧ cs[j * 2 + 1]? = some (.int .i64 ((cut n s (j + 1) : Nat) : Int))) ∧ Fr (fun _ => False) w wr)) (fun i _ _ => s - (intOf i).toNat)
    case atStart => exact ⟨0, by omega, rfl, cs0, H0.out, hsz, fun j hj => absurd hj (by omega), F0.out⟩
    case round =>
      obtain ⟨k, hk, rfl, HI⟩ := hrel
      by_cases hlt : k < s
      · obtain ⟨cs, hb, hcs, hc, hf⟩ := HI.out
        have HB := hide hb
        have HC := hide hc
        have HF := hide hf
        have q0 := cut_i64 n s k h0 (by omega) hs16 hn
        have q1 := cut_i64 n s (k + 1) h0 (by omega) hs16 hn
        have q2 : IntKind.i64.wrap ((k : Int) + 1) = ((k + 1 : Nat) : Int) := by simp only [IntKind.wrap, IntKind.bits, IntKind.signed]; simp; omega
        have b0 : (0 : Int) ≤ (k : Int) := by omega
        have b1 : (k : Int) < (s : Int) := by omega
        have b2 : ¬ ((s : Int) = 0) := by omega
        have c0 : ∃ v, wr.cell? ⟨w.heap.size, k * 2, none⟩ = some v := by rw [hb.cell]; exact ⟨cs[k * 2]'(by omega), Array.getElem?_eq_getElem (by omega)⟩
        have c1 : ∃ v, wr.cell? ⟨w.heap.size, k * 2 + 1, none⟩ = some v := by rw [hb.cell]; exact ⟨cs[k * 2 + 1]'(by omega), Array.getElem?_eq_getElem (by omega)⟩
        have f0 := hb.frozen (k * 2)
        have f1 := hb.frozen (k * 2 + 1)
        obtain ⟨v0, c0⟩ := c0
        obtain ⟨v1, c1⟩ := c1
        clear hb hc hf
        go_wp2_with fail
        go_region
        go_wp2
        go_roundw
        case rel =>
          refine ⟨k + 1, by omega, by go_num, ?_⟩
          have r0 : wrap64 ((wrap64 ((k : Int) * (n : Int))).tdiv (s : Int)) = ((cut n s k : Nat) : Int) := cut_w64 n s k h0 (by omega) hs16 hn
          have r1 : wrap64 ((wrap64 (((k : Int) + 1) * (n : Int))).tdiv (s : Int)) = ((cut n s (k + 1) : Nat) : Int) := by
            rw [show (k : Int) + 1 = ((k + 1 : Nat) : Int) by omega]; exact cut_w64 n s (k + 1) h0 (by omega) hs16 hn
          rw [r0, r1]
          refine ⟨_, (((HB.out.set_ _ _).set_ _ _).drew), by simp [hcs], fun j hj => ?_, ((HF.out.setCell (p := ⟨w.heap.size, k * 2, none⟩) (.inr (Nat.le_refl _)) _).setCell (p := ⟨w.heap.size, k * 2 + 1, none⟩) (.inr (Nat.le_refl _)) _).drew⟩
          simp only [Array.getElem?_setIfInBounds, Array.size_setIfInBounds, hcs]
          by_cases hjk : j = k
          · subst hjk
            simp
            omega
          · rw [if_neg (by omega), if_neg (by omega), if_neg (by omega), if_neg (by omega)]
            exact HC.out j (by omega)
        case measure => simp [intOf]; omega
      · obtain rfl : k = s := by omega
        obtain ⟨cs, hb, hcs, hc, hf⟩ := HI.out
        have HP := hide (show PartsAt wr w.heap.size n k from ⟨hb.lt, fun j hj => by rw [hb.cell, hb.cell]; exact hc j hj⟩)
        have HF := hide hf
        clear hb hc hf
        go_wp2
        go_ret2
        exact ⟨_, rfl, Nat.le_refl _, HP.out, HF.out⟩
end Go.Proofs.Ytjdbjahgimlhbaa
end
