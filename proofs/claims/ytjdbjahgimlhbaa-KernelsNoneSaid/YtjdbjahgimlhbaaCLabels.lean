/- Labels, the program's Commit, by contract. -/
import Derived.Test.YtjdbjahgimlhbaaLabels
set_option linter.unusedVariables false
set_option maxRecDepth 100000
namespace Go.Proofs.Ytjdbjahgimlhbaa.labels
open Go.RowKit

section
variable {w : World} {pa ga pb gb ca cb cg cd : Nat} {xs ys : List Nat}
def cX (arg : Int) (x y : Nat) : Nat := min x y
def cY (arg : Int) (x y : Nat) : Nat := y
def cD (arg : Int) (x y : Nat) : Bool := decide (y < x)
theorem commit_step (h : TwoAt w pa ga pb gb xs ys) (arg : Int) (hca : w.cell? ⟨ca, 0, none⟩ = some (vecv pa)) (hcb : w.cell? ⟨cb, 0, none⟩ = some (vecv pb)) (d : Bool) (hd : Blk w cd 4 #[.bool d])
    (n1 : ca ≠ ga) (n2 : ca ≠ gb) (n3 : cb ≠ ga) (n4 : cb ≠ gb) (n5 : ca ≠ cd) (n6 : cb ≠ cd) (n7 : cd ≠ ga) (n8 : cd ≠ gb) (i : Nat) (hi : i < xs.length) (hi' : i < ys.length) :
    Calls Try.prog 64 #[.int .i64 i, .pointer (some ⟨cb, 0, none⟩), .pointer (some ⟨ca, 0, none⟩), .pointer (some ⟨cd, 0, none⟩)] w fun e w' => e = .returned (.int .i64 0) ∧ TwoAt w' pa ga pb gb (xs.set i (cX arg (xs.getD i 0) (ys.getD i 0))) (ys.set i (cY arg (xs.getD i 0) (ys.getD i 0))) ∧ Blk w' cd 4 #[.bool (d && !cD arg (xs.getD i 0) (ys.getD i 0))] ∧ Fr (fun k => k = ga ∨ k = gb ∨ k = cd) w w' := by
  have hm := fun p => meth_set p
  have hg := fun p => meth_get p
  have hy := h.b.lt _ (show ys.getD i 0 ∈ ys by simp [List.getD, hi'])
  have e1 : ys.set i (cY arg (xs.getD i 0) (ys.getD i 0)) = ys := set_same ys i
  rw [e1]
  unfold vecv at hca hcb
  have H := hide h
  have GB := hide (get_in h.b i hi')
  have HL := hide (less_any h.a i (ys.getD i 0) hi hy)
  have HD := hide hd
  have HCX : Hid (xs.set i (cX arg (xs.getD i 0) (ys.getD i 0)) = xs.set i (min (xs.getD i 0) (ys.getD i 0))) := rfl
  have hcd : cD arg (xs.getD i 0) (ys.getD i 0) = decide (ys.getD i 0 < xs.getD i 0) := rfl
  rw [hcd]
  generalize decide (ys.getD i 0 < xs.getD i 0) = b at *
  generalize xs.set i (cX arg (xs.getD i 0) (ys.getD i 0)) = zs at *
  clear h hd e1 hcd
  have HZ := HCX.out
  subst HZ
  clear HCX
  unfold vecv at HL
  generalize ys.getD i 0 = y at *
  generalize xs.set i (min (xs.getD i 0) y) = zs at *
  go_enter Try.func64, Try.ntmps64
  go_wp2_with fail
  go_at_call 21
  refine GB.out.mono ?_
  rintro e w1 ⟨rfl, rfl⟩
  go_wp2_with fail
  go_at_call 63
  refine HL.out.mono ?_
  rintro e w1 ⟨rfl, hp, hf⟩
  have hB := HD.out.fr hf n7
  have q0 : w1.cell? ⟨cd, 0, none⟩ = some (.bool d) := (hB.cell 0).trans rfl
  have q1 := hB.frozen 0
  have HN : Hid (∀ z : Bool, z = (d && !b) → TwoAt (w1.setCell ⟨cd, 0, none⟩ (.bool z)) pa ga pb gb zs ys ∧ Blk (w1.setCell ⟨cd, 0, none⟩ (.bool z)) cd 4 #[.bool (d && !b)] ∧ Fr (fun k => k = ga ∨ k = gb ∨ k = cd) w (w1.setCell ⟨cd, 0, none⟩ (.bool z))) := by
    rintro z rfl
    have hT := H.out.setA hp hf
    have F5 : Fr (fun k => k = cd) w1 (w1.setCell ⟨cd, 0, none⟩ (.bool (d && !b))) := Fr.one _ _ _ _
    exact ⟨hT.fr F5 (hT.a.head.ne_ hB (by decide)) (fun e => n7 e.symm) (hT.b.head.ne_ hB (by decide)) (fun e => n8 e.symm), hB.set_ 0 _, (hf.mono (fun k h => .inl h)).trans F5 (fun k h => .inl (.inr (.inr h)))⟩
  clear hB hp hf H HL GB HD
  cases d <;> cases b
  all_goals
    go_wp2
    go_ret
    exact ⟨rfl, HN.out _ rfl⟩
def cXs (arg : Int) (xs ys : List Nat) : List Nat := (List.range xs.length).map fun i => cX arg (xs.getD i 0) (ys.getD i 0)
def cYs (arg : Int) (xs ys : List Nat) : List Nat := (List.range xs.length).map fun i => cY arg (xs.getD i 0) (ys.getD i 0)
def cAll (arg : Int) (xs ys : List Nat) (k : Nat) : Bool := (List.range k).all fun i => !cD arg (xs.getD i 0) (ys.getD i 0)
theorem cAll_succ (arg : Int) (xs ys : List Nat) (k : Nat) : cAll arg xs ys (k + 1) = (cAll arg xs ys k && !cD arg (xs.getD k 0) (ys.getD k 0)) := by
  simp [cAll, List.range_succ]
def cDone (arg : Int) (xs ys : List Nat) : Bool := cAll arg xs ys xs.length

theorem commit_key (w1 : World) (h : TwoAt w1 pa ga pb gb xs ys) (hlen : ys.length = xs.length) (h256 : xs.length ≤ 256) (arg : Int) (c0 : w1.cell? ⟨ca, 0, none⟩ = some (vecv pa)) (c1 : w1.cell? ⟨cb, 0, none⟩ = some (vecv pb)) (b : Blk w1 cd 4 #[.bool true])
    (n1 : ca ≠ ga) (n2 : ca ≠ gb) (n3 : cb ≠ ga) (n4 : cb ≠ gb) (n5 : ca ≠ cd) (n6 : cb ≠ cd) (n7 : cd ≠ ga) (n8 : cd ≠ gb) :
    Calls Try.prog 54 #[.int .i64 xs.length, .func (.func 64) #[] #[.pointer (some ⟨cb, 0, none⟩), .pointer (some ⟨ca, 0, none⟩), .pointer (some ⟨cd, 0, none⟩)]] w1 fun e w' => e = .returned (.int .i64 0) ∧ TwoAt w' pa ga pb gb (cXs arg xs ys) (cYs arg xs ys) ∧ Blk w' cd 4 #[.bool (cDone arg xs ys)] ∧ Fr (fun k => k = ga ∨ k = gb ∨ k = cd) w1 w' := by
  have nn1 : ga ≠ cd := fun e => n7 e.symm
  have nn2 : gb ≠ cd := fun e => n8 e.symm
  refine (each_any 64 (fun args w => by kernel_rfl) #[.pointer (some ⟨cb, 0, none⟩), .pointer (some ⟨ca, 0, none⟩), .pointer (some ⟨cd, 0, none⟩)] xs.length
    (fun i w' => TwoAt w' pa ga pb gb (pre (fun i => cX arg (xs.getD i 0) (ys.getD i 0)) i xs) (pre (fun i => cY arg (xs.getD i 0) (ys.getD i 0)) i ys) ∧ Blk w' cd 4 #[.bool (cAll arg xs ys i)] ∧ Fr (fun k => k = ga ∨ k = gb ∨ k = cd) w1 w') w1 ⟨by rw [pre_zero, pre_zero]; exact h, b, Fr.refl _ _⟩ ?_ h256).mono ?_
  · rintro i w' hi ⟨hT, hB, hF⟩
    refine (commit_step hT arg (hF.cell c0 (by simp only []; omega)) (hF.cell c1 (by simp only []; omega)) _ hB n1 n2 n3 n4 n5 n6 n7 n8 i (by rw [pre_len _ (by omega)]; omega) (by rw [pre_len _ (by omega)]; omega)).mono ?_
    rintro e w'' ⟨rfl, hT', hB', hF'⟩
    rw [pre_get (fun i => cX arg (xs.getD i 0) (ys.getD i 0)) hi, pre_get (fun i => cY arg (xs.getD i 0) (ys.getD i 0)) (show i < ys.length by omega)] at hT' hB'
    rw [pre_set (fun i => cX arg (xs.getD i 0) (ys.getD i 0)) hi, pre_set (fun i => cY arg (xs.getD i 0) (ys.getD i 0)) (show i < ys.length by omega)] at hT'
    rw [← cAll_succ] at hB'
    exact ⟨rfl, hT', hB', hF.trans hF' (fun k h => .inl h)⟩
  · rintro e w' ⟨rfl, hT, hB, hF⟩
    rw [pre_full _ rfl, pre_full _ hlen] at hT
    exact ⟨rfl, hT, hB, hF⟩

theorem commit_ok (h : TwoAt w pa ga pb gb xs ys) (hm : mayB xs.length ys.length = true) (arg round : Int) :
    Calls Try.prog 28 #[vecv pa, vecv pb, .int .i64 arg, .int .i64 round] w fun e w' => e = .returned (.tuple #[.bool (cDone arg xs ys), .int .i64 0]) ∧ TwoAt w' pa ga pb gb (cXs arg xs ys) (cYs arg xs ys) ∧ Fr (fun k => k = ga ∨ k = gb) w w' := by
  have hmv := fun p => meth_len p
  have hm' : 1 ≤ xs.length ∧ xs.length ≤ 256 ∧ ys.length = xs.length := by simpa [mayB] using hm
  have la := h.a.row.lt
  have lb := h.b.row.lt
  obtain ⟨W3, hW3⟩ : ∃ W3, W3 = ((w.alloc (.cells #[vecv pa] 113)).alloc (.cells #[vecv pb] 113)).alloc (.cells #[.bool false] 4) := ⟨_, rfl⟩
  have F3 : Fr (fun _ => False) w W3 := by rw [hW3]; exact (((Fr.refl _ _).alloc _).alloc _).alloc _
  have T3 := three (w := w) (t1 := 113) (t2 := 113) (t3 := 4) (c1 := #[vecv pa]) (c2 := #[vecv pb]) (c3 := #[.bool false])
  rw [← hW3] at T3
  have B1 := T3.1
  have B2 := T3.2.1
  have B3 : Blk W3 (w.heap.size + 1 + 1) 4 #[.bool false] := T3.2.2
  clear T3
  have n0 := B3.lt
  have c0 : W3.cell? ⟨w.heap.size, 0, none⟩ = some (vecv pa) := (B1.cell 0).trans rfl
  have c1 : W3.cell? ⟨w.heap.size + 1, 0, none⟩ = some (vecv pb) := (B2.cell 0).trans rfl
  have c2 : W3.cell? ⟨w.heap.size + 1 + 1, 0, none⟩ = some (.bool false) := (B3.cell 0).trans rfl
  have f2 := B3.frozen 0
  have H3 := h.still F3
  have F4 : Fr (fun k => k = w.heap.size + 1 + 1) W3 (W3.setCell ⟨w.heap.size + 1 + 1, 0, none⟩ (.bool true)) := Fr.one _ _ _ _
  have H4 := H3.fr F4 (by have := h.a.head.lt; omega) (by omega) (by have := h.b.head.lt; omega) (by omega)
  have B4 : Blk (W3.setCell ⟨w.heap.size + 1 + 1, 0, none⟩ (.bool true)) (w.heap.size + 1 + 1) 4 #[.bool true] := B3.set_ 0 (.bool true)
  have key := commit_key (ca := w.heap.size) (cb := w.heap.size + 1) (cd := w.heap.size + 1 + 1) _ H4 hm'.2.2 hm'.2.1 arg (F4.cell c0 (by simp only []; omega)) (F4.cell c1 (by simp only []; omega)) B4 (by omega) (by omega) (by omega) (by omega) (by omega) (by omega) (by omega) (by omega)
  have CK := check_any H3
  rw [hm] at CK
  have HL := hide (len_any H4.a)
  have HC := hide CK
  have HK := hide key
  have HF := hide ((F3.mono (S' := fun k => k = ga ∨ k = gb) (fun _ h => h.elim)).trans F4 (fun _ h => .inr (by omega)))
  unfold vecv at *
  clear key CK H3 h F3 F4 H4 B1 B2 B3 B4 hm hm'
  generalize cDone arg xs ys = dn at *
  go_enter Try.func28, Try.ntmps28
  go_wp2_with fail
  go_at_call 53
  rw [← hW3]
  refine HC.out.mono ?_
  rintro e w1 ⟨rfl, rfl⟩
  clear hW3
  unfold errB
  go_wp2_with fail
  go_at_call 61
  refine HL.out.mono ?_
  rintro e w1 ⟨rfl, rfl⟩
  go_wp2_with fail
  go_at_call 54
  refine HK.out.mono ?_
  rintro e w1 ⟨rfl, hT, hB, hF⟩
  have q0 : w1.cell? ⟨w.heap.size + 1 + 1, 0, none⟩ = some (.bool dn) := (hB.cell 0).trans rfl
  have q1 := hB.frozen 0
  have e0 : (w1.setCell ⟨w.heap.size + 1 + 1, 0, none⟩ (.bool dn)).cell? ⟨w.heap.size + 1 + 1, 0, none⟩ = some (.bool dn) := ((hB.set_ 0 (.bool dn)).cell 0).trans rfl
  have F5 : Fr (fun k => k = w.heap.size + 1 + 1) w1 (w1.setCell ⟨w.heap.size + 1 + 1, 0, none⟩ (.bool dn)) := Fr.one _ _ _ _
  have lpa := hT.a.head
  have H1 := hide (hT.fr F5 (hT.a.head.ne_ hB (by decide)) (by omega) (hT.b.head.ne_ hB (by decide)) (by omega))
  have H2 := hide ((HF.out.trans hF (by rintro k (h | h | h); exact .inl (.inl h); exact .inl (.inr h); exact .inr (by omega))).trans F5 (fun k h => .inr (by omega)))
  clear hT hF hB F5 lpa
  cases dn
  all_goals
    go_wp2
    refine bodyPost_ret (by simp [results, Try.results28, go_sem, e0]; try rfl) rfl ?_
    exact ⟨rfl, H1.out, H2.out⟩

theorem commit_bad (h : TwoAt w pa ga pb gb xs ys) (hm : mayB xs.length ys.length = false) (arg round : Int) :
    Calls Try.prog 28 #[vecv pa, vecv pb, .int .i64 arg, .int .i64 round] w fun e w' => e = .returned (.tuple #[.bool false, .int .i64 2]) ∧ Fr (fun _ => False) w w' := by
  obtain ⟨W3, hW3⟩ : ∃ W3, W3 = ((w.alloc (.cells #[vecv pa] 113)).alloc (.cells #[vecv pb] 113)).alloc (.cells #[.bool false] 4) := ⟨_, rfl⟩
  have F3 : Fr (fun _ => False) w W3 := by rw [hW3]; exact (((Fr.refl _ _).alloc _).alloc _).alloc _
  have T3 := three (w := w) (t1 := 113) (t2 := 113) (t3 := 4) (c1 := #[vecv pa]) (c2 := #[vecv pb]) (c3 := #[.bool false])
  rw [← hW3] at T3
  have B1 := T3.1
  have B2 := T3.2.1
  have B3 : Blk W3 (w.heap.size + 1 + 1) 4 #[.bool false] := T3.2.2
  clear T3
  have c2 : W3.cell? ⟨w.heap.size + 1 + 1, 0, none⟩ = some (.bool false) := (B3.cell 0).trans rfl
  have f2 := B3.frozen 0
  have e0 : (W3.setCell ⟨w.heap.size + 1 + 1, 0, none⟩ (.bool false)).cell? ⟨w.heap.size + 1 + 1, 0, none⟩ = some (.bool false) := ((B3.set_ 0 (.bool false)).cell 0).trans rfl
  have CK := check_any (h.still F3)
  rw [hm] at CK
  have HC := hide CK
  have HF := hide (F3.trans (Fr.one W3 (w.heap.size + 1 + 1) 0 (.bool false)) (fun k h => .inr (by omega)))
  unfold vecv at *
  clear CK h F3 B1 B2 B3 hm
  go_enter Try.func28, Try.ntmps28
  go_wp2_with fail
  go_at_call 53
  rw [← hW3]
  refine HC.out.mono ?_
  rintro e w1 ⟨rfl, rfl⟩
  clear hW3
  unfold errB
  go_wp2
  refine bodyPost_ret (by simp [results, Try.results28, go_sem, e0]; try rfl) rfl ?_
  exact ⟨rfl, HF.out⟩

theorem commit_nilA (p : Nat) (arg round : Int) :
    Calls Try.prog 28 #[.nilIface, vecv p, .int .i64 arg, .int .i64 round] w fun e w' => e = .returned (.tuple #[.bool false, .int .i64 1]) ∧ Fr (fun _ => False) w w' := by
  obtain ⟨W3, hW3⟩ : ∃ W3, W3 = ((w.alloc (.cells #[.nilIface] 113)).alloc (.cells #[vecv p] 113)).alloc (.cells #[.bool false] 4) := ⟨_, rfl⟩
  have F3 : Fr (fun _ => False) w W3 := by rw [hW3]; exact (((Fr.refl _ _).alloc _).alloc _).alloc _
  have T3 := three (w := w) (t1 := 113) (t2 := 113) (t3 := 4) (c1 := #[.nilIface]) (c2 := #[vecv p]) (c3 := #[.bool false])
  rw [← hW3] at T3
  have B1 := T3.1
  have B2 := T3.2.1
  have B3 : Blk W3 (w.heap.size + 1 + 1) 4 #[.bool false] := T3.2.2
  clear T3
  have c2 : W3.cell? ⟨w.heap.size + 1 + 1, 0, none⟩ = some (.bool false) := (B3.cell 0).trans rfl
  have f2 := B3.frozen 0
  have e0 : (W3.setCell ⟨w.heap.size + 1 + 1, 0, none⟩ (.bool false)).cell? ⟨w.heap.size + 1 + 1, 0, none⟩ = some (.bool false) := ((B3.set_ 0 (.bool false)).cell 0).trans rfl
  have HC := hide (check_nilA (vecv p) W3 (.inr ⟨p, rfl⟩))
  have HF := hide (F3.trans (Fr.one W3 (w.heap.size + 1 + 1) 0 (.bool false)) (fun k h => .inr (by omega)))
  unfold vecv at *
  clear F3 B1 B2 B3
  go_enter Try.func28, Try.ntmps28
  go_wp2_with fail
  go_at_call 53
  rw [← hW3]
  refine HC.out.mono ?_
  rintro e w1 ⟨rfl, rfl⟩
  clear hW3
  go_wp2
  refine bodyPost_ret (by simp [results, Try.results28, go_sem, e0]; try rfl) rfl ?_
  exact ⟨rfl, HF.out⟩
end
end Go.Proofs.Ytjdbjahgimlhbaa.labels
