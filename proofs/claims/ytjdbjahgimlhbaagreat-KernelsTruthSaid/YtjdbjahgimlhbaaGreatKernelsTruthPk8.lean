/- Parts of the proof of KernelsTruth: no conditions of their own. -/
import Derived.Test.YtjdbjahgimlhbaaGreatKernelsTruthPk7
import Derived.Test.YtjdbjahgimlhbaaGreatKernelsTruthPk5
import Derived.Test.YtjdbjahgimlhbaaGreatKernelsTruthPk6
import Derived.Deep.RegionHeld3
section
set_option linter.unusedVariables false
set_option maxRecDepth 100000
namespace Go.Proofs.YtjdbjahgimlhbaaGreat.bfs
open Go.RowKit

section
variable {w : World} {pa ga pb gb ca cb cg cd : Nat} {xs ys : List Nat}
def cX (arg : Int) (x y : Nat) : Nat := min x y
def cY (arg : Int) (x y : Nat) : Nat := 18446744073709551615
def cD (arg : Int) (x y : Nat) : Bool := decide (y < x)
set_option maxHeartbeats 1600000 in
theorem commit_step (h : TwoAt w pa ga pb gb xs ys) (arg : Int) (hca : w.cell? ⟨ca, 0, none⟩ = some (vecv pa)) (hcb : w.cell? ⟨cb, 0, none⟩ = some (vecv pb)) (d : Bool) (hd : Blk w cd 4 #[.bool d])
    (n1 : ca ≠ ga) (n2 : ca ≠ gb) (n3 : cb ≠ ga) (n4 : cb ≠ gb) (n5 : ca ≠ cd) (n6 : cb ≠ cd) (n7 : cd ≠ ga) (n8 : cd ≠ gb) (i : Nat) (hi : i < xs.length) (hi' : i < ys.length) :
    Calls Tryz.prog 93 #[.int .i64 i, .pointer (some ⟨cb, 0, none⟩), .pointer (some ⟨ca, 0, none⟩), .pointer (some ⟨cd, 0, none⟩)] w fun e w' => e = .returned (.int .i64 0) ∧ TwoAt w' pa ga pb gb (xs.set i (cX arg (xs.getD i 0) (ys.getD i 0))) (ys.set i (cY arg (xs.getD i 0) (ys.getD i 0))) ∧ Blk w' cd 4 #[.bool (d && !cD arg (xs.getD i 0) (ys.getD i 0))] ∧ Fr (fun k => k = ga ∨ k = gb ∨ k = cd) w w' := by
  have hm := fun p => meth_set p
  have hg := fun p => meth_get p
  have hx := h.a.lt _ (show xs.getD i 0 ∈ xs by simp [List.getD, hi])
  have hy := h.b.lt _ (show ys.getD i 0 ∈ ys by simp [List.getD, hi'])
  have e1 : cY arg (xs.getD i 0) (ys.getD i 0) = 18446744073709551615 := rfl
  rw [e1]
  unfold vecv at hca hcb
  have H := hide h
  have GB := hide (get_in h.b i hi')
  have HL := hide (less_any h.a i (ys.getD i 0) hi hy)
  have HD := hide hd
  have hcd : cD arg (xs.getD i 0) (ys.getD i 0) = decide (ys.getD i 0 < xs.getD i 0) := rfl
  have hcx : cX arg (xs.getD i 0) (ys.getD i 0) = min (xs.getD i 0) (ys.getD i 0) := rfl
  rw [hcd, hcx]
  by_cases hfar : ys.getD i 0 = 18446744073709551615
  · have e2 : xs.set i (min (xs.getD i 0) (ys.getD i 0)) = xs := by rw [show min (xs.getD i 0) (ys.getD i 0) = xs.getD i 0 by omega]; exact set_same xs i
    have e3 : ys.set i 18446744073709551615 = ys := by rw [← hfar]; exact set_same ys i
    rw [e2, e3, decide_eq_false (by omega)]
    rw [hfar] at GB
    have HB := hide (show TwoAt w pa ga pb gb xs ys ∧ Blk w cd 4 #[.bool (d && !false)] ∧ Fr (fun k => k = ga ∨ k = gb ∨ k = cd) w w from ⟨h, by simpa using hd, Fr.refl _ _⟩)
    clear h hd e1 e2 e3 hcd hcx HL hfar hx hy
    go_enter Tryz.func93, Tryz.ntmps93
    go_wp2_with fail
    go_at_call 153
    refine GB.out.mono ?_
    rintro e w1 ⟨rfl, rfl⟩
    go_wp2
    go_ret
    exact ⟨rfl, HB.out⟩
  · have hbe : (((ys.getD i 0 : Nat) : Int) == 18446744073709551615) = false := beqF (by omega)
    have HS := hide (fun w' (h : PlainAt w' pb gb ys) => set_in h i 18446744073709551615 hi' (by omega))
    generalize decide (ys.getD i 0 < xs.getD i 0) = b at *
    unfold vecv at HL
    clear h hd e1 hcd hcx hfar hx
    generalize ys.getD i 0 = y at *
    generalize xs.set i (min (xs.getD i 0) y) = zs at *
    have HY := hide hy
    clear hy
    go_enter Tryz.func93, Tryz.ntmps93
    go_wp2_with fail
    go_at_call 153
    refine GB.out.mono ?_
    rintro e w1 ⟨rfl, rfl⟩
    go_wp2_with fail
    go_at_call 92
    refine HL.out.mono ?_
    rintro e w1 ⟨rfl, hp, hf⟩
    have hB := HD.out.fr hf n7
    have q0 : w1.cell? ⟨cd, 0, none⟩ = some (.bool d) := (hB.cell 0).trans rfl
    have q1 := hB.frozen 0
    have hcb1 := hf.cell hcb n3
    have HN : Hid (∀ z : Bool, z = (d && !b) → TwoAt (w1.setCell ⟨cd, 0, none⟩ (.bool z)) pa ga pb gb zs ys ∧ Blk (w1.setCell ⟨cd, 0, none⟩ (.bool z)) cd 4 #[.bool (d && !b)] ∧ Fr (fun k => k = ga ∨ k = gb ∨ k = cd) w (w1.setCell ⟨cd, 0, none⟩ (.bool z)) ∧ (w1.setCell ⟨cd, 0, none⟩ (.bool z)).cell? ⟨cb, 0, none⟩ = some (.iface 67 (.pointer (some ⟨pb, 0, none⟩)))) := by
      rintro z rfl
      have hT := H.out.setA hp hf
      have F5 : Fr (fun k => k = cd) w1 (w1.setCell ⟨cd, 0, none⟩ (.bool (d && !b))) := Fr.one _ _ _ _
      exact ⟨hT.fr F5 (hT.a.head.ne_ hB (by decide)) (fun e => n7 e.symm) (hT.b.head.ne_ hB (by decide)) (fun e => n8 e.symm), hB.set_ 0 _, (hf.mono (fun k h => .inl h)).trans F5 (fun k h => .inl (.inr (.inr h))), F5.cell hcb1 n6⟩
    clear hB hp hf H HL GB HD hcb1
    have n6' : cd ≠ cb := fun e => n6 e.symm
    cases d <;> cases b
    all_goals
      have HM := HN.out _ rfl
      simp only [Bool.not_true, Bool.not_false, Bool.and_false, Bool.and_true, Bool.and_self] at HM
      have hcb2 := HM.2.2.2
      have HM' := hide HM
      clear HM HN
      go_wp2_with fail
      go_at_call 155
      refine (HS.out _ HM'.out.1.b).mono ?_
      rintro e w2 ⟨rfl, hp, hf⟩
      have HE := hide (And.intro (HM'.out.1.setB hp hf) (And.intro (HM'.out.2.1.fr hf n8) (HM'.out.2.2.1.trans hf (fun k h => .inl (.inr (.inl h))))))
      clear hp hf hcb2
      go_wp2
      go_ret
      exact ⟨rfl, HE.out⟩
def cXs (arg : Int) (xs ys : List Nat) : List Nat := (List.range xs.length).map fun i => cX arg (xs.getD i 0) (ys.getD i 0)
def cYs (arg : Int) (xs ys : List Nat) : List Nat := (List.range xs.length).map fun i => cY arg (xs.getD i 0) (ys.getD i 0)
def cAll (arg : Int) (xs ys : List Nat) (k : Nat) : Bool := (List.range k).all fun i => !cD arg (xs.getD i 0) (ys.getD i 0)
theorem cAll_succ (arg : Int) (xs ys : List Nat) (k : Nat) : cAll arg xs ys (k + 1) = (cAll arg xs ys k && !cD arg (xs.getD k 0) (ys.getD k 0)) := by
  simp [cAll, List.range_succ]
def cDone (arg : Int) (xs ys : List Nat) : Bool := cAll arg xs ys xs.length

theorem commit_key (w1 : World) (h : TwoAt w1 pa ga pb gb xs ys) (hlen : ys.length = xs.length) (h256 : xs.length ≤ 256) (arg : Int) (c0 : w1.cell? ⟨ca, 0, none⟩ = some (vecv pa)) (c1 : w1.cell? ⟨cb, 0, none⟩ = some (vecv pb)) (b : Blk w1 cd 4 #[.bool true])
    (n1 : ca ≠ ga) (n2 : ca ≠ gb) (n3 : cb ≠ ga) (n4 : cb ≠ gb) (n5 : ca ≠ cd) (n6 : cb ≠ cd) (n7 : cd ≠ ga) (n8 : cd ≠ gb) :
    Calls Tryz.prog 87 #[.int .i64 xs.length, .func (.func 93) #[] #[.pointer (some ⟨cb, 0, none⟩), .pointer (some ⟨ca, 0, none⟩), .pointer (some ⟨cd, 0, none⟩)]] w1 fun e w' => e = .returned (.int .i64 0) ∧ TwoAt w' pa ga pb gb (cXs arg xs ys) (cYs arg xs ys) ∧ Blk w' cd 4 #[.bool (cDone arg xs ys)] ∧ Fr (fun k => k = ga ∨ k = gb ∨ k = cd) w1 w' := by
  have nn1 : ga ≠ cd := fun e => n7 e.symm
  have nn2 : gb ≠ cd := fun e => n8 e.symm
  refine (each_any 93 (fun args w => by kernel_rfl) #[.pointer (some ⟨cb, 0, none⟩), .pointer (some ⟨ca, 0, none⟩), .pointer (some ⟨cd, 0, none⟩)] xs.length
    (fun i w' => TwoAt w' pa ga pb gb (pre (fun i => cX arg (xs.getD i 0) (ys.getD i 0)) i xs) (pre (fun i => cY arg (xs.getD i 0) (ys.getD i 0)) i ys) ∧ Blk w' cd 4 #[.bool (cAll arg xs ys i)] ∧ Fr (fun k => k = ga ∨ k = gb ∨ k = cd) w1 w') w1 ⟨by rw [pre_zero, pre_zero]; exact h, b, Fr.refl _ _⟩ ?_ h256).mono ?_
  · rintro i w' hi ⟨hT, hB, hF⟩
    refine (commit_step hT arg (hF.cell c0 (by simp only []; omega)) (hF.cell c1 (by simp only []; omega)) _ hB n1 n2 n3 n4 n5 n6 n7 n8 i (by rw [pre_len _ (by omega)]; omega) (by rw [pre_len _ (by omega)]; omega)).mono ?_
    rintro e w'' ⟨rfl, hT', hB', hF'⟩
    rw [pre_get (fun i => cX arg (xs.getD i 0) (ys.getD i 0)) hi, pre_get (fun i => cY arg (xs.getD i 0) (ys.getD i 0)) (show i < ys.length by omega)] at hT' hB'
    rw [pre_set (fun i => cX arg (xs.getD i 0) (ys.getD i 0)) hi, pre_set (fun i => cY arg (xs.getD i 0) (ys.getD i 0)) (show i < ys.length by omega)] at hT'
    rw [← cAll_succ] at hB'
    exact ⟨rfl, hT', hB', hF.trans hF' (fun k h => .inl h)⟩
  · rintro e w' ⟨rfl, hT, hB, hF⟩
    rw [pre_full _ rfl, pre_full _ hlen] at hT
    exact ⟨rfl, hT, hB, hF⟩

theorem commit_ok (h : TwoAt w pa ga pb gb xs ys) (hm : mayB xs.length ys.length = true) (arg round : Int) :
    Calls Tryz.prog 48 #[vecv pa, vecv pb, .int .i64 arg, .int .i64 round] w fun e w' => e = .returned (.tuple #[.bool (cDone arg xs ys), .int .i64 0]) ∧ TwoAt w' pa ga pb gb (cXs arg xs ys) (cYs arg xs ys) ∧ Fr (fun k => k = ga ∨ k = gb) w w' := by
  have hmv := fun p => meth_len p
  have hm' : 1 ≤ xs.length ∧ xs.length ≤ 256 ∧ ys.length = xs.length := by simpa [mayB] using hm
  have la := h.a.row.lt
  have lb := h.b.row.lt
  obtain ⟨W3, hW3⟩ : ∃ W3, W3 = ((w.alloc (.cells #[vecv pa] 144)).alloc (.cells #[vecv pb] 144)).alloc (.cells #[.bool false] 4) := ⟨_, rfl⟩
  have F3 : Fr (fun _ => False) w W3 := by rw [hW3]; exact (((Fr.refl _ _).alloc _).alloc _).alloc _
  have T3 := three (w := w) (t1 := 144) (t2 := 144) (t3 := 4) (c1 := #[vecv pa]) (c2 := #[vecv pb]) (c3 := #[.bool false])
  rw [← hW3] at T3
  have B1 := T3.1
  have B2 := T3.2.1
  have B3 : Blk W3 (w.heap.size + 1 + 1) 4 #[.bool false] := T3.2.2
  clear T3
  have n0 := B3.lt
  have c0 : W3.cell? ⟨w.heap.size, 0, none⟩ = some (vecv pa) := (B1.cell 0).trans rfl
  have c1 : W3.cell? ⟨w.heap.size + 1, 0, none⟩ = some (vecv pb) := (B2.cell 0).trans rfl
  have c2 : W3.cell? ⟨w.heap.size + 1 + 1, 0, none⟩ = some (.bool false) := (B3.cell 0).trans rfl
  have f2 := B3.frozen 0
  have H3 := h.still F3
  have F4 : Fr (fun k => k = w.heap.size + 1 + 1) W3 (W3.setCell ⟨w.heap.size + 1 + 1, 0, none⟩ (.bool true)) := Fr.one _ _ _ _
  have H4 := H3.fr F4 (by have := h.a.head.lt; omega) (by omega) (by have := h.b.head.lt; omega) (by omega)
  have B4 : Blk (W3.setCell ⟨w.heap.size + 1 + 1, 0, none⟩ (.bool true)) (w.heap.size + 1 + 1) 4 #[.bool true] := B3.set_ 0 (.bool true)
  have key := commit_key (ca := w.heap.size) (cb := w.heap.size + 1) (cd := w.heap.size + 1 + 1) _ H4 hm'.2.2 hm'.2.1 arg (F4.cell c0 (by simp only []; omega)) (F4.cell c1 (by simp only []; omega)) B4 (by omega) (by omega) (by omega) (by omega) (by omega) (by omega) (by omega) (by omega)
  have CK := check_any H3
  rw [hm] at CK
  have HL := hide (len_any H4.a)
  have HC := hide CK
  have HK := hide key
  have HF := hide ((F3.mono (S' := fun k => k = ga ∨ k = gb) (fun _ h => h.elim)).trans F4 (fun _ h => .inr (by omega)))
  unfold vecv at *
  clear key CK H3 h F3 F4 H4 B1 B2 B3 B4 hm hm'
  generalize cDone arg xs ys = dn at *
  go_enter Tryz.func48, Tryz.ntmps48
  go_wp2_with fail
  go_at_call 42
  rw [← hW3]
  refine HC.out.mono ?_
  rintro e w1 ⟨rfl, rfl⟩
  clear hW3
  unfold errB
  go_wp2_with fail
  go_at_call 154
  refine HL.out.mono ?_
  rintro e w1 ⟨rfl, rfl⟩
  go_wp2_with fail
  go_at_call 87
  refine HK.out.mono ?_
  rintro e w1 ⟨rfl, hT, hB, hF⟩
  have q0 : w1.cell? ⟨w.heap.size + 1 + 1, 0, none⟩ = some (.bool dn) := (hB.cell 0).trans rfl
  have q1 := hB.frozen 0
  have e0 : (w1.setCell ⟨w.heap.size + 1 + 1, 0, none⟩ (.bool dn)).cell? ⟨w.heap.size + 1 + 1, 0, none⟩ = some (.bool dn) := ((hB.set_ 0 (.bool dn)).cell 0).trans rfl
  have F5 : Fr (fun k => k = w.heap.size + 1 + 1) w1 (w1.setCell ⟨w.heap.size + 1 + 1, 0, none⟩ (.bool dn)) := Fr.one _ _ _ _
  have lpa := hT.a.head
  have H1 := hide (hT.fr F5 (hT.a.head.ne_ hB (by decide)) (by omega) (hT.b.head.ne_ hB (by decide)) (by omega))
  have H2 := hide ((HF.out.trans hF (by rintro k (h | h | h); exact .inl (.inl h); exact .inl (.inr h); exact .inr (by omega))).trans F5 (fun k h => .inr (by omega)))
  clear hT hF hB F5 lpa
  cases dn
  all_goals
    go_wp2
    refine bodyPost_ret (by simp [results, Tryz.results48, go_sem, e0]; try rfl) rfl ?_
    exact ⟨rfl, H1.out, H2.out⟩

theorem commit_bad (h : TwoAt w pa ga pb gb xs ys) (hm : mayB xs.length ys.length = false) (arg round : Int) :
    Calls Tryz.prog 48 #[vecv pa, vecv pb, .int .i64 arg, .int .i64 round] w fun e w' => e = .returned (.tuple #[.bool false, .int .i64 2]) ∧ Fr (fun _ => False) w w' := by
  obtain ⟨W3, hW3⟩ : ∃ W3, W3 = ((w.alloc (.cells #[vecv pa] 144)).alloc (.cells #[vecv pb] 144)).alloc (.cells #[.bool false] 4) := ⟨_, rfl⟩
  have F3 : Fr (fun _ => False) w W3 := by rw [hW3]; exact (((Fr.refl _ _).alloc _).alloc _).alloc _
  have T3 := three (w := w) (t1 := 144) (t2 := 144) (t3 := 4) (c1 := #[vecv pa]) (c2 := #[vecv pb]) (c3 := #[.bool false])
  rw [← hW3] at T3
  have B1 := T3.1
  have B2 := T3.2.1
  have B3 : Blk W3 (w.heap.size + 1 + 1) 4 #[.bool false] := T3.2.2
  clear T3
  have c2 : W3.cell? ⟨w.heap.size + 1 + 1, 0, none⟩ = some (.bool false) := (B3.cell 0).trans rfl
  have f2 := B3.frozen 0
  have e0 : (W3.setCell ⟨w.heap.size + 1 + 1, 0, none⟩ (.bool false)).cell? ⟨w.heap.size + 1 + 1, 0, none⟩ = some (.bool false) := ((B3.set_ 0 (.bool false)).cell 0).trans rfl
  have CK := check_any (h.still F3)
  rw [hm] at CK
  have HC := hide CK
  have HF := hide (F3.trans (Fr.one W3 (w.heap.size + 1 + 1) 0 (.bool false)) (fun k h => .inr (by omega)))
  unfold vecv at *
  clear CK h F3 B1 B2 B3 hm
  go_enter Tryz.func48, Tryz.ntmps48
  go_wp2_with fail
  go_at_call 42
  rw [← hW3]
  refine HC.out.mono ?_
  rintro e w1 ⟨rfl, rfl⟩
  clear hW3
  unfold errB
  go_wp2
  refine bodyPost_ret (by simp [results, Tryz.results48, go_sem, e0]; try rfl) rfl ?_
  exact ⟨rfl, HF.out⟩

theorem commit_nilA (p : Nat) (arg round : Int) :
    Calls Tryz.prog 48 #[.nilIface, vecv p, .int .i64 arg, .int .i64 round] w fun e w' => e = .returned (.tuple #[.bool false, .int .i64 1]) ∧ Fr (fun _ => False) w w' := by
  obtain ⟨W3, hW3⟩ : ∃ W3, W3 = ((w.alloc (.cells #[.nilIface] 144)).alloc (.cells #[vecv p] 144)).alloc (.cells #[.bool false] 4) := ⟨_, rfl⟩
  have F3 : Fr (fun _ => False) w W3 := by rw [hW3]; exact (((Fr.refl _ _).alloc _).alloc _).alloc _
  have T3 := three (w := w) (t1 := 144) (t2 := 144) (t3 := 4) (c1 := #[.nilIface]) (c2 := #[vecv p]) (c3 := #[.bool false])
  rw [← hW3] at T3
  have B1 := T3.1
  have B2 := T3.2.1
  have B3 : Blk W3 (w.heap.size + 1 + 1) 4 #[.bool false] := T3.2.2
  clear T3
  have c2 : W3.cell? ⟨w.heap.size + 1 + 1, 0, none⟩ = some (.bool false) := (B3.cell 0).trans rfl
  have f2 := B3.frozen 0
  have e0 : (W3.setCell ⟨w.heap.size + 1 + 1, 0, none⟩ (.bool false)).cell? ⟨w.heap.size + 1 + 1, 0, none⟩ = some (.bool false) := ((B3.set_ 0 (.bool false)).cell 0).trans rfl
  have HC := hide (check_nilA (vecv p) W3 (.inr ⟨p, rfl⟩))
  have HF := hide (F3.trans (Fr.one W3 (w.heap.size + 1 + 1) 0 (.bool false)) (fun k h => .inr (by omega)))
  unfold vecv at *
  clear F3 B1 B2 B3
  go_enter Tryz.func48, Tryz.ntmps48
  go_wp2_with fail
  go_at_call 42
  rw [← hW3]
  refine HC.out.mono ?_
  rintro e w1 ⟨rfl, rfl⟩
  clear hW3
  go_wp2
  refine bodyPost_ret (by simp [results, Tryz.results48, go_sem, e0]; try rfl) rfl ?_
  exact ⟨rfl, HF.out⟩
end
end Go.Proofs.YtjdbjahgimlhbaaGreat.bfs
end
section
set_option linter.unusedVariables false
set_option maxRecDepth 100000
namespace Go.Proofs.YtjdbjahgimlhbaaGreat.labels
open Go.RowKit

section
variable {w : World} {pa ga pb gb ca cb : Nat} {xs ys : List Nat}
theorem begin_step (h : TwoAt w pa ga pb gb xs ys) (hca : w.cell? ⟨ca, 0, none⟩ = some (vecv pa)) (hcb : w.cell? ⟨cb, 0, none⟩ = some (vecv pb)) (h1 : cb ≠ ga) (i : Nat) (hi : i < xs.length) (hi' : i < ys.length) :
    Calls Tryz.prog 97 #[.int .i64 i, .pointer (some ⟨ca, 0, none⟩), .pointer (some ⟨cb, 0, none⟩)] w fun e w' => e = .returned (.int .i64 0) ∧ TwoAt w' pa ga pb gb (xs.set i i) (ys.set i i) ∧ Fr (fun k => k = ga ∨ k = gb) w w' := by
  have hm := fun p => meth_set p
  unfold vecv at hca hcb
  have hl := h.a.len
  have hz3 : IntKind.u64.wrap (i : Int) = i := by simp [IntKind.wrap, IntKind.bits, IntKind.signed]; omega
  have H := hide h
  clear h
  go_enter Tryz.func97, Tryz.ntmps97
  go_wp2_with fail
  go_at_call 155
  refine (set_in H.out.a i i hi (by omega)).mono ?_
  rintro e w1 ⟨rfl, hp, hf⟩
  have hcb1 := hf.cell hcb h1
  have H1 := hide (H.out.setA hp hf)
  have HF := hide hf
  clear hp hf
  go_wp2_with fail
  go_at_call 155
  refine (set_in H1.out.b i i hi' (by omega)).mono ?_
  rintro e w2 ⟨rfl, hp, hf⟩
  have H2 := hide (H1.out.setB hp hf)
  have HF2 := hide ((HF.out.mono (S' := fun k => k = ga ∨ k = gb) (fun _ h => .inl h)).trans hf (fun _ h => .inl (.inr h)))
  clear hp hf
  go_wp2
  go_ret
  exact ⟨rfl, H2.out, HF2.out⟩

def okArg (arg : Int) : Bool := decide (arg = 0)
def bX (n : Nat) : List Nat := (List.range n).map fun i => i
def bY (n : Nat) : List Nat := (List.range n).map fun i => i

theorem begin_ok (h : TwoAt w pa ga pb gb xs ys) (hm : mayB xs.length ys.length = true) (arg : Int) (ha : okArg arg = true) :
    Calls Tryz.prog 56 #[vecv pa, vecv pb, .int .i64 arg] w fun e w' => e = .returned (.int .i64 0) ∧ TwoAt w' pa ga pb gb (bX xs.length) (bY xs.length) ∧ Fr (fun k => k = ga ∨ k = gb) w w' := by
  have hmv := fun p => meth_len p
  have hm' : 1 ≤ xs.length ∧ xs.length ≤ 256 ∧ ys.length = xs.length := by simpa [mayB] using hm
  obtain rfl : arg = 0 := by simpa [okArg] using ha
  obtain ⟨W2, hW2⟩ : ∃ W2, W2 = (w.alloc (.cells #[vecv pa] 153)).alloc (.cells #[vecv pb] 153) := ⟨_, rfl⟩
  have F2 : Fr (fun _ => False) w W2 := by rw [hW2]; exact ((Fr.refl _ _).alloc _).alloc _
  have c0 : W2.cell? ⟨w.heap.size, 0, none⟩ = some (vecv pa) := by rw [hW2]; simp
  have c1 : W2.cell? ⟨w.heap.size + 1, 0, none⟩ = some (vecv pb) := by rw [hW2]; simp
  have H2 := h.still F2
  have la := h.a.row.lt
  have lb := h.b.row.lt
  have key : Calls Tryz.prog 87 #[.int .i64 xs.length, .func (.func 97) #[] #[.pointer (some ⟨w.heap.size, 0, none⟩), .pointer (some ⟨w.heap.size + 1, 0, none⟩)]] W2 fun e w' => e = .returned (.int .i64 0) ∧ TwoAt w' pa ga pb gb (bX xs.length) (bY xs.length) ∧ Fr (fun k => k = ga ∨ k = gb) W2 w' := by
    refine (each_any 97 (fun args w => by kernel_rfl) #[.pointer (some ⟨w.heap.size, 0, none⟩), .pointer (some ⟨w.heap.size + 1, 0, none⟩)] xs.length
      (fun i w' => TwoAt w' pa ga pb gb (pre (fun i => i) i xs) (pre (fun i => i) i ys) ∧ Fr (fun k => k = ga ∨ k = gb) W2 w') W2 ⟨by rw [pre_zero, pre_zero]; exact H2, Fr.refl _ _⟩ ?_ (by omega)).mono ?_
    · rintro i w' hi ⟨hT, hF⟩
      refine (begin_step hT (hF.cell c0 (by simp; omega)) (hF.cell c1 (by simp; omega)) (by omega) i (by rw [pre_len _ (by omega)]; omega) (by rw [pre_len _ (by omega)]; omega)).mono ?_
      rintro e w'' ⟨rfl, hT', hF'⟩
      rw [pre_set (fun i => i) hi, pre_set (fun i => i) (show i < ys.length by omega)] at hT'
      exact ⟨rfl, hT', hF.trans hF' (fun k h => .inl h)⟩
    · rintro e w' ⟨rfl, hT, hF⟩
      rw [pre_full _ rfl, pre_full _ hm'.2.2] at hT
      exact ⟨rfl, hT, hF⟩
  have CK := check_any H2
  rw [hm] at CK
  have LN := len_any H2.a
  have K : ∀ e w', (e = Ending.returned (.int .i64 0) ∧ TwoAt w' pa ga pb gb (bX xs.length) (bY xs.length) ∧ Fr (fun k => k = ga ∨ k = gb) W2 w') → (e = .returned (.int .i64 0) ∧ TwoAt w' pa ga pb gb (bX xs.length) (bY xs.length) ∧ Fr (fun k => k = ga ∨ k = gb) w w') := by
    rintro e w' ⟨h1, h2, h3⟩
    exact ⟨h1, h2, (F2.mono (fun _ h => h.elim)).trans h3 (fun k h => .inl h)⟩
  refine Calls.mono ?_ K
  have HL := hide LN
  have HC := hide CK
  have HK := hide key
  unfold vecv at *
  clear K key CK LN H2 h F2 hm hm' ha
  go_enter Tryz.func56, Tryz.ntmps56
  go_wp2_with fail
  go_at_call 42
  rw [← hW2]
  refine HC.out.mono ?_
  rintro e w1 ⟨rfl, rfl⟩
  clear hW2
  unfold errB
  go_wp2_with fail
  go_at_call 154
  refine HL.out.mono ?_
  rintro e w1 ⟨rfl, rfl⟩
  go_wp2_with fail
  go_at_call 87
  refine HK.out.mono ?_
  rintro e w1 ⟨rfl, hT, hF⟩
  have H1 := hide hT
  have H2 := hide hF
  clear hT hF
  go_wp2
  go_ret
  exact ⟨rfl, H1.out, H2.out⟩

theorem begin_bad (h : TwoAt w pa ga pb gb xs ys) (arg : Int) (ha : (mayB xs.length ys.length && okArg arg) = false) :
    Calls Tryz.prog 56 #[vecv pa, vecv pb, .int .i64 arg] w fun e w' => e = .returned (.int .i64 2) ∧ Fr (fun _ => False) w w' := by
  obtain ⟨W2, hW2⟩ : ∃ W2, W2 = (w.alloc (.cells #[vecv pa] 153)).alloc (.cells #[vecv pb] 153) := ⟨_, rfl⟩
  have F2 : Fr (fun _ => False) w W2 := by rw [hW2]; exact ((Fr.refl _ _).alloc _).alloc _
  have H2 := h.still F2
  have CK := check_any H2
  have HF := hide F2
  by_cases hm : mayB xs.length ys.length = true
  · rw [hm] at CK
    have HC := hide CK
    have ha' : (arg != 0) = true := by
      simp [hm, okArg] at ha
      simpa using ha
    unfold vecv at *
    clear CK H2 h F2 hm ha
    go_enter Tryz.func56, Tryz.ntmps56
    go_wp2_with fail
    go_at_call 42
    rw [← hW2]
    refine HC.out.mono ?_
    rintro e w1 ⟨rfl, rfl⟩
    clear hW2
    unfold errB
    go_wp2
    all_goals go_ret
    all_goals exact ⟨rfl, HF.out⟩
  · have hm' : mayB xs.length ys.length = false := by simpa using hm
    rw [hm'] at CK
    have HC := hide CK
    unfold vecv at *
    clear CK H2 h F2 hm hm' ha
    go_enter Tryz.func56, Tryz.ntmps56
    go_wp2_with fail
    go_at_call 42
    rw [← hW2]
    refine HC.out.mono ?_
    rintro e w1 ⟨rfl, rfl⟩
    clear hW2
    unfold errB
    go_wp2
    go_ret
    exact ⟨rfl, HF.out⟩

/-- one edge taken in, both ways -/
def stepV (s : List Nat) (v x : Nat) : List Nat := s.set v (min (s.getD v 0) x)
theorem stepV_len (s : List Nat) (v x : Nat) : (stepV s v x).length = s.length := by simp [stepV]
def step (xs : List Nat) (s : List Nat) (e : Int × Int × Nat) : List Nat := stepV (stepV s e.2.1.toNat (xs.getD e.1.toNat 0)) e.1.toNat (xs.getD e.2.1.toNat 0)
theorem step_len (xs s : List Nat) (e : Int × Int × Nat) : (step xs s e).length = s.length := by simp [step, stepV]

theorem shard_step (h : TwoAt w pa ga pb gb xs ys) (hca : w.cell? ⟨ca, 0, none⟩ = some (vecv pa)) (hcb : w.cell? ⟨cb, 0, none⟩ = some (vecv pb)) (u v many : Nat) (hu : u < xs.length) (hv : v < ys.length) (hm0 : 1 ≤ many) (hm1 : many ≤ 9223372036854775807) (hne : cb ≠ gb) (hna : ca ≠ gb) (hlen : ys.length = xs.length) :
    Calls Tryz.prog 98 #[.int .i64 u, .int .i64 v, .int .i64 many, .pointer (some ⟨ca, 0, none⟩), .pointer (some ⟨cb, 0, none⟩)] w fun e w' => e = .returned (.int .i64 0) ∧ TwoAt w' pa ga pb gb xs (step xs ys (u, v, many)) ∧ Fr (fun k => k = gb) w w' := by
  have hmg := fun p => meth_get p
  unfold vecv at hca hcb
  have hx := h.a.lt _ (show xs.getD u 0 ∈ xs by simp [List.getD, hu])
  have hz := h.a.lt _ (show xs.getD v 0 ∈ xs by simp [List.getD, show v < xs.length by omega])
  have SV : step xs ys (u, v, many) = stepV (stepV ys v (xs.getD u 0)) u (xs.getD v 0) := by simp [step]
  rw [SV]
  have H := hide h
  have GU := hide (fun w' (hf : Fr (fun k => k = gb) w w') => get_in (h.a.fr hf h.pa_gb h.ne) u hu)
  have GV := hide (fun w' (hf : Fr (fun k => k = gb) w w') => get_in (h.a.fr hf h.pa_gb h.ne) v (show v < xs.length by omega))
  have lb := h.b.row.lt
  clear h SV
  generalize xs.getD u 0 = x at *
  generalize xs.getD v 0 = z at *
  have hca' : ∀ o, (w.alloc o).cell? ⟨ca, 0, none⟩ = some (.iface 67 (.pointer (some ⟨pa, 0, none⟩))) := fun o => ((Fr.refl (fun _ => False) w).alloc o).cell hca id
  have hcb' : ∀ o, (w.alloc o).cell? ⟨cb, 0, none⟩ = some (.iface 67 (.pointer (some ⟨pb, 0, none⟩))) := fun o => ((Fr.refl (fun _ => False) w).alloc o).cell hcb id
  have hi0 : ∀ w, (Instr.index 155 (.agg #[.int .i64 u, .int .i64 v, .int .i64 v, .int .i64 u]) (.int .i64 0)).run Tryz.prog w = .ok (.agg #[.int .i64 u, .int .i64 v]) w := by intro w; kernel_rfl
  have hi1 : ∀ w, (Instr.index 155 (.agg #[.int .i64 u, .int .i64 v, .int .i64 v, .int .i64 u]) (.int .i64 1)).run Tryz.prog w = .ok (.agg #[.int .i64 v, .int .i64 u]) w := by intro w; kernel_rfl
  go_enter Tryz.func98, Tryz.ntmps98
  go_wp2_with fail
  refine wp_loop_rounds 3 ?_
  rw [rounds_succ]
  go_wp2_with fail
  go_at_call 153
  refine (GU.out _ ((Fr.refl _ _).alloc _)).mono ?_
  rintro e w1 ⟨rfl, rfl⟩
  go_wp2_with fail
  go_at_call 92
  refine (less_any (H.out.still ((Fr.refl _ _).alloc _)).b v x hv hx).mono ?_
  rintro e w2 ⟨rfl, hP, hf⟩
  have F2 : Fr (fun k => k = gb) w w2 := (((Fr.refl (fun _ => False) w).alloc _).mono (fun _ h => h.elim)).trans hf (fun _ h => .inl h)
  have hP2 := hide (show PlainAt w2 pb gb (stepV ys v x) from hP)
  have HF2 := hide F2
  have lb2 : gb < w2.heap.size := Nat.lt_of_lt_of_le lb F2.size
  have d0 : ∀ o, (w2.alloc o).cell? ⟨ca, 0, none⟩ = some (.iface 67 (.pointer (some ⟨pa, 0, none⟩))) := fun o => (F2.alloc o).cell hca hna
  have d1 : ∀ o, (w2.alloc o).cell? ⟨cb, 0, none⟩ = some (.iface 67 (.pointer (some ⟨pb, 0, none⟩))) := fun o => (F2.alloc o).cell hcb hne
  clear hP hf F2 hca' hcb'
  go_wp2_with fail
  rw [rounds_succ]
  go_wp2_with fail
  go_at_call 153
  refine (GV.out _ (HF2.out.alloc _)).mono ?_
  rintro e w3 ⟨rfl, rfl⟩
  go_wp2_with fail
  go_at_call 92
  refine (less_any (hP2.out.fr ((Fr.refl (fun _ => False) w2).alloc _) id id) u z (by rw [stepV_len]; omega) hz).mono ?_
  rintro e w4 ⟨rfl, hP, hf⟩
  have F4 : Fr (fun k => k = gb) w w4 := (HF2.out.alloc _).trans hf (fun _ h => .inl h)
  have HT := hide (show TwoAt w4 pa ga pb gb xs (stepV (stepV ys v x) u z) from H.out.setB hP F4)
  have HF4 := hide F4
  clear hP hf F4 d0 d1
  go_wp2_with fail
  rw [rounds_succ]
  go_wp2
  go_ret
  exact ⟨rfl, HT.out, HF4.out⟩

section
variable {fr to : Int} {m c : Nat} {A : Option Addr} {vs : List Value} {L : List (List Int)}
theorem held4 {w w' : World} {p : Addr} {r : Nat} {u x y z : Value} (h : w.cell? p = some u ∧ w.cell? ⟨r, 0, none⟩ = some x ∧ w.cell? ⟨r, 1, none⟩ = some y ∧ w.cell? ⟨r, 2, none⟩ = some z) (hf : Fr (fun _ => False) w w') :
    w'.cell? p = some u ∧ w'.cell? ⟨r, 0, none⟩ = some x ∧ w'.cell? ⟨r, 1, none⟩ = some y ∧ w'.cell? ⟨r, 2, none⟩ = some z := ⟨hf.cell h.1 id, hf.cell h.2.1 id, hf.cell h.2.2.1 id, hf.cell h.2.2.2 id⟩
theorem three {w : World} {t1 t2 t3 : TypeId} {c1 c2 c3 : Array Value} :
    Blk (((w.alloc (.cells c1 t1)).alloc (.cells c2 t2)).alloc (.cells c3 t3)) w.heap.size t1 c1 ∧ Blk (((w.alloc (.cells c1 t1)).alloc (.cells c2 t2)).alloc (.cells c3 t3)) (w.heap.size + 1) t2 c2 ∧ Blk (((w.alloc (.cells c1 t1)).alloc (.cells c2 t2)).alloc (.cells c3 t3)) (w.heap.size + 2) t3 c3 := by
  refine ⟨((Blk.new w t1 c1).alloc _).alloc _, ?_, ?_⟩
  · have := (Blk.new (w.alloc (.cells c1 t1)) t2 c2).alloc (.cells c3 t3)
    simpa using this
  · have := Blk.new ((w.alloc (.cells c1 t1)).alloc (.cells c2 t2)) t3 c3
    simpa using this

theorem shard_ok (h : TwoAt w pa ga pb gb xs ys) (hm : mayB xs.length ys.length = true) (stay : ∀ w', Fr (fun k => k = gb) w w' → LsAt w' vs A m L) (hfit : fitsB fr to xs.length L = true) (round : Int) (hr : 0 ≤ round) :
    Calls Tryz.prog 58 #[vecv pa, vecv pb, .agg #[.int .i64 fr, .int .i64 to, .slice A m c], .int .i64 round] w fun e w' => e = .returned (.int .i64 0) ∧ TwoAt w' pa ga pb gb xs ((edgs fr L).foldl (step xs) ys) ∧ Fr (fun k => k = gb) w w' := by
  have hmv := fun p => meth_len p
  have hm' : 1 ≤ xs.length ∧ xs.length ≤ 256 ∧ ys.length = xs.length := by simpa [mayB] using hm
  have hf' : (0 ≤ fr ∧ fr ≤ to ∧ to ≤ (xs.length : Int) ∧ (L.length : Int) = to - fr) ∧ okLs xs.length L = true := by simpa [fitsB] using hfit
  have la := h.a.row.lt
  have lb := h.b.row.lt
  have ls := stay w (Fr.refl _ _)
  have key : ∀ w1, Fr (fun _ => False) w w1 → w1.cell? ⟨w.heap.size, 0, none⟩ = some (vecv pa) → w1.cell? ⟨w.heap.size + 1, 0, none⟩ = some (vecv pb) →
      Calls Tryz.prog 90 #[.agg #[.int .i64 fr, .int .i64 to, .slice A m c], .func (.func 98) #[] #[.pointer (some ⟨w.heap.size, 0, none⟩), .pointer (some ⟨w.heap.size + 1, 0, none⟩)]] w1 fun e w' => e = .returned (.int .i64 0) ∧ TwoAt w' pa ga pb gb xs ((edgs fr L).foldl (step xs) ys) ∧ Fr (fun k => k = gb) w w' := by
    intro w1 F1 c0 c1
    have G1 : Fr (fun _ => False) w (w1.alloc (.cells #[.int .i64 fr, .int .i64 to, .slice A m c] 43)) := F1.alloc _
    have l1 := World.block_lt_of_cell? w1 _ c0
    have l2 := World.block_lt_of_cell? w1 _ c1
    simp only at l1 l2
    refine (edges_any 98 (fun args w => by kernel_rfl) #[.pointer (some ⟨w.heap.size, 0, none⟩), .pointer (some ⟨w.heap.size + 1, 0, none⟩)] fr to m c A vs L w1 (step xs)
      (fun e => (0 ≤ e.1 ∧ e.1 < xs.length) ∧ (0 ≤ e.2.1 ∧ e.2.1 < xs.length) ∧ 1 ≤ e.2.2 ∧ e.2.2 ≤ 9223372036854775807)
      (fun s w' => TwoAt w' pa ga pb gb xs s ∧ s.length = ys.length ∧ Fr (fun k => k = gb) (w1.alloc (.cells #[.int .i64 fr, .int .i64 to, .slice A m c] 43)) w') ys
      hf'.1.1 (by have := ls.1; omega) ls.1 (edgs_ok L fr hf'.2 hf'.1.1 (by omega) ls.lens) ⟨h.still G1, rfl, Fr.refl _ _⟩ ?_ ?_).mono ?_
    · rintro s w' ⟨hT, _, hF⟩
      exact ⟨stay w' ((G1.mono (fun _ h => h.elim)).trans hF (fun _ h => .inl h)), hF.cell (by simp) (by simp; omega)⟩
    · rintro s ⟨u, v, many⟩ w' ⟨⟨hu0, hu⟩, ⟨hv0, hv⟩, hk0, hk1⟩ ⟨hT, hL, hF⟩
      simp only at hu0 hu hv0 hv hk0 hk1
      obtain ⟨u, rfl⟩ := Int.eq_ofNat_of_zero_le hu0
      obtain ⟨v, rfl⟩ := Int.eq_ofNat_of_zero_le hv0
      have d0 := hF.cell ((held_alloc' w1 (.cells #[.int .i64 fr, .int .i64 to, .slice A m c] 43)).cell c0 id) (by simp; omega)
      have d1 := hF.cell ((held_alloc' w1 (.cells #[.int .i64 fr, .int .i64 to, .slice A m c] 43)).cell c1 id) (by simp; omega)
      refine (shard_step hT d0 d1 u v many (by omega) (by omega) hk0 hk1 (by omega) (by omega) (by omega)).mono ?_
      rintro e w'' ⟨rfl, hT', hF'⟩
      exact ⟨rfl, hT', (step_len _ _ _).trans hL, hF.trans hF' (fun _ h => .inl h)⟩
    · rintro e w' ⟨rfl, hT, _, hF⟩
      exact ⟨rfl, hT, (G1.mono (fun _ h => h.elim)).trans hF (fun _ h => .inl h)⟩
  obtain ⟨W3, hW3⟩ : ∃ W3, W3 = ((w.alloc (.cells #[vecv pa] 153)).alloc (.cells #[vecv pb] 153)).alloc (.cells #[.int .i64 fr, .int .i64 to, .slice A m c] 43) := ⟨_, rfl⟩
  have F3 : Fr (fun _ => False) w W3 := by rw [hW3]; exact (((Fr.refl _ _).alloc _).alloc _).alloc _
  have T3 := three (w := w) (t1 := 153) (t2 := 153) (t3 := 43) (c1 := #[vecv pa]) (c2 := #[vecv pb]) (c3 := #[.int .i64 fr, .int .i64 to, .slice A m c])
  rw [← hW3] at T3
  have c0 : W3.cell? ⟨w.heap.size, 0, none⟩ = some (vecv pa) := (T3.1.cell 0).trans rfl
  have c1 : W3.cell? ⟨w.heap.size + 1, 0, none⟩ = some (vecv pb) := (T3.2.1.cell 0).trans rfl
  have s0 : W3.cell? ⟨w.heap.size + 2, 0, none⟩ = some (.int .i64 fr) := (T3.2.2.cell 0).trans rfl
  have s1 : W3.cell? ⟨w.heap.size + 2, 1, none⟩ = some (.int .i64 to) := (T3.2.2.cell 1).trans rfl
  have s2 : W3.cell? ⟨w.heap.size + 2, 2, none⟩ = some (.slice A m c) := (T3.2.2.cell 2).trans rfl
  clear T3
  have H3 := h.still F3
  have CK := check_any H3
  rw [hm] at CK
  have FT := fits_any fr to xs.length m c A L W3.drew ((ls.up F3).up (held_drew W3)).lists hm'.2.1
  rw [hfit] at FT
  have HC := hide CK
  have HT := hide FT
  have HK := hide key
  have HL := hide (len_any (H3.still (held_drew W3)).a)
  have HF := hide F3
  unfold vecv at *
  clear key CK FT H3 h F3 hm hm' hf' hfit stay ls
  go_enter Tryz.func58, Tryz.ntmps58
  go_wp2_with fail
  go_at_call 42
  rw [← hW3]
  refine HC.out.mono ?_
  rintro e w1 ⟨rfl, rfl⟩
  clear hW3
  unfold errB at *
  go_wp2_with fail
  go_region_held3 (fun w' => w'.cell? ⟨w.heap.size, 0, none⟩ = some (.iface 67 (.pointer (some ⟨pa, 0, none⟩))) ∧ w'.cell? ⟨w.heap.size + 2, 0, none⟩ = some (.int .i64 fr) ∧ w'.cell? ⟨w.heap.size + 2, 1, none⟩ = some (.int .i64 to) ∧ w'.cell? ⟨w.heap.size + 2, 2, none⟩ = some (.slice A m c))
    (first | exact ⟨c0, s0, s1, s2⟩ | assumption | exact held4 (by assumption) hf | exact held4 (w := W3.drew) ⟨c0, s0, s1, s2⟩ hf)
    (first
      | (go_at_call 154; refine HL.out.mono ?_; rintro e w1 ⟨rfl, rfl⟩)
      | (go_at_call 89; refine HT.out.mono ?_; rintro e w1 ⟨rfl, hf⟩))
  rename_i hH
  have d0 := hH.1
  have d1 := hf.cell (w := W3.drew) c1 id
  have e0 : w1.cell? ⟨w.heap.size + 1 + 1, 0, none⟩ = some (.int .i64 fr) := hH.2.1
  have e1 : w1.cell? ⟨w.heap.size + 1 + 1, 1, none⟩ = some (.int .i64 to) := hH.2.2.1
  have e2 : w1.cell? ⟨w.heap.size + 1 + 1, 2, none⟩ = some (.slice A m c) := hH.2.2.2
  have HG := hide ((HF.out.then_ (held_drew _)).then_ hf)
  have HE := hide (HK.out w1 HG.out d0 d1)
  clear hH hf c0 c1 s0 s1 s2 HK HL
  go_wp2_with fail
  go_at_call 90
  refine HE.out.mono ?_
  rintro e w2 ⟨rfl, hT, hF⟩
  have H1 := hide hT
  have H2 := hide hF
  clear hT hF
  go_wp2
  go_ret
  exact ⟨rfl, H1.out, H2.out⟩
end

section
variable {fr to : Int} {m c : Nat} {A : Option Addr} {L : List (List Int)}
theorem shard_bad (h : TwoAt w pa ga pb gb xs ys) (hl : ListsAt w w.heap.size A m L) (round : Int) (hbad : (mayB xs.length ys.length && fitsB fr to xs.length L && decide (0 ≤ round)) = false) :
    Calls Tryz.prog 58 #[vecv pa, vecv pb, .agg #[.int .i64 fr, .int .i64 to, .slice A m c], .int .i64 round] w fun e w' => e = .returned (.int .i64 2) ∧ Fr (fun _ => False) w w' := by
  have hmv := fun p => meth_len p
  have hx := h.a.len
  obtain ⟨W3, hW3⟩ : ∃ W3, W3 = ((w.alloc (.cells #[vecv pa] 153)).alloc (.cells #[vecv pb] 153)).alloc (.cells #[.int .i64 fr, .int .i64 to, .slice A m c] 43) := ⟨_, rfl⟩
  have F3 : Fr (fun _ => False) w W3 := by rw [hW3]; exact (((Fr.refl _ _).alloc _).alloc _).alloc _
  have T3 := three (w := w) (t1 := 153) (t2 := 153) (t3 := 43) (c1 := #[vecv pa]) (c2 := #[vecv pb]) (c3 := #[.int .i64 fr, .int .i64 to, .slice A m c])
  rw [← hW3] at T3
  have c0 : W3.cell? ⟨w.heap.size, 0, none⟩ = some (vecv pa) := (T3.1.cell 0).trans rfl
  have s0 : W3.cell? ⟨w.heap.size + 2, 0, none⟩ = some (.int .i64 fr) := (T3.2.2.cell 0).trans rfl
  have s1 : W3.cell? ⟨w.heap.size + 2, 1, none⟩ = some (.int .i64 to) := (T3.2.2.cell 1).trans rfl
  have s2 : W3.cell? ⟨w.heap.size + 2, 2, none⟩ = some (.slice A m c) := (T3.2.2.cell 2).trans rfl
  clear T3
  have H3 := h.still F3
  have CK := check_any H3
  have HF := hide F3
  by_cases hm : mayB xs.length ys.length = true
  · rw [hm] at CK
    have FT := fits_any fr to xs.length m c A L W3.drew ((hl.up F3).up (held_drew W3)) hx
    have HL := hide (len_any (H3.still (held_drew W3)).a)
    by_cases hfit : fitsB fr to xs.length L = true
    · have hr : round < 0 := by simpa [hm, hfit] using hbad
      rw [hfit] at FT
      have HC := hide CK
      have HT := hide FT
      unfold vecv at *
      clear CK FT H3 h F3 hm hfit hl hbad
      go_enter Tryz.func58, Tryz.ntmps58
      go_wp2_with fail
      go_at_call 42
      rw [← hW3]
      refine HC.out.mono ?_
      rintro e w1 ⟨rfl, rfl⟩
      clear hW3
      unfold errB at *
      go_wp2_with fail
      go_region_held3 (fun w' => w'.cell? ⟨w.heap.size, 0, none⟩ = some (.iface 67 (.pointer (some ⟨pa, 0, none⟩))) ∧ w'.cell? ⟨w.heap.size + 2, 0, none⟩ = some (.int .i64 fr) ∧ w'.cell? ⟨w.heap.size + 2, 1, none⟩ = some (.int .i64 to) ∧ w'.cell? ⟨w.heap.size + 2, 2, none⟩ = some (.slice A m c))
        (first | exact ⟨c0, s0, s1, s2⟩ | assumption | exact held4 (by assumption) hf | exact held4 (w := W3.drew) ⟨c0, s0, s1, s2⟩ hf)
        (first
          | (go_at_call 154; refine HL.out.mono ?_; rintro e w1 ⟨rfl, rfl⟩)
          | (go_at_call 89; refine HT.out.mono ?_; rintro e w1 ⟨rfl, hf⟩))
      have HG := hide ((HF.out.then_ (held_drew _)).then_ hf)
      clear hf c0 s0 s1 s2 HL
      go_wp2
      go_ret
      exact ⟨rfl, HG.out⟩
    · have hfit' : fitsB fr to xs.length L = false := by simpa using hfit
      rw [hfit'] at FT
      have HC := hide CK
      have HT := hide FT
      unfold vecv at *
      clear CK FT H3 h F3 hm hfit hfit' hl hbad
      go_enter Tryz.func58, Tryz.ntmps58
      go_wp2_with fail
      go_at_call 42
      rw [← hW3]
      refine HC.out.mono ?_
      rintro e w1 ⟨rfl, rfl⟩
      clear hW3
      unfold errB at *
      go_wp2_with fail
      go_region_held3 (fun w' => w'.cell? ⟨w.heap.size, 0, none⟩ = some (.iface 67 (.pointer (some ⟨pa, 0, none⟩))) ∧ w'.cell? ⟨w.heap.size + 2, 0, none⟩ = some (.int .i64 fr) ∧ w'.cell? ⟨w.heap.size + 2, 1, none⟩ = some (.int .i64 to) ∧ w'.cell? ⟨w.heap.size + 2, 2, none⟩ = some (.slice A m c))
        (first | exact ⟨c0, s0, s1, s2⟩ | assumption | exact held4 (by assumption) hf | exact held4 (w := W3.drew) ⟨c0, s0, s1, s2⟩ hf)
        (first
          | (go_at_call 154; refine HL.out.mono ?_; rintro e w1 ⟨rfl, rfl⟩)
          | (go_at_call 89; refine HT.out.mono ?_; rintro e w1 ⟨rfl, hf⟩))
      have HG := hide ((HF.out.then_ (held_drew _)).then_ hf)
      clear hf c0 s0 s1 s2 HL
      go_wp2
      go_ret
      exact ⟨rfl, HG.out⟩
  · have hm' : mayB xs.length ys.length = false := by simpa using hm
    rw [hm'] at CK
    have HC := hide CK
    unfold vecv at *
    clear CK H3 h F3 hm hm' hbad hl c0 s0 s1 s2
    go_enter Tryz.func58, Tryz.ntmps58
    go_wp2_with fail
    go_at_call 42
    rw [← hW3]
    refine HC.out.mono ?_
    rintro e w1 ⟨rfl, rfl⟩
    clear hW3
    unfold errB
    go_wp2
    go_ret
    exact ⟨rfl, HF.out⟩
end

/-- who is none is refused -/
theorem begin_nilA (p : Nat) (arg : Int) : Calls Tryz.prog 56 #[.nilIface, vecv p, .int .i64 arg] w fun e w' => e = .returned (.int .i64 1) ∧ Fr (fun _ => False) w w' := by
  have HC := hide (fun w => check_nilA (vecv p) w (.inr ⟨p, rfl⟩))
  unfold vecv at *
  go_enter Tryz.func56, Tryz.ntmps56
  go_wp2_with fail
  go_at_call 42
  refine (HC.out _).mono ?_
  rintro e w1 ⟨rfl, rfl⟩
  go_wp2
  go_ret
  exact ⟨rfl, ((Fr.refl _ _).alloc _).alloc _⟩
theorem begin_nilB (p : Nat) (arg : Int) : Calls Tryz.prog 56 #[vecv p, .nilIface, .int .i64 arg] w fun e w' => e = .returned (.int .i64 1) ∧ Fr (fun _ => False) w w' := by
  have HC := hide (fun w => check_nilB p w)
  unfold vecv at *
  go_enter Tryz.func56, Tryz.ntmps56
  go_wp2_with fail
  go_at_call 42
  refine (HC.out _).mono ?_
  rintro e w1 ⟨rfl, rfl⟩
  go_wp2
  go_ret
  exact ⟨rfl, ((Fr.refl _ _).alloc _).alloc _⟩
theorem begin_empty {p g : Nat} (h : PlainAt w p g []) (arg : Int) : Calls Tryz.prog 56 #[vecv p, vecv p, .int .i64 arg] w fun e w' => e = .returned (.int .i64 2) ∧ Fr (fun _ => False) w w' := by
  have HC := hide (fun w' (hf : Fr (fun _ => False) w w') => check_empty (h.fr hf id id))
  have HF := hide (((Fr.refl (fun _ => False) w).alloc (.cells #[vecv p] 153)).alloc (.cells #[vecv p] 153))
  unfold vecv at *
  clear h
  go_enter Tryz.func56, Tryz.ntmps56
  go_wp2_with fail
  go_at_call 42
  refine (HC.out _ HF.out).mono ?_
  rintro e w1 ⟨rfl, rfl⟩
  go_wp2
  go_ret
  exact ⟨rfl, HF.out⟩
theorem shard_nilB (p : Nat) (a : Array Value) (round : Int) (ha : a.size = 3) : Calls Tryz.prog 58 #[vecv p, .nilIface, .agg a, .int .i64 round] w fun e w' => e = .returned (.int .i64 1) ∧ Fr (fun _ => False) w w' := by
  have HC := hide (fun w => check_nilB p w)
  unfold vecv at *
  go_enter Tryz.func58, Tryz.ntmps58
  go_wp2_with fail
  go_at_call 42
  refine (HC.out _).mono ?_
  rintro e w1 ⟨rfl, rfl⟩
  go_wp2
  go_ret
  exact ⟨rfl, (((Fr.refl _ _).alloc _).alloc _).alloc _⟩
end
end Go.Proofs.YtjdbjahgimlhbaaGreat.labels
end
section
set_option linter.unusedVariables false
set_option maxRecDepth 100000
namespace Go.Proofs.YtjdbjahgimlhbaaGreat.labels
open Go.RowKit

section
variable {w : World} {pa ga pb gb ca cb cg cd : Nat} {xs ys : List Nat}
def cX (arg : Int) (x y : Nat) : Nat := min x y
def cY (arg : Int) (x y : Nat) : Nat := y
def cD (arg : Int) (x y : Nat) : Bool := decide (y < x)
theorem commit_step (h : TwoAt w pa ga pb gb xs ys) (arg : Int) (hca : w.cell? ⟨ca, 0, none⟩ = some (vecv pa)) (hcb : w.cell? ⟨cb, 0, none⟩ = some (vecv pb)) (d : Bool) (hd : Blk w cd 4 #[.bool d])
    (n1 : ca ≠ ga) (n2 : ca ≠ gb) (n3 : cb ≠ ga) (n4 : cb ≠ gb) (n5 : ca ≠ cd) (n6 : cb ≠ cd) (n7 : cd ≠ ga) (n8 : cd ≠ gb) (i : Nat) (hi : i < xs.length) (hi' : i < ys.length) :
    Calls Tryz.prog 99 #[.int .i64 i, .pointer (some ⟨cb, 0, none⟩), .pointer (some ⟨ca, 0, none⟩), .pointer (some ⟨cd, 0, none⟩)] w fun e w' => e = .returned (.int .i64 0) ∧ TwoAt w' pa ga pb gb (xs.set i (cX arg (xs.getD i 0) (ys.getD i 0))) (ys.set i (cY arg (xs.getD i 0) (ys.getD i 0))) ∧ Blk w' cd 4 #[.bool (d && !cD arg (xs.getD i 0) (ys.getD i 0))] ∧ Fr (fun k => k = ga ∨ k = gb ∨ k = cd) w w' := by
  have hm := fun p => meth_set p
  have hg := fun p => meth_get p
  have hy := h.b.lt _ (show ys.getD i 0 ∈ ys by simp [List.getD, hi'])
  have e1 : ys.set i (cY arg (xs.getD i 0) (ys.getD i 0)) = ys := set_same ys i
  rw [e1]
  unfold vecv at hca hcb
  have H := hide h
  have GB := hide (get_in h.b i hi')
  have HL := hide (less_any h.a i (ys.getD i 0) hi hy)
  have HD := hide hd
  have HCX : Hid (xs.set i (cX arg (xs.getD i 0) (ys.getD i 0)) = xs.set i (min (xs.getD i 0) (ys.getD i 0))) := rfl
  have hcd : cD arg (xs.getD i 0) (ys.getD i 0) = decide (ys.getD i 0 < xs.getD i 0) := rfl
  rw [hcd]
  generalize decide (ys.getD i 0 < xs.getD i 0) = b at *
  generalize xs.set i (cX arg (xs.getD i 0) (ys.getD i 0)) = zs at *
  clear h hd e1 hcd
  have HZ := HCX.out
  subst HZ
  clear HCX
  unfold vecv at HL
  generalize ys.getD i 0 = y at *
  generalize xs.set i (min (xs.getD i 0) y) = zs at *
  go_enter Tryz.func99, Tryz.ntmps99
  go_wp2_with fail
  go_at_call 153
  refine GB.out.mono ?_
  rintro e w1 ⟨rfl, rfl⟩
  go_wp2_with fail
  go_at_call 92
  refine HL.out.mono ?_
  rintro e w1 ⟨rfl, hp, hf⟩
  have hB := HD.out.fr hf n7
  have q0 : w1.cell? ⟨cd, 0, none⟩ = some (.bool d) := (hB.cell 0).trans rfl
  have q1 := hB.frozen 0
  have HN : Hid (∀ z : Bool, z = (d && !b) → TwoAt (w1.setCell ⟨cd, 0, none⟩ (.bool z)) pa ga pb gb zs ys ∧ Blk (w1.setCell ⟨cd, 0, none⟩ (.bool z)) cd 4 #[.bool (d && !b)] ∧ Fr (fun k => k = ga ∨ k = gb ∨ k = cd) w (w1.setCell ⟨cd, 0, none⟩ (.bool z))) := by
    rintro z rfl
    have hT := H.out.setA hp hf
    have F5 : Fr (fun k => k = cd) w1 (w1.setCell ⟨cd, 0, none⟩ (.bool (d && !b))) := Fr.one _ _ _ _
    exact ⟨hT.fr F5 (hT.a.head.ne_ hB (by decide)) (fun e => n7 e.symm) (hT.b.head.ne_ hB (by decide)) (fun e => n8 e.symm), hB.set_ 0 _, (hf.mono (fun k h => .inl h)).trans F5 (fun k h => .inl (.inr (.inr h)))⟩
  clear hB hp hf H HL GB HD
  cases d <;> cases b
  all_goals
    go_wp2
    go_ret
    exact ⟨rfl, HN.out _ rfl⟩
def cXs (arg : Int) (xs ys : List Nat) : List Nat := (List.range xs.length).map fun i => cX arg (xs.getD i 0) (ys.getD i 0)
def cYs (arg : Int) (xs ys : List Nat) : List Nat := (List.range xs.length).map fun i => cY arg (xs.getD i 0) (ys.getD i 0)
def cAll (arg : Int) (xs ys : List Nat) (k : Nat) : Bool := (List.range k).all fun i => !cD arg (xs.getD i 0) (ys.getD i 0)
theorem cAll_succ (arg : Int) (xs ys : List Nat) (k : Nat) : cAll arg xs ys (k + 1) = (cAll arg xs ys k && !cD arg (xs.getD k 0) (ys.getD k 0)) := by
  simp [cAll, List.range_succ]
def cDone (arg : Int) (xs ys : List Nat) : Bool := cAll arg xs ys xs.length

theorem commit_key (w1 : World) (h : TwoAt w1 pa ga pb gb xs ys) (hlen : ys.length = xs.length) (h256 : xs.length ≤ 256) (arg : Int) (c0 : w1.cell? ⟨ca, 0, none⟩ = some (vecv pa)) (c1 : w1.cell? ⟨cb, 0, none⟩ = some (vecv pb)) (b : Blk w1 cd 4 #[.bool true])
    (n1 : ca ≠ ga) (n2 : ca ≠ gb) (n3 : cb ≠ ga) (n4 : cb ≠ gb) (n5 : ca ≠ cd) (n6 : cb ≠ cd) (n7 : cd ≠ ga) (n8 : cd ≠ gb) :
    Calls Tryz.prog 87 #[.int .i64 xs.length, .func (.func 99) #[] #[.pointer (some ⟨cb, 0, none⟩), .pointer (some ⟨ca, 0, none⟩), .pointer (some ⟨cd, 0, none⟩)]] w1 fun e w' => e = .returned (.int .i64 0) ∧ TwoAt w' pa ga pb gb (cXs arg xs ys) (cYs arg xs ys) ∧ Blk w' cd 4 #[.bool (cDone arg xs ys)] ∧ Fr (fun k => k = ga ∨ k = gb ∨ k = cd) w1 w' := by
  have nn1 : ga ≠ cd := fun e => n7 e.symm
  have nn2 : gb ≠ cd := fun e => n8 e.symm
  refine (each_any 99 (fun args w => by kernel_rfl) #[.pointer (some ⟨cb, 0, none⟩), .pointer (some ⟨ca, 0, none⟩), .pointer (some ⟨cd, 0, none⟩)] xs.length
    (fun i w' => TwoAt w' pa ga pb gb (pre (fun i => cX arg (xs.getD i 0) (ys.getD i 0)) i xs) (pre (fun i => cY arg (xs.getD i 0) (ys.getD i 0)) i ys) ∧ Blk w' cd 4 #[.bool (cAll arg xs ys i)] ∧ Fr (fun k => k = ga ∨ k = gb ∨ k = cd) w1 w') w1 ⟨by rw [pre_zero, pre_zero]; exact h, b, Fr.refl _ _⟩ ?_ h256).mono ?_
  · rintro i w' hi ⟨hT, hB, hF⟩
    refine (commit_step hT arg (hF.cell c0 (by simp only []; omega)) (hF.cell c1 (by simp only []; omega)) _ hB n1 n2 n3 n4 n5 n6 n7 n8 i (by rw [pre_len _ (by omega)]; omega) (by rw [pre_len _ (by omega)]; omega)).mono ?_
    rintro e w'' ⟨rfl, hT', hB', hF'⟩
    rw [pre_get (fun i => cX arg (xs.getD i 0) (ys.getD i 0)) hi, pre_get (fun i => cY arg (xs.getD i 0) (ys.getD i 0)) (show i < ys.length by omega)] at hT' hB'
    rw [pre_set (fun i => cX arg (xs.getD i 0) (ys.getD i 0)) hi, pre_set (fun i => cY arg (xs.getD i 0) (ys.getD i 0)) (show i < ys.length by omega)] at hT'
    rw [← cAll_succ] at hB'
    exact ⟨rfl, hT', hB', hF.trans hF' (fun k h => .inl h)⟩
  · rintro e w' ⟨rfl, hT, hB, hF⟩
    rw [pre_full _ rfl, pre_full _ hlen] at hT
    exact ⟨rfl, hT, hB, hF⟩

theorem commit_ok (h : TwoAt w pa ga pb gb xs ys) (hm : mayB xs.length ys.length = true) (arg round : Int) :
    Calls Tryz.prog 60 #[vecv pa, vecv pb, .int .i64 arg, .int .i64 round] w fun e w' => e = .returned (.tuple #[.bool (cDone arg xs ys), .int .i64 0]) ∧ TwoAt w' pa ga pb gb (cXs arg xs ys) (cYs arg xs ys) ∧ Fr (fun k => k = ga ∨ k = gb) w w' := by
  have hmv := fun p => meth_len p
  have hm' : 1 ≤ xs.length ∧ xs.length ≤ 256 ∧ ys.length = xs.length := by simpa [mayB] using hm
  have la := h.a.row.lt
  have lb := h.b.row.lt
  obtain ⟨W3, hW3⟩ : ∃ W3, W3 = ((w.alloc (.cells #[vecv pa] 153)).alloc (.cells #[vecv pb] 153)).alloc (.cells #[.bool false] 4) := ⟨_, rfl⟩
  have F3 : Fr (fun _ => False) w W3 := by rw [hW3]; exact (((Fr.refl _ _).alloc _).alloc _).alloc _
  have T3 := three (w := w) (t1 := 153) (t2 := 153) (t3 := 4) (c1 := #[vecv pa]) (c2 := #[vecv pb]) (c3 := #[.bool false])
  rw [← hW3] at T3
  have B1 := T3.1
  have B2 := T3.2.1
  have B3 : Blk W3 (w.heap.size + 1 + 1) 4 #[.bool false] := T3.2.2
  clear T3
  have n0 := B3.lt
  have c0 : W3.cell? ⟨w.heap.size, 0, none⟩ = some (vecv pa) := (B1.cell 0).trans rfl
  have c1 : W3.cell? ⟨w.heap.size + 1, 0, none⟩ = some (vecv pb) := (B2.cell 0).trans rfl
  have c2 : W3.cell? ⟨w.heap.size + 1 + 1, 0, none⟩ = some (.bool false) := (B3.cell 0).trans rfl
  have f2 := B3.frozen 0
  have H3 := h.still F3
  have F4 : Fr (fun k => k = w.heap.size + 1 + 1) W3 (W3.setCell ⟨w.heap.size + 1 + 1, 0, none⟩ (.bool true)) := Fr.one _ _ _ _
  have H4 := H3.fr F4 (by have := h.a.head.lt; omega) (by omega) (by have := h.b.head.lt; omega) (by omega)
  have B4 : Blk (W3.setCell ⟨w.heap.size + 1 + 1, 0, none⟩ (.bool true)) (w.heap.size + 1 + 1) 4 #[.bool true] := B3.set_ 0 (.bool true)
  have key := commit_key (ca := w.heap.size) (cb := w.heap.size + 1) (cd := w.heap.size + 1 + 1) _ H4 hm'.2.2 hm'.2.1 arg (F4.cell c0 (by simp only []; omega)) (F4.cell c1 (by simp only []; omega)) B4 (by omega) (by omega) (by omega) (by omega) (by omega) (by omega) (by omega) (by omega)
  have CK := check_any H3
  rw [hm] at CK
  have HL := hide (len_any H4.a)
  have HC := hide CK
  have HK := hide key
  have HF := hide ((F3.mono (S' := fun k => k = ga ∨ k = gb) (fun _ h => h.elim)).trans F4 (fun _ h => .inr (by omega)))
  unfold vecv at *
  clear key CK H3 h F3 F4 H4 B1 B2 B3 B4 hm hm'
  generalize cDone arg xs ys = dn at *
  go_enter Tryz.func60, Tryz.ntmps60
  go_wp2_with fail
  go_at_call 42
  rw [← hW3]
  refine HC.out.mono ?_
  rintro e w1 ⟨rfl, rfl⟩
  clear hW3
  unfold errB
  go_wp2_with fail
  go_at_call 154
  refine HL.out.mono ?_
  rintro e w1 ⟨rfl, rfl⟩
  go_wp2_with fail
  go_at_call 87
  refine HK.out.mono ?_
  rintro e w1 ⟨rfl, hT, hB, hF⟩
  have q0 : w1.cell? ⟨w.heap.size + 1 + 1, 0, none⟩ = some (.bool dn) := (hB.cell 0).trans rfl
  have q1 := hB.frozen 0
  have e0 : (w1.setCell ⟨w.heap.size + 1 + 1, 0, none⟩ (.bool dn)).cell? ⟨w.heap.size + 1 + 1, 0, none⟩ = some (.bool dn) := ((hB.set_ 0 (.bool dn)).cell 0).trans rfl
  have F5 : Fr (fun k => k = w.heap.size + 1 + 1) w1 (w1.setCell ⟨w.heap.size + 1 + 1, 0, none⟩ (.bool dn)) := Fr.one _ _ _ _
  have lpa := hT.a.head
  have H1 := hide (hT.fr F5 (hT.a.head.ne_ hB (by decide)) (by omega) (hT.b.head.ne_ hB (by decide)) (by omega))
  have H2 := hide ((HF.out.trans hF (by rintro k (h | h | h); exact .inl (.inl h); exact .inl (.inr h); exact .inr (by omega))).trans F5 (fun k h => .inr (by omega)))
  clear hT hF hB F5 lpa
  cases dn
  all_goals
    go_wp2
    refine bodyPost_ret (by simp [results, Tryz.results60, go_sem, e0]; try rfl) rfl ?_
    exact ⟨rfl, H1.out, H2.out⟩

theorem commit_bad (h : TwoAt w pa ga pb gb xs ys) (hm : mayB xs.length ys.length = false) (arg round : Int) :
    Calls Tryz.prog 60 #[vecv pa, vecv pb, .int .i64 arg, .int .i64 round] w fun e w' => e = .returned (.tuple #[.bool false, .int .i64 2]) ∧ Fr (fun _ => False) w w' := by
  obtain ⟨W3, hW3⟩ : ∃ W3, W3 = ((w.alloc (.cells #[vecv pa] 153)).alloc (.cells #[vecv pb] 153)).alloc (.cells #[.bool false] 4) := ⟨_, rfl⟩
  have F3 : Fr (fun _ => False) w W3 := by rw [hW3]; exact (((Fr.refl _ _).alloc _).alloc _).alloc _
  have T3 := three (w := w) (t1 := 153) (t2 := 153) (t3 := 4) (c1 := #[vecv pa]) (c2 := #[vecv pb]) (c3 := #[.bool false])
  rw [← hW3] at T3
  have B1 := T3.1
  have B2 := T3.2.1
  have B3 : Blk W3 (w.heap.size + 1 + 1) 4 #[.bool false] := T3.2.2
  clear T3
  have c2 : W3.cell? ⟨w.heap.size + 1 + 1, 0, none⟩ = some (.bool false) := (B3.cell 0).trans rfl
  have f2 := B3.frozen 0
  have e0 : (W3.setCell ⟨w.heap.size + 1 + 1, 0, none⟩ (.bool false)).cell? ⟨w.heap.size + 1 + 1, 0, none⟩ = some (.bool false) := ((B3.set_ 0 (.bool false)).cell 0).trans rfl
  have CK := check_any (h.still F3)
  rw [hm] at CK
  have HC := hide CK
  have HF := hide (F3.trans (Fr.one W3 (w.heap.size + 1 + 1) 0 (.bool false)) (fun k h => .inr (by omega)))
  unfold vecv at *
  clear CK h F3 B1 B2 B3 hm
  go_enter Tryz.func60, Tryz.ntmps60
  go_wp2_with fail
  go_at_call 42
  rw [← hW3]
  refine HC.out.mono ?_
  rintro e w1 ⟨rfl, rfl⟩
  clear hW3
  unfold errB
  go_wp2
  refine bodyPost_ret (by simp [results, Tryz.results60, go_sem, e0]; try rfl) rfl ?_
  exact ⟨rfl, HF.out⟩

theorem commit_nilA (p : Nat) (arg round : Int) :
    Calls Tryz.prog 60 #[.nilIface, vecv p, .int .i64 arg, .int .i64 round] w fun e w' => e = .returned (.tuple #[.bool false, .int .i64 1]) ∧ Fr (fun _ => False) w w' := by
  obtain ⟨W3, hW3⟩ : ∃ W3, W3 = ((w.alloc (.cells #[.nilIface] 153)).alloc (.cells #[vecv p] 153)).alloc (.cells #[.bool false] 4) := ⟨_, rfl⟩
  have F3 : Fr (fun _ => False) w W3 := by rw [hW3]; exact (((Fr.refl _ _).alloc _).alloc _).alloc _
  have T3 := three (w := w) (t1 := 153) (t2 := 153) (t3 := 4) (c1 := #[.nilIface]) (c2 := #[vecv p]) (c3 := #[.bool false])
  rw [← hW3] at T3
  have B1 := T3.1
  have B2 := T3.2.1
  have B3 : Blk W3 (w.heap.size + 1 + 1) 4 #[.bool false] := T3.2.2
  clear T3
  have c2 : W3.cell? ⟨w.heap.size + 1 + 1, 0, none⟩ = some (.bool false) := (B3.cell 0).trans rfl
  have f2 := B3.frozen 0
  have e0 : (W3.setCell ⟨w.heap.size + 1 + 1, 0, none⟩ (.bool false)).cell? ⟨w.heap.size + 1 + 1, 0, none⟩ = some (.bool false) := ((B3.set_ 0 (.bool false)).cell 0).trans rfl
  have HC := hide (check_nilA (vecv p) W3 (.inr ⟨p, rfl⟩))
  have HF := hide (F3.trans (Fr.one W3 (w.heap.size + 1 + 1) 0 (.bool false)) (fun k h => .inr (by omega)))
  unfold vecv at *
  clear F3 B1 B2 B3
  go_enter Tryz.func60, Tryz.ntmps60
  go_wp2_with fail
  go_at_call 42
  rw [← hW3]
  refine HC.out.mono ?_
  rintro e w1 ⟨rfl, rfl⟩
  clear hW3
  go_wp2
  refine bodyPost_ret (by simp [results, Tryz.results60, go_sem, e0]; try rfl) rfl ?_
  exact ⟨rfl, HF.out⟩
end
end Go.Proofs.YtjdbjahgimlhbaaGreat.labels
end
