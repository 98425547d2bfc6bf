/- Cores, the program's Commit, by contract. -/
import Derived.Test.YtjdbjahgimlhbaaCores
set_option linter.unusedVariables false
set_option maxRecDepth 100000
namespace Go.Proofs.Ytjdbjahgimlhbaa.cores
open Go.RowKit

section
variable {w : World} {pa ga pb gb ca cb cg cd : Nat} {xs ys : List Nat}
def cD (arg : Int) (x y : Nat) : Bool := decide (x ≠ 0 ∧ 0 < arg ∧ (y : Int) < arg)
def cX (arg : Int) (x y : Nat) : Nat := if cD arg x y then 0 else x
def cY (arg : Int) (x y : Nat) : Nat := 0
set_option maxHeartbeats 1600000 in
theorem commit_step (h : TwoAt w pa ga pb gb xs ys) (arg : Int) (hca : w.cell? ⟨ca, 0, none⟩ = some (vecv pa)) (hcb : w.cell? ⟨cb, 0, none⟩ = some (vecv pb)) (hcg : w.cell? ⟨cg, 0, none⟩ = some (.int .i64 arg)) (d : Bool) (hd : Blk w cd 4 #[.bool d])
    (n1 : ca ≠ ga) (n2 : ca ≠ gb) (n3 : cb ≠ ga) (n4 : cb ≠ gb) (n5 : ca ≠ cd) (n6 : cb ≠ cd) (n7 : cd ≠ ga) (n8 : cd ≠ gb) (n9 : cg ≠ ga) (n10 : cg ≠ gb) (n11 : cg ≠ cd) (i : Nat) (hi : i < xs.length) (hi' : i < ys.length) (hmx : arg ≤ 9223372036854775807) :
    Calls Try.prog 72 #[.int .i64 i, .pointer (some ⟨ca, 0, none⟩), .pointer (some ⟨cb, 0, none⟩), .pointer (some ⟨cg, 0, none⟩), .pointer (some ⟨cd, 0, none⟩)] w fun e w' => e = .returned (.int .i64 0) ∧ TwoAt w' pa ga pb gb (xs.set i (cX arg (xs.getD i 0) (ys.getD i 0))) (ys.set i (cY arg (xs.getD i 0) (ys.getD i 0))) ∧ Blk w' cd 4 #[.bool (d && !cD arg (xs.getD i 0) (ys.getD i 0))] ∧ Fr (fun k => k = ga ∨ k = gb ∨ k = cd) w w' := by
  have hm := fun p => meth_set p
  have hx := h.a.lt _ (show xs.getD i 0 ∈ xs by simp [List.getD, hi])
  have hy := h.b.lt _ (show ys.getD i 0 ∈ ys by simp [List.getD, hi'])
  have HX := hide hx
  have HY := hide hy
  have H := hide h
  have G2 := hide (two_any h i hi hi')
  have HD := hide hd
  have n7' : ga ≠ cd := fun e => n7 e.symm
  have n8' : gb ≠ cd := fun e => n8 e.symm
  have hcx : cX arg (xs.getD i 0) (ys.getD i 0) = if cD arg (xs.getD i 0) (ys.getD i 0) then 0 else xs.getD i 0 := rfl
  have hcy : cY arg (xs.getD i 0) (ys.getD i 0) = 0 := rfl
  rw [hcx, hcy]
  have hss := set_same xs i
  unfold vecv at *
  generalize hxx : xs.getD i 0 = x at *
  generalize hyy : ys.getD i 0 = y at *
  clear h hd hcx hcy hxx hyy hx hy
  have hq0 : w.cell? ⟨cd, 0, none⟩ = some (.bool d) := (HD.out.cell 0).trans rfl
  have hq1 := HD.out.frozen 0
  by_cases hD : cD arg x y = true
  · have hD' : x ≠ 0 ∧ 0 < arg ∧ (y : Int) < arg := of_decide_eq_true hD
    obtain ⟨hx0, ha0, hya⟩ := hD'
    rw [hD]
    simp only [if_true, Bool.not_true, Bool.and_false]
    have hbx : ((x : Int) != 0) = true := bneT (by omega)
    have hz3 : IntKind.u64.wrap arg = arg := by simp [IntKind.wrap, IntKind.bits, IntKind.signed]; omega
    have F0 : Fr (fun k => k = cd) w (w.setCell ⟨cd, 0, none⟩ (.bool false)) := Fr.one _ _ _ _
    have HB := hide (show Blk (w.setCell ⟨cd, 0, none⟩ (.bool false)) cd 4 #[.bool false] from HD.out.set_ 0 _)
    have HT0 := hide (H.out.fr F0 (H.out.a.head.ne_ HD.out (by decide)) n7' (H.out.b.head.ne_ HD.out (by decide)) n8')
    have c0 := F0.cell hca n5
    have c1 := F0.cell hcb n6
    have HF0 := hide F0
    clear hss hD hx0 F0
    go_enter Try.func72, Try.ntmps72
    go_wp2_with fail
    go_at_call 73
    refine G2.out.mono ?_
    rintro e w1 ⟨rfl, rfl⟩
    go_wp2_with fail
    go_at_call 24
    refine (set_in HT0.out.a i 0 hi (by omega)).mono ?_
    rintro e w1 ⟨rfl, hp, hf⟩
    have HT1 := hide (HT0.out.setA hp hf)
    have HB1 := hide (HB.out.fr hf n7)
    have hcb1 := hf.cell c1 n3
    have HF1 := hide ((HF0.out.mono (S' := fun k => k = ga ∨ k = gb ∨ k = cd) (fun k h => .inr (.inr h))).trans hf (fun k h => .inl (.inl h)))
    clear hp hf c0 c1 HT0 HB HF0
    go_wp2_with fail
    go_at_call 24
    refine (set_in HT1.out.b i 0 hi' (by omega)).mono ?_
    rintro e w2 ⟨rfl, hp, hf⟩
    have HT2 := hide (HT1.out.setB hp hf)
    have HB2 := hide (HB1.out.fr hf n8)
    have HF2 := hide (HF1.out.trans hf (fun k h => .inl (.inr (.inl h))))
    clear hp hf
    go_wp2
    go_ret
    exact ⟨rfl, HT2.out, HB2.out, HF2.out⟩
  · have hD0 : cD arg x y = false := by simpa using hD
    have hD' : ¬ (x ≠ 0 ∧ 0 < arg ∧ (y : Int) < arg) := of_decide_eq_false hD0
    rw [hD0]
    simp only [Bool.false_eq_true, if_false, Bool.not_false, Bool.and_true]
    rw [hss]
    have hc : x = 0 ∨ (x ≠ 0 ∧ arg ≤ 0) ∨ (x ≠ 0 ∧ 0 < arg ∧ arg ≤ y) := by omega
    have HS := hide (fun w' (h : Fr (fun _ => False) w w') => set_in (H.out.still h).b i 0 hi' (by omega))
    have HEND := hide (fun w2 (hp : PlainAt w2 pb gb (ys.set i 0)) (hf : Fr (fun k => k = gb) w w2) => show TwoAt w2 pa ga pb gb xs (ys.set i 0) ∧ Blk w2 cd 4 #[.bool d] ∧ Fr (fun k => k = ga ∨ k = gb ∨ k = cd) w w2 from ⟨H.out.setB hp hf, HD.out.fr hf n8, hf.mono (fun k h => .inr (.inl h))⟩)
    clear hss hD hD0 hD'
    rcases hc with hx0 | ⟨hx0, ha0⟩ | ⟨hx0, ha0, hya⟩
    · subst hx0
      go_enter Try.func72, Try.ntmps72
      go_wp2_with fail
      go_at_call 73
      refine G2.out.mono ?_
      rintro e w1 ⟨rfl, rfl⟩
      go_wp2_with fail
      go_at_call 24
      refine (HS.out w (Fr.refl _ _)).mono ?_
      rintro e w2 ⟨rfl, hp, hf⟩
      have HE := hide (HEND.out w2 hp hf)
      clear hp hf
      go_wp2
      go_ret
      exact ⟨rfl, HE.out⟩
    · have hbx : ((x : Int) != 0) = true := bneT (by omega)
      clear hx0
      go_enter Try.func72, Try.ntmps72
      go_wp2_with fail
      go_at_call 73
      refine G2.out.mono ?_
      rintro e w1 ⟨rfl, rfl⟩
      go_wp2_with fail
      go_at_call 24
      refine (HS.out w (Fr.refl _ _)).mono ?_
      rintro e w2 ⟨rfl, hp, hf⟩
      have HE := hide (HEND.out w2 hp hf)
      clear hp hf
      go_wp2
      go_ret
      exact ⟨rfl, HE.out⟩
    · have hbx : ((x : Int) != 0) = true := bneT (by omega)
      have hz3 : IntKind.u64.wrap arg = arg := by simp [IntKind.wrap, IntKind.bits, IntKind.signed]; omega
      clear hx0
      go_enter Try.func72, Try.ntmps72
      go_wp2_with fail
      go_at_call 73
      refine G2.out.mono ?_
      rintro e w1 ⟨rfl, rfl⟩
      go_wp2_with fail
      go_at_call 24
      refine (HS.out w (Fr.refl _ _)).mono ?_
      rintro e w2 ⟨rfl, hp, hf⟩
      have HE := hide (HEND.out w2 hp hf)
      clear hp hf
      go_wp2
      go_ret
      exact ⟨rfl, HE.out⟩
def cXs (arg : Int) (xs ys : List Nat) : List Nat := (List.range xs.length).map fun i => cX arg (xs.getD i 0) (ys.getD i 0)
def cYs (arg : Int) (xs ys : List Nat) : List Nat := (List.range xs.length).map fun i => cY arg (xs.getD i 0) (ys.getD i 0)
def cAll (arg : Int) (xs ys : List Nat) (k : Nat) : Bool := (List.range k).all fun i => !cD arg (xs.getD i 0) (ys.getD i 0)
theorem cAll_succ (arg : Int) (xs ys : List Nat) (k : Nat) : cAll arg xs ys (k + 1) = (cAll arg xs ys k && !cD arg (xs.getD k 0) (ys.getD k 0)) := by
  simp [cAll, List.range_succ]
def cDone (arg : Int) (xs ys : List Nat) : Bool := cAll arg xs ys xs.length

theorem commit_key (w1 : World) (h : TwoAt w1 pa ga pb gb xs ys) (hlen : ys.length = xs.length) (h256 : xs.length ≤ 256) (arg : Int) (c0 : w1.cell? ⟨ca, 0, none⟩ = some (vecv pa)) (c1 : w1.cell? ⟨cb, 0, none⟩ = some (vecv pb)) (cg0 : w1.cell? ⟨cg, 0, none⟩ = some (.int .i64 arg)) (b : Blk w1 cd 4 #[.bool true])
    (n1 : ca ≠ ga) (n2 : ca ≠ gb) (n3 : cb ≠ ga) (n4 : cb ≠ gb) (n5 : ca ≠ cd) (n6 : cb ≠ cd) (n7 : cd ≠ ga) (n8 : cd ≠ gb) (n9 : cg ≠ ga) (n10 : cg ≠ gb) (n11 : cg ≠ cd) (hmx : arg ≤ 9223372036854775807) :
    Calls Try.prog 54 #[.int .i64 xs.length, .func (.func 72) #[] #[.pointer (some ⟨ca, 0, none⟩), .pointer (some ⟨cb, 0, none⟩), .pointer (some ⟨cg, 0, none⟩), .pointer (some ⟨cd, 0, none⟩)]] w1 fun e w' => e = .returned (.int .i64 0) ∧ TwoAt w' pa ga pb gb (cXs arg xs ys) (cYs arg xs ys) ∧ Blk w' cd 4 #[.bool (cDone arg xs ys)] ∧ Fr (fun k => k = ga ∨ k = gb ∨ k = cd) w1 w' := by
  have nn1 : ga ≠ cd := fun e => n7 e.symm
  have nn2 : gb ≠ cd := fun e => n8 e.symm
  refine (each_any 72 (fun args w => by kernel_rfl) #[.pointer (some ⟨ca, 0, none⟩), .pointer (some ⟨cb, 0, none⟩), .pointer (some ⟨cg, 0, none⟩), .pointer (some ⟨cd, 0, none⟩)] xs.length
    (fun i w' => TwoAt w' pa ga pb gb (pre (fun i => cX arg (xs.getD i 0) (ys.getD i 0)) i xs) (pre (fun i => cY arg (xs.getD i 0) (ys.getD i 0)) i ys) ∧ Blk w' cd 4 #[.bool (cAll arg xs ys i)] ∧ Fr (fun k => k = ga ∨ k = gb ∨ k = cd) w1 w') w1 ⟨by rw [pre_zero, pre_zero]; exact h, b, Fr.refl _ _⟩ ?_ h256).mono ?_
  · rintro i w' hi ⟨hT, hB, hF⟩
    refine (commit_step hT arg (hF.cell c0 (by simp only []; omega)) (hF.cell c1 (by simp only []; omega)) (hF.cell cg0 (by simp only []; omega)) _ hB n1 n2 n3 n4 n5 n6 n7 n8 n9 n10 n11 i (by rw [pre_len _ (by omega)]; omega) (by rw [pre_len _ (by omega)]; omega) hmx).mono ?_
    rintro e w'' ⟨rfl, hT', hB', hF'⟩
    rw [pre_get (fun i => cX arg (xs.getD i 0) (ys.getD i 0)) hi, pre_get (fun i => cY arg (xs.getD i 0) (ys.getD i 0)) (show i < ys.length by omega)] at hT' hB'
    rw [pre_set (fun i => cX arg (xs.getD i 0) (ys.getD i 0)) hi, pre_set (fun i => cY arg (xs.getD i 0) (ys.getD i 0)) (show i < ys.length by omega)] at hT'
    rw [← cAll_succ] at hB'
    exact ⟨rfl, hT', hB', hF.trans hF' (fun k h => .inl h)⟩
  · rintro e w' ⟨rfl, hT, hB, hF⟩
    rw [pre_full _ rfl, pre_full _ hlen] at hT
    exact ⟨rfl, hT, hB, hF⟩

theorem commit_ok (h : TwoAt w pa ga pb gb xs ys) (hm : mayB xs.length ys.length = true) (arg round : Int) (hmx : arg ≤ 9223372036854775807) :
    Calls Try.prog 40 #[vecv pa, vecv pb, .int .i64 arg, .int .i64 round] w fun e w' => e = .returned (.tuple #[.bool (cDone arg xs ys), .int .i64 0]) ∧ TwoAt w' pa ga pb gb (cXs arg xs ys) (cYs arg xs ys) ∧ Fr (fun k => k = ga ∨ k = gb) w w' := by
  have hmv := fun p => meth_len p
  have hm' : 1 ≤ xs.length ∧ xs.length ≤ 256 ∧ ys.length = xs.length := by simpa [mayB] using hm
  have la := h.a.row.lt
  have lb := h.b.row.lt
  obtain ⟨W3, hW3⟩ : ∃ W3, W3 = (((w.alloc (.cells #[vecv pa] 118)).alloc (.cells #[vecv pb] 118)).alloc (.cells #[.int .i64 arg] 3)).alloc (.cells #[.bool false] 4) := ⟨_, rfl⟩
  have T3 := four W3 hW3
  have F3 := T3.1
  have B1 := T3.2.1
  have B2 := T3.2.2.1
  have cg0 : W3.cell? ⟨w.heap.size + 1 + 1, 0, none⟩ = some (.int .i64 arg) := (T3.2.2.2.1.cell 0).trans rfl
  have B3 : Blk W3 (w.heap.size + 1 + 1 + 1) 4 #[.bool false] := T3.2.2.2.2
  clear T3
  have n0 := B3.lt
  have c0 : W3.cell? ⟨w.heap.size, 0, none⟩ = some (vecv pa) := (B1.cell 0).trans rfl
  have c1 : W3.cell? ⟨w.heap.size + 1, 0, none⟩ = some (vecv pb) := (B2.cell 0).trans rfl
  have c2 : W3.cell? ⟨w.heap.size + 1 + 1 + 1, 0, none⟩ = some (.bool false) := (B3.cell 0).trans rfl
  have f2 := B3.frozen 0
  have H3 := h.still F3
  have F4 : Fr (fun k => k = w.heap.size + 1 + 1 + 1) W3 (W3.setCell ⟨w.heap.size + 1 + 1 + 1, 0, none⟩ (.bool true)) := Fr.one _ _ _ _
  have H4 := H3.fr F4 (by have := h.a.head.lt; omega) (by omega) (by have := h.b.head.lt; omega) (by omega)
  have B4 : Blk (W3.setCell ⟨w.heap.size + 1 + 1 + 1, 0, none⟩ (.bool true)) (w.heap.size + 1 + 1 + 1) 4 #[.bool true] := B3.set_ 0 (.bool true)
  have key := commit_key (ca := w.heap.size) (cb := w.heap.size + 1) (cg := w.heap.size + 1 + 1) (cd := w.heap.size + 1 + 1 + 1) _ H4 hm'.2.2 hm'.2.1 arg (F4.cell c0 (by simp only []; omega)) (F4.cell c1 (by simp only []; omega)) (F4.cell cg0 (by simp only []; omega)) B4 (by omega) (by omega) (by omega) (by omega) (by omega) (by omega) (by omega) (by omega) (by omega) (by omega) (by omega) hmx
  have CK := check_any H3
  rw [hm] at CK
  have HL := hide (len_any H4.a)
  have HC := hide CK
  have HK := hide key
  have HF := hide ((F3.mono (S' := fun k => k = ga ∨ k = gb) (fun _ h => h.elim)).trans F4 (fun _ h => .inr (by omega)))
  unfold vecv at *
  clear key CK H3 h F3 F4 H4 B1 B2 B3 B4 hm hm'
  generalize cDone arg xs ys = dn at *
  go_enter Try.func40, Try.ntmps40
  go_wp2_with fail
  go_at_call 53
  rw [← hW3]
  refine HC.out.mono ?_
  rintro e w1 ⟨rfl, rfl⟩
  clear hW3
  unfold errB
  go_wp2_with fail
  go_at_call 61
  refine HL.out.mono ?_
  rintro e w1 ⟨rfl, rfl⟩
  go_wp2_with fail
  go_at_call 54
  refine HK.out.mono ?_
  rintro e w1 ⟨rfl, hT, hB, hF⟩
  have q0 : w1.cell? ⟨w.heap.size + 1 + 1 + 1, 0, none⟩ = some (.bool dn) := (hB.cell 0).trans rfl
  have q1 := hB.frozen 0
  have e0 : (w1.setCell ⟨w.heap.size + 1 + 1 + 1, 0, none⟩ (.bool dn)).cell? ⟨w.heap.size + 1 + 1 + 1, 0, none⟩ = some (.bool dn) := ((hB.set_ 0 (.bool dn)).cell 0).trans rfl
  have F5 : Fr (fun k => k = w.heap.size + 1 + 1 + 1) w1 (w1.setCell ⟨w.heap.size + 1 + 1 + 1, 0, none⟩ (.bool dn)) := Fr.one _ _ _ _
  have lpa := hT.a.head
  have H1 := hide (hT.fr F5 (hT.a.head.ne_ hB (by decide)) (by omega) (hT.b.head.ne_ hB (by decide)) (by omega))
  have H2 := hide ((HF.out.trans hF (by rintro k (h | h | h); exact .inl (.inl h); exact .inl (.inr h); exact .inr (by omega))).trans F5 (fun k h => .inr (by omega)))
  clear hT hF hB F5 lpa
  cases dn
  all_goals
    go_wp2
    refine bodyPost_ret (by simp [results, Try.results40, go_sem, e0]; try rfl) rfl ?_
    exact ⟨rfl, H1.out, H2.out⟩

theorem commit_bad (h : TwoAt w pa ga pb gb xs ys) (hm : mayB xs.length ys.length = false) (arg round : Int) :
    Calls Try.prog 40 #[vecv pa, vecv pb, .int .i64 arg, .int .i64 round] w fun e w' => e = .returned (.tuple #[.bool false, .int .i64 2]) ∧ Fr (fun _ => False) w w' := by
  obtain ⟨W3, hW3⟩ : ∃ W3, W3 = (((w.alloc (.cells #[vecv pa] 118)).alloc (.cells #[vecv pb] 118)).alloc (.cells #[.int .i64 arg] 3)).alloc (.cells #[.bool false] 4) := ⟨_, rfl⟩
  have T3 := four W3 hW3
  have F3 := T3.1
  have B1 := T3.2.1
  have B2 := T3.2.2.1
  have cg0 : W3.cell? ⟨w.heap.size + 1 + 1, 0, none⟩ = some (.int .i64 arg) := (T3.2.2.2.1.cell 0).trans rfl
  have B3 : Blk W3 (w.heap.size + 1 + 1 + 1) 4 #[.bool false] := T3.2.2.2.2
  clear T3
  have c2 : W3.cell? ⟨w.heap.size + 1 + 1 + 1, 0, none⟩ = some (.bool false) := (B3.cell 0).trans rfl
  have f2 := B3.frozen 0
  have e0 : (W3.setCell ⟨w.heap.size + 1 + 1 + 1, 0, none⟩ (.bool false)).cell? ⟨w.heap.size + 1 + 1 + 1, 0, none⟩ = some (.bool false) := ((B3.set_ 0 (.bool false)).cell 0).trans rfl
  have CK := check_any (h.still F3)
  rw [hm] at CK
  have HC := hide CK
  have HF := hide (F3.trans (Fr.one W3 (w.heap.size + 1 + 1 + 1) 0 (.bool false)) (fun k h => .inr (by omega)))
  unfold vecv at *
  clear CK h F3 B1 B2 B3 hm
  go_enter Try.func40, Try.ntmps40
  go_wp2_with fail
  go_at_call 53
  rw [← hW3]
  refine HC.out.mono ?_
  rintro e w1 ⟨rfl, rfl⟩
  clear hW3
  unfold errB
  go_wp2
  refine bodyPost_ret (by simp [results, Try.results40, go_sem, e0]; try rfl) rfl ?_
  exact ⟨rfl, HF.out⟩

theorem commit_nilA (p : Nat) (arg round : Int) :
    Calls Try.prog 40 #[.nilIface, vecv p, .int .i64 arg, .int .i64 round] w fun e w' => e = .returned (.tuple #[.bool false, .int .i64 1]) ∧ Fr (fun _ => False) w w' := by
  obtain ⟨W3, hW3⟩ : ∃ W3, W3 = (((w.alloc (.cells #[.nilIface] 118)).alloc (.cells #[vecv p] 118)).alloc (.cells #[.int .i64 arg] 3)).alloc (.cells #[.bool false] 4) := ⟨_, rfl⟩
  have T3 := four W3 hW3
  have F3 := T3.1
  have B1 := T3.2.1
  have B2 := T3.2.2.1
  have B3 : Blk W3 (w.heap.size + 1 + 1 + 1) 4 #[.bool false] := T3.2.2.2.2
  clear T3
  have c2 : W3.cell? ⟨w.heap.size + 1 + 1 + 1, 0, none⟩ = some (.bool false) := (B3.cell 0).trans rfl
  have f2 := B3.frozen 0
  have e0 : (W3.setCell ⟨w.heap.size + 1 + 1 + 1, 0, none⟩ (.bool false)).cell? ⟨w.heap.size + 1 + 1 + 1, 0, none⟩ = some (.bool false) := ((B3.set_ 0 (.bool false)).cell 0).trans rfl
  have HC := hide (check_nilA (vecv p) W3 (.inr ⟨p, rfl⟩))
  have HF := hide (F3.trans (Fr.one W3 (w.heap.size + 1 + 1 + 1) 0 (.bool false)) (fun k h => .inr (by omega)))
  unfold vecv at *
  clear F3 B1 B2 B3
  go_enter Try.func40, Try.ntmps40
  go_wp2_with fail
  go_at_call 53
  rw [← hW3]
  refine HC.out.mono ?_
  rintro e w1 ⟨rfl, rfl⟩
  clear hW3
  go_wp2
  refine bodyPost_ret (by simp [results, Try.results40, go_sem, e0]; try rfl) rfl ?_
  exact ⟨rfl, HF.out⟩
end
end Go.Proofs.Ytjdbjahgimlhbaa.cores
