/- Parts of the proof of KernelsTruth: no conditions of their own. -/
import Derived.Test.YtjdbjahgimlhbaaGreatKernelsTruthPk5
import Derived.Test.YtjdbjahgimlhbaaGreatKernelsTruthPk6
import Derived.Test.YtjdbjahgimlhbaaGreatKernelsTruthPk7
import Derived.Deep.RegionHeld3
section
set_option linter.unusedVariables false
set_option maxRecDepth 100000
namespace Go.Proofs.YtjdbjahgimlhbaaGreat.cores
open Go.RowKit

section
variable {w : World} {pa ga pb gb ca cb : Nat} {xs ys : List Nat}
theorem begin_step (h : TwoAt w pa ga pb gb xs ys) (hca : w.cell? ⟨ca, 0, none⟩ = some (vecv pa)) (hcb : w.cell? ⟨cb, 0, none⟩ = some (vecv pb)) (h1 : cb ≠ ga) (i : Nat) (hi : i < xs.length) (hi' : i < ys.length) :
    Calls Tryz.prog 100 #[.int .i64 i, .pointer (some ⟨ca, 0, none⟩), .pointer (some ⟨cb, 0, none⟩)] w fun e w' => e = .returned (.int .i64 0) ∧ TwoAt w' pa ga pb gb (xs.set i 1) (ys.set i 0) ∧ Fr (fun k => k = ga ∨ k = gb) w w' := by
  have hm := fun p => meth_set p
  unfold vecv at hca hcb
  have H := hide h
  clear h
  go_enter Tryz.func100, Tryz.ntmps100
  go_wp2_with fail
  go_at_call 155
  refine (set_in H.out.a i 1 hi (by omega)).mono ?_
  rintro e w1 ⟨rfl, hp, hf⟩
  have hcb1 := hf.cell hcb h1
  have H1 := hide (H.out.setA hp hf)
  have HF := hide hf
  clear hp hf
  go_wp2_with fail
  go_at_call 155
  refine (set_in H1.out.b i 0 hi' (by omega)).mono ?_
  rintro e w2 ⟨rfl, hp, hf⟩
  have H2 := hide (H1.out.setB hp hf)
  have HF2 := hide ((HF.out.mono (S' := fun k => k = ga ∨ k = gb) (fun _ h => .inl h)).trans hf (fun _ h => .inl (.inr h)))
  clear hp hf
  go_wp2
  go_ret
  exact ⟨rfl, H2.out, HF2.out⟩

def okArg (arg : Int) : Bool := decide (0 ≤ arg ∧ arg ≤ 4096)
def bX (n : Nat) : List Nat := (List.range n).map fun _ => 1
def bY (n : Nat) : List Nat := (List.range n).map fun _ => 0

theorem begin_ok (h : TwoAt w pa ga pb gb xs ys) (hm : mayB xs.length ys.length = true) (arg : Int) (ha : okArg arg = true) :
    Calls Tryz.prog 62 #[vecv pa, vecv pb, .int .i64 arg] w fun e w' => e = .returned (.int .i64 0) ∧ TwoAt w' pa ga pb gb (bX xs.length) (bY xs.length) ∧ Fr (fun k => k = ga ∨ k = gb) w w' := by
  have hmv := fun p => meth_len p
  have hm' : 1 ≤ xs.length ∧ xs.length ≤ 256 ∧ ys.length = xs.length := by simpa [mayB] using hm
  have ha' : 0 ≤ arg ∧ arg ≤ 4096 := by simpa [okArg] using ha
  obtain ⟨ha1, ha2⟩ := ha'
  obtain ⟨W2, hW2⟩ : ∃ W2, W2 = (w.alloc (.cells #[vecv pa] 156)).alloc (.cells #[vecv pb] 156) := ⟨_, rfl⟩
  have F2 : Fr (fun _ => False) w W2 := by rw [hW2]; exact ((Fr.refl _ _).alloc _).alloc _
  have c0 : W2.cell? ⟨w.heap.size, 0, none⟩ = some (vecv pa) := by rw [hW2]; simp
  have c1 : W2.cell? ⟨w.heap.size + 1, 0, none⟩ = some (vecv pb) := by rw [hW2]; simp
  have H2 := h.still F2
  have la := h.a.row.lt
  have lb := h.b.row.lt
  have key : Calls Tryz.prog 87 #[.int .i64 xs.length, .func (.func 100) #[] #[.pointer (some ⟨w.heap.size, 0, none⟩), .pointer (some ⟨w.heap.size + 1, 0, none⟩)]] W2 fun e w' => e = .returned (.int .i64 0) ∧ TwoAt w' pa ga pb gb (bX xs.length) (bY xs.length) ∧ Fr (fun k => k = ga ∨ k = gb) W2 w' := by
    refine (each_any 100 (fun args w => by kernel_rfl) #[.pointer (some ⟨w.heap.size, 0, none⟩), .pointer (some ⟨w.heap.size + 1, 0, none⟩)] xs.length
      (fun i w' => TwoAt w' pa ga pb gb (pre (fun _ => 1) i xs) (pre (fun _ => 0) i ys) ∧ Fr (fun k => k = ga ∨ k = gb) W2 w') W2 ⟨by rw [pre_zero, pre_zero]; exact H2, Fr.refl _ _⟩ ?_ (by omega)).mono ?_
    · rintro i w' hi ⟨hT, hF⟩
      refine (begin_step hT (hF.cell c0 (by simp; omega)) (hF.cell c1 (by simp; omega)) (by omega) i (by rw [pre_len _ (by omega)]; omega) (by rw [pre_len _ (by omega)]; omega)).mono ?_
      rintro e w'' ⟨rfl, hT', hF'⟩
      rw [pre_set (fun _ => 1) hi, pre_set (fun _ => 0) (show i < ys.length by omega)] at hT'
      exact ⟨rfl, hT', hF.trans hF' (fun k h => .inl h)⟩
    · rintro e w' ⟨rfl, hT, hF⟩
      rw [pre_full _ rfl, pre_full _ hm'.2.2] at hT
      exact ⟨rfl, hT, hF⟩
  have CK := check_any H2
  rw [hm] at CK
  have LN := len_any H2.a
  have K : ∀ e w', (e = Ending.returned (.int .i64 0) ∧ TwoAt w' pa ga pb gb (bX xs.length) (bY xs.length) ∧ Fr (fun k => k = ga ∨ k = gb) W2 w') → (e = .returned (.int .i64 0) ∧ TwoAt w' pa ga pb gb (bX xs.length) (bY xs.length) ∧ Fr (fun k => k = ga ∨ k = gb) w w') := by
    rintro e w' ⟨h1, h2, h3⟩
    exact ⟨h1, h2, (F2.mono (fun _ h => h.elim)).trans h3 (fun k h => .inl h)⟩
  refine Calls.mono ?_ K
  have HL := hide LN
  have HC := hide CK
  have HK := hide key
  unfold vecv at *
  clear K key CK LN H2 h F2 hm hm' ha
  go_enter Tryz.func62, Tryz.ntmps62
  go_wp2_with fail
  go_at_call 42
  rw [← hW2]
  refine HC.out.mono ?_
  rintro e w1 ⟨rfl, rfl⟩
  clear hW2
  unfold errB
  go_wp2_with fail
  go_at_call 154
  refine HL.out.mono ?_
  rintro e w1 ⟨rfl, rfl⟩
  go_wp2_with fail
  go_at_call 87
  refine HK.out.mono ?_
  rintro e w1 ⟨rfl, hT, hF⟩
  have H1 := hide hT
  have H2 := hide hF
  clear hT hF
  go_wp2
  go_ret
  exact ⟨rfl, H1.out, H2.out⟩

theorem begin_bad (h : TwoAt w pa ga pb gb xs ys) (arg : Int) (ha : (mayB xs.length ys.length && okArg arg) = false) :
    Calls Tryz.prog 62 #[vecv pa, vecv pb, .int .i64 arg] w fun e w' => e = .returned (.int .i64 2) ∧ Fr (fun _ => False) w w' := by
  obtain ⟨W2, hW2⟩ : ∃ W2, W2 = (w.alloc (.cells #[vecv pa] 156)).alloc (.cells #[vecv pb] 156) := ⟨_, rfl⟩
  have F2 : Fr (fun _ => False) w W2 := by rw [hW2]; exact ((Fr.refl _ _).alloc _).alloc _
  have H2 := h.still F2
  have CK := check_any H2
  have HF := hide F2
  by_cases hm : mayB xs.length ys.length = true
  · rw [hm] at CK
    have HC := hide CK
    have ha' : arg < 0 ∨ 4096 < arg := by
      simp [hm, okArg] at ha
      omega
    unfold vecv at *
    clear CK H2 h F2 hm ha
    go_enter Tryz.func62, Tryz.ntmps62
    go_wp2_with fail
    go_at_call 42
    rw [← hW2]
    refine HC.out.mono ?_
    rintro e w1 ⟨rfl, rfl⟩
    clear hW2
    unfold errB
    rcases ha' with ha' | ha'
    · go_wp2
      go_ret
      exact ⟨rfl, HF.out⟩
    · go_wp2
      all_goals go_ret
      all_goals exact ⟨rfl, HF.out⟩
  · have hm' : mayB xs.length ys.length = false := by simpa using hm
    rw [hm'] at CK
    have HC := hide CK
    unfold vecv at *
    clear CK H2 h F2 hm hm' ha
    go_enter Tryz.func62, Tryz.ntmps62
    go_wp2_with fail
    go_at_call 42
    rw [← hW2]
    refine HC.out.mono ?_
    rintro e w1 ⟨rfl, rfl⟩
    clear hW2
    unfold errB
    go_wp2
    go_ret
    exact ⟨rfl, HF.out⟩

/-- one more at a place -/
def up (y : Nat) : Nat := (y + 1) % 18446744073709551616
theorem up_lt (y : Nat) : up y < 18446744073709551616 := Nat.mod_lt _ (by omega)
def inc (s : List Nat) (i : Nat) : List Nat := s.set i (up (s.getD i 0))
theorem inc_len (s : List Nat) (i : Nat) : (inc s i).length = s.length := by simp [inc]
/-- one edge taken in: if both are there -/
def both (xs : List Nat) (u v : Nat) : Bool := decide (xs.getD u 0 ≠ 0 ∧ xs.getD v 0 ≠ 0)
def step (xs : List Nat) (s : List Nat) (e : Int × Int × Nat) : List Nat := if both xs e.1.toNat e.2.1.toNat then inc (inc s e.1.toNat) e.2.1.toNat else s
theorem step_len (xs s : List Nat) (e : Int × Int × Nat) : (step xs s e).length = s.length := by unfold step; split <;> simp [inc_len]
theorem add_one (y : Nat) : IntKind.u64.wrap ((y : Int) + 1) = ((up y : Nat) : Int) := by
  simp [IntKind.wrap, IntKind.bits, IntKind.signed, up]

theorem more_any {p g : Nat} {xs : List Nat} {w : World} (h : PlainAt w p g xs) (i : Nat) (hi : i < xs.length) :
    Calls Tryz.prog 102 #[vecv p, .int .i64 i] w fun e w' => e = .returned (.int .i64 0) ∧ PlainAt w' p g (inc xs i) ∧ Fr (fun k => k = g) w w' := by
  have hms := fun p => meth_set p
  have hmg := fun p => meth_get p
  have H := hide h
  have G := hide (get_in h i hi)
  have SV : inc xs i = xs.set i (up (xs.getD i 0)) := rfl
  rw [SV]
  unfold vecv
  clear h SV
  generalize xs.getD i 0 = y at *
  go_enter Tryz.func102, Tryz.ntmps102
  go_wp2_with fail
  go_at_call 153
  refine G.out.mono ?_
  rintro e w1 ⟨rfl, rfl⟩
  go_wp2_with fail
  go_at_call 155
  refine (set_z H.out i (up y) _ (add_one y) hi (up_lt y)).mono ?_
  rintro e w1 ⟨rfl, hP, hf⟩
  have H2 := hide hP
  have HF := hide hf
  clear hP hf
  go_wp2
  go_ret
  exact ⟨rfl, H2.out, HF.out⟩

set_option maxHeartbeats 1600000 in
theorem shard_step (h : TwoAt w pa ga pb gb xs ys) (hca : w.cell? ⟨ca, 0, none⟩ = some (vecv pa)) (hcb : w.cell? ⟨cb, 0, none⟩ = some (vecv pb)) (u v many : Nat) (hu : u < xs.length) (hv : v < ys.length) (hm0 : 1 ≤ many) (hm1 : many ≤ 9223372036854775807) (hne : cb ≠ gb) (hna : ca ≠ gb) (hlen : ys.length = xs.length) :
    Calls Tryz.prog 101 #[.int .i64 u, .int .i64 v, .int .i64 many, .pointer (some ⟨ca, 0, none⟩), .pointer (some ⟨cb, 0, none⟩)] w fun e w' => e = .returned (.int .i64 0) ∧ TwoAt w' pa ga pb gb xs (step xs ys (u, v, many)) ∧ Fr (fun k => k = gb) w w' := by
  have hmg := fun p => meth_get p
  unfold vecv at hca hcb
  have SV : step xs ys (u, v, many) = if both xs u v then inc (inc ys u) v else ys := by simp [step]
  rw [SV]
  have H := hide h
  have GU := hide (get_in h.a u hu)
  have GV := hide (get_in h.a v (show v < xs.length by omega))
  have lb := h.b.row.lt
  have hi0 : ∀ w, (Instr.index 154 (.agg #[.int .i64 u, .int .i64 v]) (.int .i64 0)).run Tryz.prog w = .ok (.int .i64 u) w := by intro w; kernel_rfl
  have hi1 : ∀ w, (Instr.index 154 (.agg #[.int .i64 u, .int .i64 v]) (.int .i64 1)).run Tryz.prog w = .ok (.int .i64 v) w := by intro w; kernel_rfl
  by_cases hxu : xs.getD u 0 = 0
  · have hb : both xs u v = false := by simp only [both, hxu, ne_eq, not_true_eq_false, false_and, decide_false]
    rw [hb]
    rw [hxu] at GU
    clear h SV hb hxu
    go_enter Tryz.func101, Tryz.ntmps101
    go_wp2_with fail
    refine wp_loop_rounds 3 ?_
    rw [rounds_succ]
    go_wp2_with fail
    go_at_call 153
    refine GU.out.mono ?_
    rintro e w1 ⟨rfl, rfl⟩
    go_wp2
    go_ret
    exact ⟨rfl, H.out, Fr.refl _ _⟩
  · have hbu : ((xs.getD u 0 : Nat) : Int) ≠ 0 := by omega
    have hbe : (((xs.getD u 0 : Nat) : Int) == 0) = false := by simpa using hbu
    by_cases hxv : xs.getD v 0 = 0
    · have hb : both xs u v = false := by simp only [both, hxv, ne_eq, not_true_eq_false, and_false, decide_false]
      rw [hb]
      rw [hxv] at GV
      generalize xs.getD u 0 = x at *
      clear h SV hb hxv hbu hxu
      go_enter Tryz.func101, Tryz.ntmps101
      go_wp2_with fail
      refine wp_loop_rounds 3 ?_
      rw [rounds_succ]
      go_wp2_with fail
      go_at_call 153
      refine GU.out.mono ?_
      rintro e w1 ⟨rfl, rfl⟩
      go_wp2_with fail
      rw [rounds_succ]
      go_wp2_with fail
      go_at_call 153
      refine GV.out.mono ?_
      rintro e w1 ⟨rfl, rfl⟩
      go_wp2
      go_ret
      exact ⟨rfl, H.out, Fr.refl _ _⟩
    · have hbv : ((xs.getD v 0 : Nat) : Int) ≠ 0 := by omega
      have hbf : (((xs.getD v 0 : Nat) : Int) == 0) = false := by simpa using hbv
      have hb : both xs u v = true := decide_eq_true ⟨hxu, hxv⟩
      rw [hb]
      generalize xs.getD u 0 = x at *
      generalize xs.getD v 0 = z at *
      clear h SV hb hxv hxu hbu hbv
      go_enter Tryz.func101, Tryz.ntmps101
      go_wp2_with fail
      refine wp_loop_rounds 3 ?_
      rw [rounds_succ]
      go_wp2_with fail
      go_at_call 153
      refine GU.out.mono ?_
      rintro e w1 ⟨rfl, rfl⟩
      go_wp2_with fail
      rw [rounds_succ]
      go_wp2_with fail
      go_at_call 153
      refine GV.out.mono ?_
      rintro e w1 ⟨rfl, rfl⟩
      go_wp2_with fail
      rw [rounds_succ]
      go_wp2_with fail
      go_at_call 102
      refine (more_any H.out.b u (by omega)).mono ?_
      rintro e w1 ⟨rfl, hP, hf⟩
      have H1 := hide (H.out.setB hP hf)
      have hcb1 := hf.cell hcb hne
      have HF := hide hf
      clear hP hf
      go_wp2_with fail
      go_at_call 102
      refine (more_any H1.out.b v (by rw [inc_len]; omega)).mono ?_
      rintro e w2 ⟨rfl, hP, hf⟩
      have H2 := hide (H1.out.setB hP hf)
      have HF2 := hide (HF.out.trans hf (fun _ h => .inl h))
      clear hP hf
      go_wp2
      go_ret
      exact ⟨rfl, H2.out, HF2.out⟩

section
variable {fr to : Int} {m c : Nat} {A : Option Addr} {vs : List Value} {L : List (List Int)}
theorem held4 {w w' : World} {p : Addr} {r : Nat} {u x y z : Value} (h : w.cell? p = some u ∧ w.cell? ⟨r, 0, none⟩ = some x ∧ w.cell? ⟨r, 1, none⟩ = some y ∧ w.cell? ⟨r, 2, none⟩ = some z) (hf : Fr (fun _ => False) w w') :
    w'.cell? p = some u ∧ w'.cell? ⟨r, 0, none⟩ = some x ∧ w'.cell? ⟨r, 1, none⟩ = some y ∧ w'.cell? ⟨r, 2, none⟩ = some z := ⟨hf.cell h.1 id, hf.cell h.2.1 id, hf.cell h.2.2.1 id, hf.cell h.2.2.2 id⟩
theorem three {w : World} {t1 t2 t3 : TypeId} {c1 c2 c3 : Array Value} :
    Blk (((w.alloc (.cells c1 t1)).alloc (.cells c2 t2)).alloc (.cells c3 t3)) w.heap.size t1 c1 ∧ Blk (((w.alloc (.cells c1 t1)).alloc (.cells c2 t2)).alloc (.cells c3 t3)) (w.heap.size + 1) t2 c2 ∧ Blk (((w.alloc (.cells c1 t1)).alloc (.cells c2 t2)).alloc (.cells c3 t3)) (w.heap.size + 2) t3 c3 := by
  refine ⟨((Blk.new w t1 c1).alloc _).alloc _, ?_, ?_⟩
  · have := (Blk.new (w.alloc (.cells c1 t1)) t2 c2).alloc (.cells c3 t3)
    simpa using this
  · have := Blk.new ((w.alloc (.cells c1 t1)).alloc (.cells c2 t2)) t3 c3
    simpa using this

theorem shard_ok (h : TwoAt w pa ga pb gb xs ys) (hm : mayB xs.length ys.length = true) (stay : ∀ w', Fr (fun k => k = gb) w w' → LsAt w' vs A m L) (hfit : fitsB fr to xs.length L = true) (round : Int) (hr : 0 ≤ round) :
    Calls Tryz.prog 64 #[vecv pa, vecv pb, .agg #[.int .i64 fr, .int .i64 to, .slice A m c], .int .i64 round] w fun e w' => e = .returned (.int .i64 0) ∧ TwoAt w' pa ga pb gb xs ((edgs fr L).foldl (step xs) ys) ∧ Fr (fun k => k = gb) w w' := by
  have hmv := fun p => meth_len p
  have hm' : 1 ≤ xs.length ∧ xs.length ≤ 256 ∧ ys.length = xs.length := by simpa [mayB] using hm
  have hf' : (0 ≤ fr ∧ fr ≤ to ∧ to ≤ (xs.length : Int) ∧ (L.length : Int) = to - fr) ∧ okLs xs.length L = true := by simpa [fitsB] using hfit
  have la := h.a.row.lt
  have lb := h.b.row.lt
  have ls := stay w (Fr.refl _ _)
  have key : ∀ w1, Fr (fun _ => False) w w1 → w1.cell? ⟨w.heap.size, 0, none⟩ = some (vecv pa) → w1.cell? ⟨w.heap.size + 1, 0, none⟩ = some (vecv pb) →
      Calls Tryz.prog 90 #[.agg #[.int .i64 fr, .int .i64 to, .slice A m c], .func (.func 101) #[] #[.pointer (some ⟨w.heap.size, 0, none⟩), .pointer (some ⟨w.heap.size + 1, 0, none⟩)]] w1 fun e w' => e = .returned (.int .i64 0) ∧ TwoAt w' pa ga pb gb xs ((edgs fr L).foldl (step xs) ys) ∧ Fr (fun k => k = gb) w w' := by
    intro w1 F1 c0 c1
    have G1 : Fr (fun _ => False) w (w1.alloc (.cells #[.int .i64 fr, .int .i64 to, .slice A m c] 43)) := F1.alloc _
    have l1 := World.block_lt_of_cell? w1 _ c0
    have l2 := World.block_lt_of_cell? w1 _ c1
    simp only at l1 l2
    refine (edges_any 101 (fun args w => by kernel_rfl) #[.pointer (some ⟨w.heap.size, 0, none⟩), .pointer (some ⟨w.heap.size + 1, 0, none⟩)] fr to m c A vs L w1 (step xs)
      (fun e => (0 ≤ e.1 ∧ e.1 < xs.length) ∧ (0 ≤ e.2.1 ∧ e.2.1 < xs.length) ∧ 1 ≤ e.2.2 ∧ e.2.2 ≤ 9223372036854775807)
      (fun s w' => TwoAt w' pa ga pb gb xs s ∧ s.length = ys.length ∧ Fr (fun k => k = gb) (w1.alloc (.cells #[.int .i64 fr, .int .i64 to, .slice A m c] 43)) w') ys
      hf'.1.1 (by have := ls.1; omega) ls.1 (edgs_ok L fr hf'.2 hf'.1.1 (by omega) ls.lens) ⟨h.still G1, rfl, Fr.refl _ _⟩ ?_ ?_).mono ?_
    · rintro s w' ⟨hT, _, hF⟩
      exact ⟨stay w' ((G1.mono (fun _ h => h.elim)).trans hF (fun _ h => .inl h)), hF.cell (by simp) (by simp; omega)⟩
    · rintro s ⟨u, v, many⟩ w' ⟨⟨hu0, hu⟩, ⟨hv0, hv⟩, hk0, hk1⟩ ⟨hT, hL, hF⟩
      simp only at hu0 hu hv0 hv hk0 hk1
      obtain ⟨u, rfl⟩ := Int.eq_ofNat_of_zero_le hu0
      obtain ⟨v, rfl⟩ := Int.eq_ofNat_of_zero_le hv0
      have d0 := hF.cell ((held_alloc' w1 (.cells #[.int .i64 fr, .int .i64 to, .slice A m c] 43)).cell c0 id) (by simp; omega)
      have d1 := hF.cell ((held_alloc' w1 (.cells #[.int .i64 fr, .int .i64 to, .slice A m c] 43)).cell c1 id) (by simp; omega)
      refine (shard_step hT d0 d1 u v many (by omega) (by omega) hk0 hk1 (by omega) (by omega) (by omega)).mono ?_
      rintro e w'' ⟨rfl, hT', hF'⟩
      exact ⟨rfl, hT', (step_len _ _ _).trans hL, hF.trans hF' (fun _ h => .inl h)⟩
    · rintro e w' ⟨rfl, hT, _, hF⟩
      exact ⟨rfl, hT, (G1.mono (fun _ h => h.elim)).trans hF (fun _ h => .inl h)⟩
  obtain ⟨W3, hW3⟩ : ∃ W3, W3 = ((w.alloc (.cells #[vecv pa] 156)).alloc (.cells #[vecv pb] 156)).alloc (.cells #[.int .i64 fr, .int .i64 to, .slice A m c] 43) := ⟨_, rfl⟩
  have F3 : Fr (fun _ => False) w W3 := by rw [hW3]; exact (((Fr.refl _ _).alloc _).alloc _).alloc _
  have T3 := three (w := w) (t1 := 156) (t2 := 156) (t3 := 43) (c1 := #[vecv pa]) (c2 := #[vecv pb]) (c3 := #[.int .i64 fr, .int .i64 to, .slice A m c])
  rw [← hW3] at T3
  have c0 : W3.cell? ⟨w.heap.size, 0, none⟩ = some (vecv pa) := (T3.1.cell 0).trans rfl
  have c1 : W3.cell? ⟨w.heap.size + 1, 0, none⟩ = some (vecv pb) := (T3.2.1.cell 0).trans rfl
  have s0 : W3.cell? ⟨w.heap.size + 2, 0, none⟩ = some (.int .i64 fr) := (T3.2.2.cell 0).trans rfl
  have s1 : W3.cell? ⟨w.heap.size + 2, 1, none⟩ = some (.int .i64 to) := (T3.2.2.cell 1).trans rfl
  have s2 : W3.cell? ⟨w.heap.size + 2, 2, none⟩ = some (.slice A m c) := (T3.2.2.cell 2).trans rfl
  clear T3
  have H3 := h.still F3
  have CK := check_any H3
  rw [hm] at CK
  have FT := fits_any fr to xs.length m c A L W3.drew ((ls.up F3).up (held_drew W3)).lists hm'.2.1
  rw [hfit] at FT
  have HC := hide CK
  have HT := hide FT
  have HK := hide key
  have HL := hide (len_any (H3.still (held_drew W3)).a)
  have HF := hide F3
  unfold vecv at *
  clear key CK FT H3 h F3 hm hm' hf' hfit stay ls
  go_enter Tryz.func64, Tryz.ntmps64
  go_wp2_with fail
  go_at_call 42
  rw [← hW3]
  refine HC.out.mono ?_
  rintro e w1 ⟨rfl, rfl⟩
  clear hW3
  unfold errB at *
  go_wp2_with fail
  go_region_held3 (fun w' => w'.cell? ⟨w.heap.size, 0, none⟩ = some (.iface 67 (.pointer (some ⟨pa, 0, none⟩))) ∧ w'.cell? ⟨w.heap.size + 2, 0, none⟩ = some (.int .i64 fr) ∧ w'.cell? ⟨w.heap.size + 2, 1, none⟩ = some (.int .i64 to) ∧ w'.cell? ⟨w.heap.size + 2, 2, none⟩ = some (.slice A m c))
    (first | exact ⟨c0, s0, s1, s2⟩ | assumption | exact held4 (by assumption) hf | exact held4 (w := W3.drew) ⟨c0, s0, s1, s2⟩ hf)
    (first
      | (go_at_call 154; refine HL.out.mono ?_; rintro e w1 ⟨rfl, rfl⟩)
      | (go_at_call 89; refine HT.out.mono ?_; rintro e w1 ⟨rfl, hf⟩))
  rename_i hH
  have d0 := hH.1
  have d1 := hf.cell (w := W3.drew) c1 id
  have e0 : w1.cell? ⟨w.heap.size + 1 + 1, 0, none⟩ = some (.int .i64 fr) := hH.2.1
  have e1 : w1.cell? ⟨w.heap.size + 1 + 1, 1, none⟩ = some (.int .i64 to) := hH.2.2.1
  have e2 : w1.cell? ⟨w.heap.size + 1 + 1, 2, none⟩ = some (.slice A m c) := hH.2.2.2
  have HG := hide ((HF.out.then_ (held_drew _)).then_ hf)
  have HE := hide (HK.out w1 HG.out d0 d1)
  clear hH hf c0 c1 s0 s1 s2 HK HL
  go_wp2_with fail
  go_at_call 90
  refine HE.out.mono ?_
  rintro e w2 ⟨rfl, hT, hF⟩
  have H1 := hide hT
  have H2 := hide hF
  clear hT hF
  go_wp2
  go_ret
  exact ⟨rfl, H1.out, H2.out⟩
end

section
variable {fr to : Int} {m c : Nat} {A : Option Addr} {L : List (List Int)}
theorem shard_bad (h : TwoAt w pa ga pb gb xs ys) (hl : ListsAt w w.heap.size A m L) (round : Int) (hbad : (mayB xs.length ys.length && fitsB fr to xs.length L && decide (0 ≤ round)) = false) :
    Calls Tryz.prog 64 #[vecv pa, vecv pb, .agg #[.int .i64 fr, .int .i64 to, .slice A m c], .int .i64 round] w fun e w' => e = .returned (.int .i64 2) ∧ Fr (fun _ => False) w w' := by
  have hmv := fun p => meth_len p
  have hx := h.a.len
  obtain ⟨W3, hW3⟩ : ∃ W3, W3 = ((w.alloc (.cells #[vecv pa] 156)).alloc (.cells #[vecv pb] 156)).alloc (.cells #[.int .i64 fr, .int .i64 to, .slice A m c] 43) := ⟨_, rfl⟩
  have F3 : Fr (fun _ => False) w W3 := by rw [hW3]; exact (((Fr.refl _ _).alloc _).alloc _).alloc _
  have T3 := three (w := w) (t1 := 156) (t2 := 156) (t3 := 43) (c1 := #[vecv pa]) (c2 := #[vecv pb]) (c3 := #[.int .i64 fr, .int .i64 to, .slice A m c])
  rw [← hW3] at T3
  have c0 : W3.cell? ⟨w.heap.size, 0, none⟩ = some (vecv pa) := (T3.1.cell 0).trans rfl
  have s0 : W3.cell? ⟨w.heap.size + 2, 0, none⟩ = some (.int .i64 fr) := (T3.2.2.cell 0).trans rfl
  have s1 : W3.cell? ⟨w.heap.size + 2, 1, none⟩ = some (.int .i64 to) := (T3.2.2.cell 1).trans rfl
  have s2 : W3.cell? ⟨w.heap.size + 2, 2, none⟩ = some (.slice A m c) := (T3.2.2.cell 2).trans rfl
  clear T3
  have H3 := h.still F3
  have CK := check_any H3
  have HF := hide F3
  by_cases hm : mayB xs.length ys.length = true
  · rw [hm] at CK
    have FT := fits_any fr to xs.length m c A L W3.drew ((hl.up F3).up (held_drew W3)) hx
    have HL := hide (len_any (H3.still (held_drew W3)).a)
    by_cases hfit : fitsB fr to xs.length L = true
    · have hr : round < 0 := by simpa [hm, hfit] using hbad
      rw [hfit] at FT
      have HC := hide CK
      have HT := hide FT
      unfold vecv at *
      clear CK FT H3 h F3 hm hfit hl hbad
      go_enter Tryz.func64, Tryz.ntmps64
      go_wp2_with fail
      go_at_call 42
      rw [← hW3]
      refine HC.out.mono ?_
      rintro e w1 ⟨rfl, rfl⟩
      clear hW3
      unfold errB at *
      go_wp2_with fail
      go_region_held3 (fun w' => w'.cell? ⟨w.heap.size, 0, none⟩ = some (.iface 67 (.pointer (some ⟨pa, 0, none⟩))) ∧ w'.cell? ⟨w.heap.size + 2, 0, none⟩ = some (.int .i64 fr) ∧ w'.cell? ⟨w.heap.size + 2, 1, none⟩ = some (.int .i64 to) ∧ w'.cell? ⟨w.heap.size + 2, 2, none⟩ = some (.slice A m c))
        (first | exact ⟨c0, s0, s1, s2⟩ | assumption | exact held4 (by assumption) hf | exact held4 (w := W3.drew) ⟨c0, s0, s1, s2⟩ hf)
        (first
          | (go_at_call 154; refine HL.out.mono ?_; rintro e w1 ⟨rfl, rfl⟩)
          | (go_at_call 89; refine HT.out.mono ?_; rintro e w1 ⟨rfl, hf⟩))
      have HG := hide ((HF.out.then_ (held_drew _)).then_ hf)
      clear hf c0 s0 s1 s2 HL
      go_wp2
      go_ret
      exact ⟨rfl, HG.out⟩
    · have hfit' : fitsB fr to xs.length L = false := by simpa using hfit
      rw [hfit'] at FT
      have HC := hide CK
      have HT := hide FT
      unfold vecv at *
      clear CK FT H3 h F3 hm hfit hfit' hl hbad
      go_enter Tryz.func64, Tryz.ntmps64
      go_wp2_with fail
      go_at_call 42
      rw [← hW3]
      refine HC.out.mono ?_
      rintro e w1 ⟨rfl, rfl⟩
      clear hW3
      unfold errB at *
      go_wp2_with fail
      go_region_held3 (fun w' => w'.cell? ⟨w.heap.size, 0, none⟩ = some (.iface 67 (.pointer (some ⟨pa, 0, none⟩))) ∧ w'.cell? ⟨w.heap.size + 2, 0, none⟩ = some (.int .i64 fr) ∧ w'.cell? ⟨w.heap.size + 2, 1, none⟩ = some (.int .i64 to) ∧ w'.cell? ⟨w.heap.size + 2, 2, none⟩ = some (.slice A m c))
        (first | exact ⟨c0, s0, s1, s2⟩ | assumption | exact held4 (by assumption) hf | exact held4 (w := W3.drew) ⟨c0, s0, s1, s2⟩ hf)
        (first
          | (go_at_call 154; refine HL.out.mono ?_; rintro e w1 ⟨rfl, rfl⟩)
          | (go_at_call 89; refine HT.out.mono ?_; rintro e w1 ⟨rfl, hf⟩))
      have HG := hide ((HF.out.then_ (held_drew _)).then_ hf)
      clear hf c0 s0 s1 s2 HL
      go_wp2
      go_ret
      exact ⟨rfl, HG.out⟩
  · have hm' : mayB xs.length ys.length = false := by simpa using hm
    rw [hm'] at CK
    have HC := hide CK
    unfold vecv at *
    clear CK H3 h F3 hm hm' hbad hl c0 s0 s1 s2
    go_enter Tryz.func64, Tryz.ntmps64
    go_wp2_with fail
    go_at_call 42
    rw [← hW3]
    refine HC.out.mono ?_
    rintro e w1 ⟨rfl, rfl⟩
    clear hW3
    unfold errB
    go_wp2
    go_ret
    exact ⟨rfl, HF.out⟩
end

/-- who is none is refused -/
theorem begin_nilA (p : Nat) (arg : Int) : Calls Tryz.prog 62 #[.nilIface, vecv p, .int .i64 arg] w fun e w' => e = .returned (.int .i64 1) ∧ Fr (fun _ => False) w w' := by
  have HC := hide (fun w => check_nilA (vecv p) w (.inr ⟨p, rfl⟩))
  unfold vecv at *
  go_enter Tryz.func62, Tryz.ntmps62
  go_wp2_with fail
  go_at_call 42
  refine (HC.out _).mono ?_
  rintro e w1 ⟨rfl, rfl⟩
  go_wp2
  go_ret
  exact ⟨rfl, ((Fr.refl _ _).alloc _).alloc _⟩
theorem begin_nilB (p : Nat) (arg : Int) : Calls Tryz.prog 62 #[vecv p, .nilIface, .int .i64 arg] w fun e w' => e = .returned (.int .i64 1) ∧ Fr (fun _ => False) w w' := by
  have HC := hide (fun w => check_nilB p w)
  unfold vecv at *
  go_enter Tryz.func62, Tryz.ntmps62
  go_wp2_with fail
  go_at_call 42
  refine (HC.out _).mono ?_
  rintro e w1 ⟨rfl, rfl⟩
  go_wp2
  go_ret
  exact ⟨rfl, ((Fr.refl _ _).alloc _).alloc _⟩
theorem begin_empty {p g : Nat} (h : PlainAt w p g []) (arg : Int) : Calls Tryz.prog 62 #[vecv p, vecv p, .int .i64 arg] w fun e w' => e = .returned (.int .i64 2) ∧ Fr (fun _ => False) w w' := by
  have HC := hide (fun w' (hf : Fr (fun _ => False) w w') => check_empty (h.fr hf id id))
  have HF := hide (((Fr.refl (fun _ => False) w).alloc (.cells #[vecv p] 156)).alloc (.cells #[vecv p] 156))
  unfold vecv at *
  clear h
  go_enter Tryz.func62, Tryz.ntmps62
  go_wp2_with fail
  go_at_call 42
  refine (HC.out _ HF.out).mono ?_
  rintro e w1 ⟨rfl, rfl⟩
  go_wp2
  go_ret
  exact ⟨rfl, HF.out⟩
theorem shard_nilB (p : Nat) (a : Array Value) (round : Int) (ha : a.size = 3) : Calls Tryz.prog 64 #[vecv p, .nilIface, .agg a, .int .i64 round] w fun e w' => e = .returned (.int .i64 1) ∧ Fr (fun _ => False) w w' := by
  have HC := hide (fun w => check_nilB p w)
  unfold vecv at *
  go_enter Tryz.func64, Tryz.ntmps64
  go_wp2_with fail
  go_at_call 42
  refine (HC.out _).mono ?_
  rintro e w1 ⟨rfl, rfl⟩
  go_wp2
  go_ret
  exact ⟨rfl, (((Fr.refl _ _).alloc _).alloc _).alloc _⟩
end
end Go.Proofs.YtjdbjahgimlhbaaGreat.cores
end
section
set_option linter.unusedVariables false
set_option maxRecDepth 100000
namespace Go.Proofs.YtjdbjahgimlhbaaGreat.cores
open Go.RowKit

section
variable {w : World} {pa ga pb gb ca cb cg cd : Nat} {xs ys : List Nat}
def cD (arg : Int) (x y : Nat) : Bool := decide (x ≠ 0 ∧ 0 < arg ∧ (y : Int) < arg)
def cX (arg : Int) (x y : Nat) : Nat := if cD arg x y then 0 else x
def cY (arg : Int) (x y : Nat) : Nat := 0
set_option maxHeartbeats 1600000 in
theorem commit_step (h : TwoAt w pa ga pb gb xs ys) (arg : Int) (hca : w.cell? ⟨ca, 0, none⟩ = some (vecv pa)) (hcb : w.cell? ⟨cb, 0, none⟩ = some (vecv pb)) (hcg : w.cell? ⟨cg, 0, none⟩ = some (.int .i64 arg)) (d : Bool) (hd : Blk w cd 4 #[.bool d])
    (n1 : ca ≠ ga) (n2 : ca ≠ gb) (n3 : cb ≠ ga) (n4 : cb ≠ gb) (n5 : ca ≠ cd) (n6 : cb ≠ cd) (n7 : cd ≠ ga) (n8 : cd ≠ gb) (n9 : cg ≠ ga) (n10 : cg ≠ gb) (n11 : cg ≠ cd) (i : Nat) (hi : i < xs.length) (hi' : i < ys.length) (hmx : arg ≤ 9223372036854775807) :
    Calls Tryz.prog 103 #[.int .i64 i, .pointer (some ⟨ca, 0, none⟩), .pointer (some ⟨cb, 0, none⟩), .pointer (some ⟨cg, 0, none⟩), .pointer (some ⟨cd, 0, none⟩)] w fun e w' => e = .returned (.int .i64 0) ∧ TwoAt w' pa ga pb gb (xs.set i (cX arg (xs.getD i 0) (ys.getD i 0))) (ys.set i (cY arg (xs.getD i 0) (ys.getD i 0))) ∧ Blk w' cd 4 #[.bool (d && !cD arg (xs.getD i 0) (ys.getD i 0))] ∧ Fr (fun k => k = ga ∨ k = gb ∨ k = cd) w w' := by
  have hm := fun p => meth_set p
  have hx := h.a.lt _ (show xs.getD i 0 ∈ xs by simp [List.getD, hi])
  have hy := h.b.lt _ (show ys.getD i 0 ∈ ys by simp [List.getD, hi'])
  have HX := hide hx
  have HY := hide hy
  have H := hide h
  have G2 := hide (two_any h i hi hi')
  have HD := hide hd
  have n7' : ga ≠ cd := fun e => n7 e.symm
  have n8' : gb ≠ cd := fun e => n8 e.symm
  have hcx : cX arg (xs.getD i 0) (ys.getD i 0) = if cD arg (xs.getD i 0) (ys.getD i 0) then 0 else xs.getD i 0 := rfl
  have hcy : cY arg (xs.getD i 0) (ys.getD i 0) = 0 := rfl
  rw [hcx, hcy]
  have hss := set_same xs i
  unfold vecv at *
  generalize hxx : xs.getD i 0 = x at *
  generalize hyy : ys.getD i 0 = y at *
  clear h hd hcx hcy hxx hyy hx hy
  have hq0 : w.cell? ⟨cd, 0, none⟩ = some (.bool d) := (HD.out.cell 0).trans rfl
  have hq1 := HD.out.frozen 0
  by_cases hD : cD arg x y = true
  · have hD' : x ≠ 0 ∧ 0 < arg ∧ (y : Int) < arg := of_decide_eq_true hD
    obtain ⟨hx0, ha0, hya⟩ := hD'
    rw [hD]
    simp only [if_true, Bool.not_true, Bool.and_false]
    have hbx : ((x : Int) != 0) = true := bneT (by omega)
    have hz3 : IntKind.u64.wrap arg = arg := by simp [IntKind.wrap, IntKind.bits, IntKind.signed]; omega
    have F0 : Fr (fun k => k = cd) w (w.setCell ⟨cd, 0, none⟩ (.bool false)) := Fr.one _ _ _ _
    have HB := hide (show Blk (w.setCell ⟨cd, 0, none⟩ (.bool false)) cd 4 #[.bool false] from HD.out.set_ 0 _)
    have HT0 := hide (H.out.fr F0 (H.out.a.head.ne_ HD.out (by decide)) n7' (H.out.b.head.ne_ HD.out (by decide)) n8')
    have c0 := F0.cell hca n5
    have c1 := F0.cell hcb n6
    have HF0 := hide F0
    clear hss hD hx0 F0
    go_enter Tryz.func103, Tryz.ntmps103
    go_wp2_with fail
    go_at_call 104
    refine G2.out.mono ?_
    rintro e w1 ⟨rfl, rfl⟩
    go_wp2_with fail
    go_at_call 155
    refine (set_in HT0.out.a i 0 hi (by omega)).mono ?_
    rintro e w1 ⟨rfl, hp, hf⟩
    have HT1 := hide (HT0.out.setA hp hf)
    have HB1 := hide (HB.out.fr hf n7)
    have hcb1 := hf.cell c1 n3
    have HF1 := hide ((HF0.out.mono (S' := fun k => k = ga ∨ k = gb ∨ k = cd) (fun k h => .inr (.inr h))).trans hf (fun k h => .inl (.inl h)))
    clear hp hf c0 c1 HT0 HB HF0
    go_wp2_with fail
    go_at_call 155
    refine (set_in HT1.out.b i 0 hi' (by omega)).mono ?_
    rintro e w2 ⟨rfl, hp, hf⟩
    have HT2 := hide (HT1.out.setB hp hf)
    have HB2 := hide (HB1.out.fr hf n8)
    have HF2 := hide (HF1.out.trans hf (fun k h => .inl (.inr (.inl h))))
    clear hp hf
    go_wp2
    go_ret
    exact ⟨rfl, HT2.out, HB2.out, HF2.out⟩
  · have hD0 : cD arg x y = false := by simpa using hD
    have hD' : ¬ (x ≠ 0 ∧ 0 < arg ∧ (y : Int) < arg) := of_decide_eq_false hD0
    rw [hD0]
    simp only [Bool.false_eq_true, if_false, Bool.not_false, Bool.and_true]
    rw [hss]
    have hc : x = 0 ∨ (x ≠ 0 ∧ arg ≤ 0) ∨ (x ≠ 0 ∧ 0 < arg ∧ arg ≤ y) := by omega
    have HS := hide (fun w' (h : Fr (fun _ => False) w w') => set_in (H.out.still h).b i 0 hi' (by omega))
    have HEND := hide (fun w2 (hp : PlainAt w2 pb gb (ys.set i 0)) (hf : Fr (fun k => k = gb) w w2) => show TwoAt w2 pa ga pb gb xs (ys.set i 0) ∧ Blk w2 cd 4 #[.bool d] ∧ Fr (fun k => k = ga ∨ k = gb ∨ k = cd) w w2 from ⟨H.out.setB hp hf, HD.out.fr hf n8, hf.mono (fun k h => .inr (.inl h))⟩)
    clear hss hD hD0 hD'
    rcases hc with hx0 | ⟨hx0, ha0⟩ | ⟨hx0, ha0, hya⟩
    · subst hx0
      go_enter Tryz.func103, Tryz.ntmps103
      go_wp2_with fail
      go_at_call 104
      refine G2.out.mono ?_
      rintro e w1 ⟨rfl, rfl⟩
      go_wp2_with fail
      go_at_call 155
      refine (HS.out w (Fr.refl _ _)).mono ?_
      rintro e w2 ⟨rfl, hp, hf⟩
      have HE := hide (HEND.out w2 hp hf)
      clear hp hf
      go_wp2
      go_ret
      exact ⟨rfl, HE.out⟩
    · have hbx : ((x : Int) != 0) = true := bneT (by omega)
      clear hx0
      go_enter Tryz.func103, Tryz.ntmps103
      go_wp2_with fail
      go_at_call 104
      refine G2.out.mono ?_
      rintro e w1 ⟨rfl, rfl⟩
      go_wp2_with fail
      go_at_call 155
      refine (HS.out w (Fr.refl _ _)).mono ?_
      rintro e w2 ⟨rfl, hp, hf⟩
      have HE := hide (HEND.out w2 hp hf)
      clear hp hf
      go_wp2
      go_ret
      exact ⟨rfl, HE.out⟩
    · have hbx : ((x : Int) != 0) = true := bneT (by omega)
      have hz3 : IntKind.u64.wrap arg = arg := by simp [IntKind.wrap, IntKind.bits, IntKind.signed]; omega
      clear hx0
      go_enter Tryz.func103, Tryz.ntmps103
      go_wp2_with fail
      go_at_call 104
      refine G2.out.mono ?_
      rintro e w1 ⟨rfl, rfl⟩
      go_wp2_with fail
      go_at_call 155
      refine (HS.out w (Fr.refl _ _)).mono ?_
      rintro e w2 ⟨rfl, hp, hf⟩
      have HE := hide (HEND.out w2 hp hf)
      clear hp hf
      go_wp2
      go_ret
      exact ⟨rfl, HE.out⟩
def cXs (arg : Int) (xs ys : List Nat) : List Nat := (List.range xs.length).map fun i => cX arg (xs.getD i 0) (ys.getD i 0)
def cYs (arg : Int) (xs ys : List Nat) : List Nat := (List.range xs.length).map fun i => cY arg (xs.getD i 0) (ys.getD i 0)
def cAll (arg : Int) (xs ys : List Nat) (k : Nat) : Bool := (List.range k).all fun i => !cD arg (xs.getD i 0) (ys.getD i 0)
theorem cAll_succ (arg : Int) (xs ys : List Nat) (k : Nat) : cAll arg xs ys (k + 1) = (cAll arg xs ys k && !cD arg (xs.getD k 0) (ys.getD k 0)) := by
  simp [cAll, List.range_succ]
def cDone (arg : Int) (xs ys : List Nat) : Bool := cAll arg xs ys xs.length

theorem commit_key (w1 : World) (h : TwoAt w1 pa ga pb gb xs ys) (hlen : ys.length = xs.length) (h256 : xs.length ≤ 256) (arg : Int) (c0 : w1.cell? ⟨ca, 0, none⟩ = some (vecv pa)) (c1 : w1.cell? ⟨cb, 0, none⟩ = some (vecv pb)) (cg0 : w1.cell? ⟨cg, 0, none⟩ = some (.int .i64 arg)) (b : Blk w1 cd 4 #[.bool true])
    (n1 : ca ≠ ga) (n2 : ca ≠ gb) (n3 : cb ≠ ga) (n4 : cb ≠ gb) (n5 : ca ≠ cd) (n6 : cb ≠ cd) (n7 : cd ≠ ga) (n8 : cd ≠ gb) (n9 : cg ≠ ga) (n10 : cg ≠ gb) (n11 : cg ≠ cd) (hmx : arg ≤ 9223372036854775807) :
    Calls Tryz.prog 87 #[.int .i64 xs.length, .func (.func 103) #[] #[.pointer (some ⟨ca, 0, none⟩), .pointer (some ⟨cb, 0, none⟩), .pointer (some ⟨cg, 0, none⟩), .pointer (some ⟨cd, 0, none⟩)]] w1 fun e w' => e = .returned (.int .i64 0) ∧ TwoAt w' pa ga pb gb (cXs arg xs ys) (cYs arg xs ys) ∧ Blk w' cd 4 #[.bool (cDone arg xs ys)] ∧ Fr (fun k => k = ga ∨ k = gb ∨ k = cd) w1 w' := by
  have nn1 : ga ≠ cd := fun e => n7 e.symm
  have nn2 : gb ≠ cd := fun e => n8 e.symm
  refine (each_any 103 (fun args w => by kernel_rfl) #[.pointer (some ⟨ca, 0, none⟩), .pointer (some ⟨cb, 0, none⟩), .pointer (some ⟨cg, 0, none⟩), .pointer (some ⟨cd, 0, none⟩)] xs.length
    (fun i w' => TwoAt w' pa ga pb gb (pre (fun i => cX arg (xs.getD i 0) (ys.getD i 0)) i xs) (pre (fun i => cY arg (xs.getD i 0) (ys.getD i 0)) i ys) ∧ Blk w' cd 4 #[.bool (cAll arg xs ys i)] ∧ Fr (fun k => k = ga ∨ k = gb ∨ k = cd) w1 w') w1 ⟨by rw [pre_zero, pre_zero]; exact h, b, Fr.refl _ _⟩ ?_ h256).mono ?_
  · rintro i w' hi ⟨hT, hB, hF⟩
    refine (commit_step hT arg (hF.cell c0 (by simp only []; omega)) (hF.cell c1 (by simp only []; omega)) (hF.cell cg0 (by simp only []; omega)) _ hB n1 n2 n3 n4 n5 n6 n7 n8 n9 n10 n11 i (by rw [pre_len _ (by omega)]; omega) (by rw [pre_len _ (by omega)]; omega) hmx).mono ?_
    rintro e w'' ⟨rfl, hT', hB', hF'⟩
    rw [pre_get (fun i => cX arg (xs.getD i 0) (ys.getD i 0)) hi, pre_get (fun i => cY arg (xs.getD i 0) (ys.getD i 0)) (show i < ys.length by omega)] at hT' hB'
    rw [pre_set (fun i => cX arg (xs.getD i 0) (ys.getD i 0)) hi, pre_set (fun i => cY arg (xs.getD i 0) (ys.getD i 0)) (show i < ys.length by omega)] at hT'
    rw [← cAll_succ] at hB'
    exact ⟨rfl, hT', hB', hF.trans hF' (fun k h => .inl h)⟩
  · rintro e w' ⟨rfl, hT, hB, hF⟩
    rw [pre_full _ rfl, pre_full _ hlen] at hT
    exact ⟨rfl, hT, hB, hF⟩

theorem commit_ok (h : TwoAt w pa ga pb gb xs ys) (hm : mayB xs.length ys.length = true) (arg round : Int) (hmx : arg ≤ 9223372036854775807) :
    Calls Tryz.prog 66 #[vecv pa, vecv pb, .int .i64 arg, .int .i64 round] w fun e w' => e = .returned (.tuple #[.bool (cDone arg xs ys), .int .i64 0]) ∧ TwoAt w' pa ga pb gb (cXs arg xs ys) (cYs arg xs ys) ∧ Fr (fun k => k = ga ∨ k = gb) w w' := by
  have hmv := fun p => meth_len p
  have hm' : 1 ≤ xs.length ∧ xs.length ≤ 256 ∧ ys.length = xs.length := by simpa [mayB] using hm
  have la := h.a.row.lt
  have lb := h.b.row.lt
  obtain ⟨W3, hW3⟩ : ∃ W3, W3 = (((w.alloc (.cells #[vecv pa] 156)).alloc (.cells #[vecv pb] 156)).alloc (.cells #[.int .i64 arg] 3)).alloc (.cells #[.bool false] 4) := ⟨_, rfl⟩
  have T3 := four W3 hW3
  have F3 := T3.1
  have B1 := T3.2.1
  have B2 := T3.2.2.1
  have cg0 : W3.cell? ⟨w.heap.size + 1 + 1, 0, none⟩ = some (.int .i64 arg) := (T3.2.2.2.1.cell 0).trans rfl
  have B3 : Blk W3 (w.heap.size + 1 + 1 + 1) 4 #[.bool false] := T3.2.2.2.2
  clear T3
  have n0 := B3.lt
  have c0 : W3.cell? ⟨w.heap.size, 0, none⟩ = some (vecv pa) := (B1.cell 0).trans rfl
  have c1 : W3.cell? ⟨w.heap.size + 1, 0, none⟩ = some (vecv pb) := (B2.cell 0).trans rfl
  have c2 : W3.cell? ⟨w.heap.size + 1 + 1 + 1, 0, none⟩ = some (.bool false) := (B3.cell 0).trans rfl
  have f2 := B3.frozen 0
  have H3 := h.still F3
  have F4 : Fr (fun k => k = w.heap.size + 1 + 1 + 1) W3 (W3.setCell ⟨w.heap.size + 1 + 1 + 1, 0, none⟩ (.bool true)) := Fr.one _ _ _ _
  have H4 := H3.fr F4 (by have := h.a.head.lt; omega) (by omega) (by have := h.b.head.lt; omega) (by omega)
  have B4 : Blk (W3.setCell ⟨w.heap.size + 1 + 1 + 1, 0, none⟩ (.bool true)) (w.heap.size + 1 + 1 + 1) 4 #[.bool true] := B3.set_ 0 (.bool true)
  have key := commit_key (ca := w.heap.size) (cb := w.heap.size + 1) (cg := w.heap.size + 1 + 1) (cd := w.heap.size + 1 + 1 + 1) _ H4 hm'.2.2 hm'.2.1 arg (F4.cell c0 (by simp only []; omega)) (F4.cell c1 (by simp only []; omega)) (F4.cell cg0 (by simp only []; omega)) B4 (by omega) (by omega) (by omega) (by omega) (by omega) (by omega) (by omega) (by omega) (by omega) (by omega) (by omega) hmx
  have CK := check_any H3
  rw [hm] at CK
  have HL := hide (len_any H4.a)
  have HC := hide CK
  have HK := hide key
  have HF := hide ((F3.mono (S' := fun k => k = ga ∨ k = gb) (fun _ h => h.elim)).trans F4 (fun _ h => .inr (by omega)))
  unfold vecv at *
  clear key CK H3 h F3 F4 H4 B1 B2 B3 B4 hm hm'
  generalize cDone arg xs ys = dn at *
  go_enter Tryz.func66, Tryz.ntmps66
  go_wp2_with fail
  go_at_call 42
  rw [← hW3]
  refine HC.out.mono ?_
  rintro e w1 ⟨rfl, rfl⟩
  clear hW3
  unfold errB
  go_wp2_with fail
  go_at_call 154
  refine HL.out.mono ?_
  rintro e w1 ⟨rfl, rfl⟩
  go_wp2_with fail
  go_at_call 87
  refine HK.out.mono ?_
  rintro e w1 ⟨rfl, hT, hB, hF⟩
  have q0 : w1.cell? ⟨w.heap.size + 1 + 1 + 1, 0, none⟩ = some (.bool dn) := (hB.cell 0).trans rfl
  have q1 := hB.frozen 0
  have e0 : (w1.setCell ⟨w.heap.size + 1 + 1 + 1, 0, none⟩ (.bool dn)).cell? ⟨w.heap.size + 1 + 1 + 1, 0, none⟩ = some (.bool dn) := ((hB.set_ 0 (.bool dn)).cell 0).trans rfl
  have F5 : Fr (fun k => k = w.heap.size + 1 + 1 + 1) w1 (w1.setCell ⟨w.heap.size + 1 + 1 + 1, 0, none⟩ (.bool dn)) := Fr.one _ _ _ _
  have lpa := hT.a.head
  have H1 := hide (hT.fr F5 (hT.a.head.ne_ hB (by decide)) (by omega) (hT.b.head.ne_ hB (by decide)) (by omega))
  have H2 := hide ((HF.out.trans hF (by rintro k (h | h | h); exact .inl (.inl h); exact .inl (.inr h); exact .inr (by omega))).trans F5 (fun k h => .inr (by omega)))
  clear hT hF hB F5 lpa
  cases dn
  all_goals
    go_wp2
    refine bodyPost_ret (by simp [results, Tryz.results66, go_sem, e0]; try rfl) rfl ?_
    exact ⟨rfl, H1.out, H2.out⟩

theorem commit_bad (h : TwoAt w pa ga pb gb xs ys) (hm : mayB xs.length ys.length = false) (arg round : Int) :
    Calls Tryz.prog 66 #[vecv pa, vecv pb, .int .i64 arg, .int .i64 round] w fun e w' => e = .returned (.tuple #[.bool false, .int .i64 2]) ∧ Fr (fun _ => False) w w' := by
  obtain ⟨W3, hW3⟩ : ∃ W3, W3 = (((w.alloc (.cells #[vecv pa] 156)).alloc (.cells #[vecv pb] 156)).alloc (.cells #[.int .i64 arg] 3)).alloc (.cells #[.bool false] 4) := ⟨_, rfl⟩
  have T3 := four W3 hW3
  have F3 := T3.1
  have B1 := T3.2.1
  have B2 := T3.2.2.1
  have cg0 : W3.cell? ⟨w.heap.size + 1 + 1, 0, none⟩ = some (.int .i64 arg) := (T3.2.2.2.1.cell 0).trans rfl
  have B3 : Blk W3 (w.heap.size + 1 + 1 + 1) 4 #[.bool false] := T3.2.2.2.2
  clear T3
  have c2 : W3.cell? ⟨w.heap.size + 1 + 1 + 1, 0, none⟩ = some (.bool false) := (B3.cell 0).trans rfl
  have f2 := B3.frozen 0
  have e0 : (W3.setCell ⟨w.heap.size + 1 + 1 + 1, 0, none⟩ (.bool false)).cell? ⟨w.heap.size + 1 + 1 + 1, 0, none⟩ = some (.bool false) := ((B3.set_ 0 (.bool false)).cell 0).trans rfl
  have CK := check_any (h.still F3)
  rw [hm] at CK
  have HC := hide CK
  have HF := hide (F3.trans (Fr.one W3 (w.heap.size + 1 + 1 + 1) 0 (.bool false)) (fun k h => .inr (by omega)))
  unfold vecv at *
  clear CK h F3 B1 B2 B3 hm
  go_enter Tryz.func66, Tryz.ntmps66
  go_wp2_with fail
  go_at_call 42
  rw [← hW3]
  refine HC.out.mono ?_
  rintro e w1 ⟨rfl, rfl⟩
  clear hW3
  unfold errB
  go_wp2
  refine bodyPost_ret (by simp [results, Tryz.results66, go_sem, e0]; try rfl) rfl ?_
  exact ⟨rfl, HF.out⟩

theorem commit_nilA (p : Nat) (arg round : Int) :
    Calls Tryz.prog 66 #[.nilIface, vecv p, .int .i64 arg, .int .i64 round] w fun e w' => e = .returned (.tuple #[.bool false, .int .i64 1]) ∧ Fr (fun _ => False) w w' := by
  obtain ⟨W3, hW3⟩ : ∃ W3, W3 = (((w.alloc (.cells #[.nilIface] 156)).alloc (.cells #[vecv p] 156)).alloc (.cells #[.int .i64 arg] 3)).alloc (.cells #[.bool false] 4) := ⟨_, rfl⟩
  have T3 := four W3 hW3
  have F3 := T3.1
  have B1 := T3.2.1
  have B2 := T3.2.2.1
  have B3 : Blk W3 (w.heap.size + 1 + 1 + 1) 4 #[.bool false] := T3.2.2.2.2
  clear T3
  have c2 : W3.cell? ⟨w.heap.size + 1 + 1 + 1, 0, none⟩ = some (.bool false) := (B3.cell 0).trans rfl
  have f2 := B3.frozen 0
  have e0 : (W3.setCell ⟨w.heap.size + 1 + 1 + 1, 0, none⟩ (.bool false)).cell? ⟨w.heap.size + 1 + 1 + 1, 0, none⟩ = some (.bool false) := ((B3.set_ 0 (.bool false)).cell 0).trans rfl
  have HC := hide (check_nilA (vecv p) W3 (.inr ⟨p, rfl⟩))
  have HF := hide (F3.trans (Fr.one W3 (w.heap.size + 1 + 1 + 1) 0 (.bool false)) (fun k h => .inr (by omega)))
  unfold vecv at *
  clear F3 B1 B2 B3
  go_enter Tryz.func66, Tryz.ntmps66
  go_wp2_with fail
  go_at_call 42
  rw [← hW3]
  refine HC.out.mono ?_
  rintro e w1 ⟨rfl, rfl⟩
  clear hW3
  go_wp2
  refine bodyPost_ret (by simp [results, Tryz.results66, go_sem, e0]; try rfl) rfl ?_
  exact ⟨rfl, HF.out⟩
end
end Go.Proofs.YtjdbjahgimlhbaaGreat.cores
end
section
set_option linter.unusedVariables false
set_option maxRecDepth 100000
namespace Go.Proofs.YtjdbjahgimlhbaaGreat.rank
open Go.RowKit

section
variable {w : World} {pa ga pb gb ca cb : Nat} {xs ys : List Nat}
theorem begin_step (h : TwoAt w pa ga pb gb xs ys) (hca : w.cell? ⟨ca, 0, none⟩ = some (vecv pa)) (hcb : w.cell? ⟨cb, 0, none⟩ = some (vecv pb)) (h1 : cb ≠ ga) (i : Nat) (hi : i < xs.length) (hi' : i < ys.length) :
    Calls Tryz.prog 94 #[.int .i64 i, .pointer (some ⟨ca, 0, none⟩), .pointer (some ⟨cb, 0, none⟩)] w fun e w' => e = .returned (.int .i64 0) ∧ TwoAt w' pa ga pb gb (xs.set i 4294967296) (ys.set i 0) ∧ Fr (fun k => k = ga ∨ k = gb) w w' := by
  have hm := fun p => meth_set p
  unfold vecv at hca hcb
  have H := hide h
  clear h
  go_enter Tryz.func94, Tryz.ntmps94
  go_wp2_with fail
  go_at_call 155
  refine (set_in H.out.a i 4294967296 hi (by omega)).mono ?_
  rintro e w1 ⟨rfl, hp, hf⟩
  have hcb1 := hf.cell hcb h1
  have H1 := hide (H.out.setA hp hf)
  have HF := hide hf
  clear hp hf
  go_wp2_with fail
  go_at_call 155
  refine (set_in H1.out.b i 0 hi' (by omega)).mono ?_
  rintro e w2 ⟨rfl, hp, hf⟩
  have H2 := hide (H1.out.setB hp hf)
  have HF2 := hide ((HF.out.mono (S' := fun k => k = ga ∨ k = gb) (fun _ h => .inl h)).trans hf (fun _ h => .inl (.inr h)))
  clear hp hf
  go_wp2
  go_ret
  exact ⟨rfl, H2.out, HF2.out⟩

def okArg (arg : Int) : Bool := decide (1 ≤ arg ∧ arg ≤ 64)
def bX (n : Nat) : List Nat := (List.range n).map fun _ => 4294967296
def bY (n : Nat) : List Nat := (List.range n).map fun _ => 0

theorem begin_ok (h : TwoAt w pa ga pb gb xs ys) (hm : mayB xs.length ys.length = true) (arg : Int) (ha : okArg arg = true) :
    Calls Tryz.prog 50 #[vecv pa, vecv pb, .int .i64 arg] w fun e w' => e = .returned (.int .i64 0) ∧ TwoAt w' pa ga pb gb (bX xs.length) (bY xs.length) ∧ Fr (fun k => k = ga ∨ k = gb) w w' := by
  have hmv := fun p => meth_len p
  have hm' : 1 ≤ xs.length ∧ xs.length ≤ 256 ∧ ys.length = xs.length := by simpa [mayB] using hm
  have ha' : 1 ≤ arg ∧ arg ≤ 64 := by simpa [okArg] using ha
  obtain ⟨ha1, ha2⟩ := ha'
  obtain ⟨W2, hW2⟩ : ∃ W2, W2 = (w.alloc (.cells #[vecv pa] 152)).alloc (.cells #[vecv pb] 152) := ⟨_, rfl⟩
  have F2 : Fr (fun _ => False) w W2 := by rw [hW2]; exact ((Fr.refl _ _).alloc _).alloc _
  have c0 : W2.cell? ⟨w.heap.size, 0, none⟩ = some (vecv pa) := by rw [hW2]; simp
  have c1 : W2.cell? ⟨w.heap.size + 1, 0, none⟩ = some (vecv pb) := by rw [hW2]; simp
  have H2 := h.still F2
  have la := h.a.row.lt
  have lb := h.b.row.lt
  have key : Calls Tryz.prog 87 #[.int .i64 xs.length, .func (.func 94) #[] #[.pointer (some ⟨w.heap.size, 0, none⟩), .pointer (some ⟨w.heap.size + 1, 0, none⟩)]] W2 fun e w' => e = .returned (.int .i64 0) ∧ TwoAt w' pa ga pb gb (bX xs.length) (bY xs.length) ∧ Fr (fun k => k = ga ∨ k = gb) W2 w' := by
    refine (each_any 94 (fun args w => by kernel_rfl) #[.pointer (some ⟨w.heap.size, 0, none⟩), .pointer (some ⟨w.heap.size + 1, 0, none⟩)] xs.length
      (fun i w' => TwoAt w' pa ga pb gb (pre (fun _ => 4294967296) i xs) (pre (fun _ => 0) i ys) ∧ Fr (fun k => k = ga ∨ k = gb) W2 w') W2 ⟨by rw [pre_zero, pre_zero]; exact H2, Fr.refl _ _⟩ ?_ (by omega)).mono ?_
    · rintro i w' hi ⟨hT, hF⟩
      refine (begin_step hT (hF.cell c0 (by simp; omega)) (hF.cell c1 (by simp; omega)) (by omega) i (by rw [pre_len _ (by omega)]; omega) (by rw [pre_len _ (by omega)]; omega)).mono ?_
      rintro e w'' ⟨rfl, hT', hF'⟩
      rw [pre_set (fun _ => 4294967296) hi, pre_set (fun _ => 0) (show i < ys.length by omega)] at hT'
      exact ⟨rfl, hT', hF.trans hF' (fun k h => .inl h)⟩
    · rintro e w' ⟨rfl, hT, hF⟩
      rw [pre_full _ rfl, pre_full _ hm'.2.2] at hT
      exact ⟨rfl, hT, hF⟩
  have CK := check_any H2
  rw [hm] at CK
  have LN := len_any H2.a
  have K : ∀ e w', (e = Ending.returned (.int .i64 0) ∧ TwoAt w' pa ga pb gb (bX xs.length) (bY xs.length) ∧ Fr (fun k => k = ga ∨ k = gb) W2 w') → (e = .returned (.int .i64 0) ∧ TwoAt w' pa ga pb gb (bX xs.length) (bY xs.length) ∧ Fr (fun k => k = ga ∨ k = gb) w w') := by
    rintro e w' ⟨h1, h2, h3⟩
    exact ⟨h1, h2, (F2.mono (fun _ h => h.elim)).trans h3 (fun k h => .inl h)⟩
  refine Calls.mono ?_ K
  have HL := hide LN
  have HC := hide CK
  have HK := hide key
  unfold vecv at *
  clear K key CK LN H2 h F2 hm hm' ha
  go_enter Tryz.func50, Tryz.ntmps50
  go_wp2_with fail
  go_at_call 42
  rw [← hW2]
  refine HC.out.mono ?_
  rintro e w1 ⟨rfl, rfl⟩
  clear hW2
  unfold errB
  go_wp2_with fail
  go_at_call 154
  refine HL.out.mono ?_
  rintro e w1 ⟨rfl, rfl⟩
  go_wp2_with fail
  go_at_call 87
  refine HK.out.mono ?_
  rintro e w1 ⟨rfl, hT, hF⟩
  have H1 := hide hT
  have H2 := hide hF
  clear hT hF
  go_wp2
  go_ret
  exact ⟨rfl, H1.out, H2.out⟩

theorem begin_bad (h : TwoAt w pa ga pb gb xs ys) (arg : Int) (ha : (mayB xs.length ys.length && okArg arg) = false) :
    Calls Tryz.prog 50 #[vecv pa, vecv pb, .int .i64 arg] w fun e w' => e = .returned (.int .i64 2) ∧ Fr (fun _ => False) w w' := by
  obtain ⟨W2, hW2⟩ : ∃ W2, W2 = (w.alloc (.cells #[vecv pa] 152)).alloc (.cells #[vecv pb] 152) := ⟨_, rfl⟩
  have F2 : Fr (fun _ => False) w W2 := by rw [hW2]; exact ((Fr.refl _ _).alloc _).alloc _
  have H2 := h.still F2
  have CK := check_any H2
  have HF := hide F2
  by_cases hm : mayB xs.length ys.length = true
  · rw [hm] at CK
    have HC := hide CK
    have ha' : arg < 1 ∨ 64 < arg := by
      simp [hm, okArg] at ha
      omega
    unfold vecv at *
    clear CK H2 h F2 hm ha
    go_enter Tryz.func50, Tryz.ntmps50
    go_wp2_with fail
    go_at_call 42
    rw [← hW2]
    refine HC.out.mono ?_
    rintro e w1 ⟨rfl, rfl⟩
    clear hW2
    unfold errB
    rcases ha' with ha' | ha'
    · go_wp2
      go_ret
      exact ⟨rfl, HF.out⟩
    · go_wp2
      all_goals go_ret
      all_goals exact ⟨rfl, HF.out⟩
  · have hm' : mayB xs.length ys.length = false := by simpa using hm
    rw [hm'] at CK
    have HC := hide CK
    unfold vecv at *
    clear CK H2 h F2 hm hm' ha
    go_enter Tryz.func50, Tryz.ntmps50
    go_wp2_with fail
    go_at_call 42
    rw [← hW2]
    refine HC.out.mono ?_
    rintro e w1 ⟨rfl, rfl⟩
    clear hW2
    unfold errB
    go_wp2
    go_ret
    exact ⟨rfl, HF.out⟩

/-- one edge taken in -/
def step (xs : List Nat) (s : List Nat) (e : Int × Int × Nat) : List Nat := s.set e.2.1.toNat ((s.getD e.2.1.toNat 0 + xs.getD e.1.toNat 0 / e.2.2) % 18446744073709551616)
theorem step_len (xs s : List Nat) (e : Int × Int × Nat) : (step xs s e).length = s.length := by simp [step]

theorem add_div (y x many : Nat) : IntKind.u64.wrap ((y : Int) + IntKind.u64.wrap ((x : Int) / (many : Int))) = (((y + x / many) % 18446744073709551616 : Nat) : Int) := by
  simp [IntKind.wrap, IntKind.bits, IntKind.signed]
theorem shard_step (h : TwoAt w pa ga pb gb xs ys) (hca : w.cell? ⟨ca, 0, none⟩ = some (vecv pa)) (hcb : w.cell? ⟨cb, 0, none⟩ = some (vecv pb)) (u v many : Nat) (hu : u < xs.length) (hv : v < ys.length) (hm0 : 1 ≤ many) (hm1 : many ≤ 9223372036854775807) (hne : cb ≠ gb) :
    Calls Tryz.prog 95 #[.int .i64 u, .int .i64 v, .int .i64 many, .pointer (some ⟨ca, 0, none⟩), .pointer (some ⟨cb, 0, none⟩)] w fun e w' => e = .returned (.int .i64 0) ∧ TwoAt w' pa ga pb gb xs (step xs ys (u, v, many)) ∧ Fr (fun k => k = gb) w w' := by
  have hms := fun p => meth_set p
  have hmg := fun p => meth_get p
  unfold vecv at hca hcb
  have hx := h.a.lt _ (show xs.getD u 0 ∈ xs by simp [List.getD, hu])
  have hy := h.b.lt _ (show ys.getD v 0 ∈ ys by simp [List.getD, hv])
  have SV : step xs ys (u, v, many) = ys.set v ((ys.getD v 0 + xs.getD u 0 / many) % 18446744073709551616) := by simp [step]
  rw [SV]
  have H := hide h
  have GA := hide (get_in h.a u hu)
  have GB := hide (get_in h.b v hv)
  clear h SV
  generalize xs.getD u 0 = x at *
  generalize ys.getD v 0 = y at *
  go_enter Tryz.func95, Tryz.ntmps95
  go_wp2_with fail
  go_at_call 153
  refine GA.out.mono ?_
  rintro e w1 ⟨rfl, rfl⟩
  go_wp2_with fail
  go_at_call 153
  refine GB.out.mono ?_
  rintro e w1 ⟨rfl, rfl⟩
  have hnil : ∀ (p : Nat) (w : World), (nilAhead 309 67 (.pointer (some ⟨p, 0, none⟩)) "Set").run Tryz.prog w = .ok (some false) w := by intro p w; kernel_rfl
  have hn0 : ¬ (many = 0) := by omega
  have hz3 : IntKind.u64.wrap (many : Int) = many := by simp [IntKind.wrap, IntKind.bits, IntKind.signed]; omega
  have HD := hide (H.out.still (held_drew w))
  go_wp2_with fail
  go_region_held3 (fun w' => w'.cell? ⟨cb, 0, none⟩ = some (.iface 67 (.pointer (some ⟨pb, 0, none⟩))))
    (first | exact hcb | assumption)
    (first | (go_at_call 155; refine (set_z HD.out.b v ((y + x / many) % 18446744073709551616) _ (add_div y x many) hv (Nat.mod_lt _ (by omega))).mono ?_; rintro e w2 ⟨rfl, hp, hf⟩; have hcb1 := hf.cell hcb hne))
  have H2 := hide (HD.out.setB hp hf)
  have HF := hide (((held_drew w).mono (S' := fun k => k = gb) (fun _ h => h.elim)).trans hf (fun _ h => .inl h))
  clear hp hf
  go_wp2
  go_ret
  exact ⟨rfl, H2.out, HF.out⟩

section
variable {fr to : Int} {m c : Nat} {A : Option Addr} {vs : List Value} {L : List (List Int)}
theorem held4 {w w' : World} {p : Addr} {r : Nat} {u x y z : Value} (h : w.cell? p = some u ∧ w.cell? ⟨r, 0, none⟩ = some x ∧ w.cell? ⟨r, 1, none⟩ = some y ∧ w.cell? ⟨r, 2, none⟩ = some z) (hf : Fr (fun _ => False) w w') :
    w'.cell? p = some u ∧ w'.cell? ⟨r, 0, none⟩ = some x ∧ w'.cell? ⟨r, 1, none⟩ = some y ∧ w'.cell? ⟨r, 2, none⟩ = some z := ⟨hf.cell h.1 id, hf.cell h.2.1 id, hf.cell h.2.2.1 id, hf.cell h.2.2.2 id⟩
theorem three {w : World} {t1 t2 t3 : TypeId} {c1 c2 c3 : Array Value} :
    Blk (((w.alloc (.cells c1 t1)).alloc (.cells c2 t2)).alloc (.cells c3 t3)) w.heap.size t1 c1 ∧ Blk (((w.alloc (.cells c1 t1)).alloc (.cells c2 t2)).alloc (.cells c3 t3)) (w.heap.size + 1) t2 c2 ∧ Blk (((w.alloc (.cells c1 t1)).alloc (.cells c2 t2)).alloc (.cells c3 t3)) (w.heap.size + 2) t3 c3 := by
  refine ⟨((Blk.new w t1 c1).alloc _).alloc _, ?_, ?_⟩
  · have := (Blk.new (w.alloc (.cells c1 t1)) t2 c2).alloc (.cells c3 t3)
    simpa using this
  · have := Blk.new ((w.alloc (.cells c1 t1)).alloc (.cells c2 t2)) t3 c3
    simpa using this

theorem shard_ok (h : TwoAt w pa ga pb gb xs ys) (hm : mayB xs.length ys.length = true) (stay : ∀ w', Fr (fun k => k = gb) w w' → LsAt w' vs A m L) (hfit : fitsB fr to xs.length L = true) (round : Int) (hr : 0 ≤ round) :
    Calls Tryz.prog 52 #[vecv pa, vecv pb, .agg #[.int .i64 fr, .int .i64 to, .slice A m c], .int .i64 round] w fun e w' => e = .returned (.int .i64 0) ∧ TwoAt w' pa ga pb gb xs ((edgs fr L).foldl (step xs) ys) ∧ Fr (fun k => k = gb) w w' := by
  have hmv := fun p => meth_len p
  have hm' : 1 ≤ xs.length ∧ xs.length ≤ 256 ∧ ys.length = xs.length := by simpa [mayB] using hm
  have hf' : (0 ≤ fr ∧ fr ≤ to ∧ to ≤ (xs.length : Int) ∧ (L.length : Int) = to - fr) ∧ okLs xs.length L = true := by simpa [fitsB] using hfit
  have la := h.a.row.lt
  have lb := h.b.row.lt
  have ls := stay w (Fr.refl _ _)
  have key : ∀ w1, Fr (fun _ => False) w w1 → w1.cell? ⟨w.heap.size, 0, none⟩ = some (vecv pa) → w1.cell? ⟨w.heap.size + 1, 0, none⟩ = some (vecv pb) →
      Calls Tryz.prog 90 #[.agg #[.int .i64 fr, .int .i64 to, .slice A m c], .func (.func 95) #[] #[.pointer (some ⟨w.heap.size, 0, none⟩), .pointer (some ⟨w.heap.size + 1, 0, none⟩)]] w1 fun e w' => e = .returned (.int .i64 0) ∧ TwoAt w' pa ga pb gb xs ((edgs fr L).foldl (step xs) ys) ∧ Fr (fun k => k = gb) w w' := by
    intro w1 F1 c0 c1
    have G1 : Fr (fun _ => False) w (w1.alloc (.cells #[.int .i64 fr, .int .i64 to, .slice A m c] 43)) := F1.alloc _
    have l1 := World.block_lt_of_cell? w1 _ c0
    have l2 := World.block_lt_of_cell? w1 _ c1
    simp only at l1 l2
    refine (edges_any 95 (fun args w => by kernel_rfl) #[.pointer (some ⟨w.heap.size, 0, none⟩), .pointer (some ⟨w.heap.size + 1, 0, none⟩)] fr to m c A vs L w1 (step xs)
      (fun e => (0 ≤ e.1 ∧ e.1 < xs.length) ∧ (0 ≤ e.2.1 ∧ e.2.1 < xs.length) ∧ 1 ≤ e.2.2 ∧ e.2.2 ≤ 9223372036854775807)
      (fun s w' => TwoAt w' pa ga pb gb xs s ∧ s.length = ys.length ∧ Fr (fun k => k = gb) (w1.alloc (.cells #[.int .i64 fr, .int .i64 to, .slice A m c] 43)) w') ys
      hf'.1.1 (by have := ls.1; omega) ls.1 (edgs_ok L fr hf'.2 hf'.1.1 (by omega) ls.lens) ⟨h.still G1, rfl, Fr.refl _ _⟩ ?_ ?_).mono ?_
    · rintro s w' ⟨hT, _, hF⟩
      exact ⟨stay w' ((G1.mono (fun _ h => h.elim)).trans hF (fun _ h => .inl h)), hF.cell (by simp) (by simp; omega)⟩
    · rintro s ⟨u, v, many⟩ w' ⟨⟨hu0, hu⟩, ⟨hv0, hv⟩, hk0, hk1⟩ ⟨hT, hL, hF⟩
      simp only at hu0 hu hv0 hv hk0 hk1
      obtain ⟨u, rfl⟩ := Int.eq_ofNat_of_zero_le hu0
      obtain ⟨v, rfl⟩ := Int.eq_ofNat_of_zero_le hv0
      have d0 := hF.cell ((held_alloc' w1 (.cells #[.int .i64 fr, .int .i64 to, .slice A m c] 43)).cell c0 id) (by simp; omega)
      have d1 := hF.cell ((held_alloc' w1 (.cells #[.int .i64 fr, .int .i64 to, .slice A m c] 43)).cell c1 id) (by simp; omega)
      refine (shard_step hT d0 d1 u v many (by omega) (by omega) hk0 hk1 (by omega)).mono ?_
      rintro e w'' ⟨rfl, hT', hF'⟩
      exact ⟨rfl, hT', (step_len _ _ _).trans hL, hF.trans hF' (fun _ h => .inl h)⟩
    · rintro e w' ⟨rfl, hT, _, hF⟩
      exact ⟨rfl, hT, (G1.mono (fun _ h => h.elim)).trans hF (fun _ h => .inl h)⟩
  obtain ⟨W3, hW3⟩ : ∃ W3, W3 = ((w.alloc (.cells #[vecv pa] 152)).alloc (.cells #[vecv pb] 152)).alloc (.cells #[.int .i64 fr, .int .i64 to, .slice A m c] 43) := ⟨_, rfl⟩
  have F3 : Fr (fun _ => False) w W3 := by rw [hW3]; exact (((Fr.refl _ _).alloc _).alloc _).alloc _
  have T3 := three (w := w) (t1 := 152) (t2 := 152) (t3 := 43) (c1 := #[vecv pa]) (c2 := #[vecv pb]) (c3 := #[.int .i64 fr, .int .i64 to, .slice A m c])
  rw [← hW3] at T3
  have c0 : W3.cell? ⟨w.heap.size, 0, none⟩ = some (vecv pa) := (T3.1.cell 0).trans rfl
  have c1 : W3.cell? ⟨w.heap.size + 1, 0, none⟩ = some (vecv pb) := (T3.2.1.cell 0).trans rfl
  have s0 : W3.cell? ⟨w.heap.size + 2, 0, none⟩ = some (.int .i64 fr) := (T3.2.2.cell 0).trans rfl
  have s1 : W3.cell? ⟨w.heap.size + 2, 1, none⟩ = some (.int .i64 to) := (T3.2.2.cell 1).trans rfl
  have s2 : W3.cell? ⟨w.heap.size + 2, 2, none⟩ = some (.slice A m c) := (T3.2.2.cell 2).trans rfl
  clear T3
  have H3 := h.still F3
  have CK := check_any H3
  rw [hm] at CK
  have FT := fits_any fr to xs.length m c A L W3.drew ((ls.up F3).up (held_drew W3)).lists hm'.2.1
  rw [hfit] at FT
  have HC := hide CK
  have HT := hide FT
  have HK := hide key
  have HL := hide (len_any (H3.still (held_drew W3)).a)
  have HF := hide F3
  unfold vecv at *
  clear key CK FT H3 h F3 hm hm' hf' hfit stay ls
  go_enter Tryz.func52, Tryz.ntmps52
  go_wp2_with fail
  go_at_call 42
  rw [← hW3]
  refine HC.out.mono ?_
  rintro e w1 ⟨rfl, rfl⟩
  clear hW3
  unfold errB at *
  go_wp2_with fail
  go_region_held3 (fun w' => w'.cell? ⟨w.heap.size, 0, none⟩ = some (.iface 67 (.pointer (some ⟨pa, 0, none⟩))) ∧ w'.cell? ⟨w.heap.size + 2, 0, none⟩ = some (.int .i64 fr) ∧ w'.cell? ⟨w.heap.size + 2, 1, none⟩ = some (.int .i64 to) ∧ w'.cell? ⟨w.heap.size + 2, 2, none⟩ = some (.slice A m c))
    (first | exact ⟨c0, s0, s1, s2⟩ | assumption | exact held4 (by assumption) hf | exact held4 (w := W3.drew) ⟨c0, s0, s1, s2⟩ hf)
    (first
      | (go_at_call 154; refine HL.out.mono ?_; rintro e w1 ⟨rfl, rfl⟩)
      | (go_at_call 89; refine HT.out.mono ?_; rintro e w1 ⟨rfl, hf⟩))
  rename_i hH
  have d0 := hH.1
  have d1 := hf.cell (w := W3.drew) c1 id
  have e0 : w1.cell? ⟨w.heap.size + 1 + 1, 0, none⟩ = some (.int .i64 fr) := hH.2.1
  have e1 : w1.cell? ⟨w.heap.size + 1 + 1, 1, none⟩ = some (.int .i64 to) := hH.2.2.1
  have e2 : w1.cell? ⟨w.heap.size + 1 + 1, 2, none⟩ = some (.slice A m c) := hH.2.2.2
  have HG := hide ((HF.out.then_ (held_drew _)).then_ hf)
  have HE := hide (HK.out w1 HG.out d0 d1)
  clear hH hf c0 c1 s0 s1 s2 HK HL
  go_wp2_with fail
  go_at_call 90
  refine HE.out.mono ?_
  rintro e w2 ⟨rfl, hT, hF⟩
  have H1 := hide hT
  have H2 := hide hF
  clear hT hF
  go_wp2
  go_ret
  exact ⟨rfl, H1.out, H2.out⟩
end

section
variable {fr to : Int} {m c : Nat} {A : Option Addr} {L : List (List Int)}
theorem shard_bad (h : TwoAt w pa ga pb gb xs ys) (hl : ListsAt w w.heap.size A m L) (round : Int) (hbad : (mayB xs.length ys.length && fitsB fr to xs.length L && decide (0 ≤ round)) = false) :
    Calls Tryz.prog 52 #[vecv pa, vecv pb, .agg #[.int .i64 fr, .int .i64 to, .slice A m c], .int .i64 round] w fun e w' => e = .returned (.int .i64 2) ∧ Fr (fun _ => False) w w' := by
  have hmv := fun p => meth_len p
  have hx := h.a.len
  obtain ⟨W3, hW3⟩ : ∃ W3, W3 = ((w.alloc (.cells #[vecv pa] 152)).alloc (.cells #[vecv pb] 152)).alloc (.cells #[.int .i64 fr, .int .i64 to, .slice A m c] 43) := ⟨_, rfl⟩
  have F3 : Fr (fun _ => False) w W3 := by rw [hW3]; exact (((Fr.refl _ _).alloc _).alloc _).alloc _
  have T3 := three (w := w) (t1 := 152) (t2 := 152) (t3 := 43) (c1 := #[vecv pa]) (c2 := #[vecv pb]) (c3 := #[.int .i64 fr, .int .i64 to, .slice A m c])
  rw [← hW3] at T3
  have c0 : W3.cell? ⟨w.heap.size, 0, none⟩ = some (vecv pa) := (T3.1.cell 0).trans rfl
  have s0 : W3.cell? ⟨w.heap.size + 2, 0, none⟩ = some (.int .i64 fr) := (T3.2.2.cell 0).trans rfl
  have s1 : W3.cell? ⟨w.heap.size + 2, 1, none⟩ = some (.int .i64 to) := (T3.2.2.cell 1).trans rfl
  have s2 : W3.cell? ⟨w.heap.size + 2, 2, none⟩ = some (.slice A m c) := (T3.2.2.cell 2).trans rfl
  clear T3
  have H3 := h.still F3
  have CK := check_any H3
  have HF := hide F3
  by_cases hm : mayB xs.length ys.length = true
  · rw [hm] at CK
    have FT := fits_any fr to xs.length m c A L W3.drew ((hl.up F3).up (held_drew W3)) hx
    have HL := hide (len_any (H3.still (held_drew W3)).a)
    by_cases hfit : fitsB fr to xs.length L = true
    · have hr : round < 0 := by simpa [hm, hfit] using hbad
      rw [hfit] at FT
      have HC := hide CK
      have HT := hide FT
      unfold vecv at *
      clear CK FT H3 h F3 hm hfit hl hbad
      go_enter Tryz.func52, Tryz.ntmps52
      go_wp2_with fail
      go_at_call 42
      rw [← hW3]
      refine HC.out.mono ?_
      rintro e w1 ⟨rfl, rfl⟩
      clear hW3
      unfold errB at *
      go_wp2_with fail
      go_region_held3 (fun w' => w'.cell? ⟨w.heap.size, 0, none⟩ = some (.iface 67 (.pointer (some ⟨pa, 0, none⟩))) ∧ w'.cell? ⟨w.heap.size + 2, 0, none⟩ = some (.int .i64 fr) ∧ w'.cell? ⟨w.heap.size + 2, 1, none⟩ = some (.int .i64 to) ∧ w'.cell? ⟨w.heap.size + 2, 2, none⟩ = some (.slice A m c))
        (first | exact ⟨c0, s0, s1, s2⟩ | assumption | exact held4 (by assumption) hf | exact held4 (w := W3.drew) ⟨c0, s0, s1, s2⟩ hf)
        (first
          | (go_at_call 154; refine HL.out.mono ?_; rintro e w1 ⟨rfl, rfl⟩)
          | (go_at_call 89; refine HT.out.mono ?_; rintro e w1 ⟨rfl, hf⟩))
      have HG := hide ((HF.out.then_ (held_drew _)).then_ hf)
      clear hf c0 s0 s1 s2 HL
      go_wp2
      go_ret
      exact ⟨rfl, HG.out⟩
    · have hfit' : fitsB fr to xs.length L = false := by simpa using hfit
      rw [hfit'] at FT
      have HC := hide CK
      have HT := hide FT
      unfold vecv at *
      clear CK FT H3 h F3 hm hfit hfit' hl hbad
      go_enter Tryz.func52, Tryz.ntmps52
      go_wp2_with fail
      go_at_call 42
      rw [← hW3]
      refine HC.out.mono ?_
      rintro e w1 ⟨rfl, rfl⟩
      clear hW3
      unfold errB at *
      go_wp2_with fail
      go_region_held3 (fun w' => w'.cell? ⟨w.heap.size, 0, none⟩ = some (.iface 67 (.pointer (some ⟨pa, 0, none⟩))) ∧ w'.cell? ⟨w.heap.size + 2, 0, none⟩ = some (.int .i64 fr) ∧ w'.cell? ⟨w.heap.size + 2, 1, none⟩ = some (.int .i64 to) ∧ w'.cell? ⟨w.heap.size + 2, 2, none⟩ = some (.slice A m c))
        (first | exact ⟨c0, s0, s1, s2⟩ | assumption | exact held4 (by assumption) hf | exact held4 (w := W3.drew) ⟨c0, s0, s1, s2⟩ hf)
        (first
          | (go_at_call 154; refine HL.out.mono ?_; rintro e w1 ⟨rfl, rfl⟩)
          | (go_at_call 89; refine HT.out.mono ?_; rintro e w1 ⟨rfl, hf⟩))
      have HG := hide ((HF.out.then_ (held_drew _)).then_ hf)
      clear hf c0 s0 s1 s2 HL
      go_wp2
      go_ret
      exact ⟨rfl, HG.out⟩
  · have hm' : mayB xs.length ys.length = false := by simpa using hm
    rw [hm'] at CK
    have HC := hide CK
    unfold vecv at *
    clear CK H3 h F3 hm hm' hbad hl c0 s0 s1 s2
    go_enter Tryz.func52, Tryz.ntmps52
    go_wp2_with fail
    go_at_call 42
    rw [← hW3]
    refine HC.out.mono ?_
    rintro e w1 ⟨rfl, rfl⟩
    clear hW3
    unfold errB
    go_wp2
    go_ret
    exact ⟨rfl, HF.out⟩
end

/-- who is none is refused -/
theorem begin_nilA (p : Nat) (arg : Int) : Calls Tryz.prog 50 #[.nilIface, vecv p, .int .i64 arg] w fun e w' => e = .returned (.int .i64 1) ∧ Fr (fun _ => False) w w' := by
  have HC := hide (fun w => check_nilA (vecv p) w (.inr ⟨p, rfl⟩))
  unfold vecv at *
  go_enter Tryz.func50, Tryz.ntmps50
  go_wp2_with fail
  go_at_call 42
  refine (HC.out _).mono ?_
  rintro e w1 ⟨rfl, rfl⟩
  go_wp2
  go_ret
  exact ⟨rfl, ((Fr.refl _ _).alloc _).alloc _⟩
theorem begin_nilB (p : Nat) (arg : Int) : Calls Tryz.prog 50 #[vecv p, .nilIface, .int .i64 arg] w fun e w' => e = .returned (.int .i64 1) ∧ Fr (fun _ => False) w w' := by
  have HC := hide (fun w => check_nilB p w)
  unfold vecv at *
  go_enter Tryz.func50, Tryz.ntmps50
  go_wp2_with fail
  go_at_call 42
  refine (HC.out _).mono ?_
  rintro e w1 ⟨rfl, rfl⟩
  go_wp2
  go_ret
  exact ⟨rfl, ((Fr.refl _ _).alloc _).alloc _⟩
theorem begin_empty {p g : Nat} (h : PlainAt w p g []) (arg : Int) : Calls Tryz.prog 50 #[vecv p, vecv p, .int .i64 arg] w fun e w' => e = .returned (.int .i64 2) ∧ Fr (fun _ => False) w w' := by
  have HC := hide (fun w' (hf : Fr (fun _ => False) w w') => check_empty (h.fr hf id id))
  have HF := hide (((Fr.refl (fun _ => False) w).alloc (.cells #[vecv p] 152)).alloc (.cells #[vecv p] 152))
  unfold vecv at *
  clear h
  go_enter Tryz.func50, Tryz.ntmps50
  go_wp2_with fail
  go_at_call 42
  refine (HC.out _ HF.out).mono ?_
  rintro e w1 ⟨rfl, rfl⟩
  go_wp2
  go_ret
  exact ⟨rfl, HF.out⟩
theorem shard_nilB (p : Nat) (a : Array Value) (round : Int) (ha : a.size = 3) : Calls Tryz.prog 52 #[vecv p, .nilIface, .agg a, .int .i64 round] w fun e w' => e = .returned (.int .i64 1) ∧ Fr (fun _ => False) w w' := by
  have HC := hide (fun w => check_nilB p w)
  unfold vecv at *
  go_enter Tryz.func52, Tryz.ntmps52
  go_wp2_with fail
  go_at_call 42
  refine (HC.out _).mono ?_
  rintro e w1 ⟨rfl, rfl⟩
  go_wp2
  go_ret
  exact ⟨rfl, (((Fr.refl _ _).alloc _).alloc _).alloc _⟩
theorem commit_nilA (p : Nat) (arg round : Int) : Calls Tryz.prog 54 #[.nilIface, vecv p, .int .i64 arg, .int .i64 round] w fun e w' => e = .returned (.tuple #[.bool false, .int .i64 1]) ∧ Fr (fun _ => False) w w' := by
  have HC := hide (fun w => check_nilA (vecv p) w (.inr ⟨p, rfl⟩))
  unfold vecv at *
  go_enter Tryz.func54, Tryz.ntmps54
  go_wp2_with fail
  go_at_call 42
  refine (HC.out _).mono ?_
  rintro e w1 ⟨rfl, rfl⟩
  go_wp2
  go_ret2
  exact ⟨rfl, ((Fr.refl _ _).alloc _).alloc _⟩

def cF (y : Nat) : Nat := (644245094 + (y * 850 % 18446744073709551616) / 1000) % 18446744073709551616
theorem cF_eq (y : Nat) : IntKind.u64.wrap (644245094 + IntKind.u64.wrap (IntKind.u64.wrap ((y : Int) * 850) / 1000)) = ((cF y : Nat) : Int) := by
  simp [IntKind.wrap, IntKind.bits, IntKind.signed, cF]
theorem commit_step (h : TwoAt w pa ga pb gb xs ys) (hca : w.cell? ⟨ca, 0, none⟩ = some (vecv pa)) (hcb : w.cell? ⟨cb, 0, none⟩ = some (vecv pb)) (h1 : cb ≠ ga) (i : Nat) (hi : i < xs.length) (hi' : i < ys.length) :
    Calls Tryz.prog 96 #[.int .i64 i, .pointer (some ⟨cb, 0, none⟩), .pointer (some ⟨ca, 0, none⟩)] w fun e w' => e = .returned (.int .i64 0) ∧ TwoAt w' pa ga pb gb (xs.set i (cF (ys.getD i 0))) (ys.set i 0) ∧ Fr (fun k => k = ga ∨ k = gb) w w' := by
  have hm := fun p => meth_set p
  have hg := fun p => meth_get p
  unfold vecv at hca hcb
  have H := hide h
  have GB := hide (get_in h.b i hi')
  clear h
  generalize ys.getD i 0 = y at *
  go_enter Tryz.func96, Tryz.ntmps96
  go_wp2_with fail
  go_at_call 153
  refine GB.out.mono ?_
  rintro e w1 ⟨rfl, rfl⟩
  go_wp2_with fail
  go_at_call 155
  refine (set_z H.out.a i (cF y) _ (cF_eq y) hi (Nat.mod_lt _ (by omega))).mono ?_
  rintro e w1 ⟨rfl, hp, hf⟩
  have hcb1 := hf.cell hcb h1
  have H1 := hide (H.out.setA hp hf)
  have HF := hide hf
  clear hp hf
  go_wp2_with fail
  go_at_call 155
  refine (set_in H1.out.b i 0 hi' (by omega)).mono ?_
  rintro e w2 ⟨rfl, hp, hf⟩
  have H2 := hide (H1.out.setB hp hf)
  have HF2 := hide ((HF.out.mono (S' := fun k => k = ga ∨ k = gb) (fun _ h => .inl h)).trans hf (fun _ h => .inl (.inr h)))
  clear hp hf
  go_wp2
  go_ret
  exact ⟨rfl, H2.out, HF2.out⟩

/-- a round's end, where the rows are of two places, and two rounds are asked -/
theorem commit_two (h : TwoAt w pa ga pb gb xs ys) (hm : mayB xs.length ys.length = true) (round : Int) (hr : round = 0 ∨ round = 1) :
    Calls Tryz.prog 54 #[vecv pa, vecv pb, .int .i64 2, .int .i64 round] w fun e w' => e = .returned (.tuple #[.bool (decide (round = 1)), .int .i64 0]) ∧ TwoAt w' pa ga pb gb ((List.range xs.length).map fun i => cF (ys.getD i 0)) (bY xs.length) ∧ Fr (fun k => k = ga ∨ k = gb) w w' := by
  have hmv := fun p => meth_len p
  have hm' : 1 ≤ xs.length ∧ xs.length ≤ 256 ∧ ys.length = xs.length := by simpa [mayB] using hm
  obtain ⟨W2, hW2⟩ : ∃ W2, W2 = (w.alloc (.cells #[vecv pa] 152)).alloc (.cells #[vecv pb] 152) := ⟨_, rfl⟩
  have F2 : Fr (fun _ => False) w W2 := by rw [hW2]; exact ((Fr.refl _ _).alloc _).alloc _
  have c0 : W2.cell? ⟨w.heap.size, 0, none⟩ = some (vecv pa) := by rw [hW2]; simp
  have c1 : W2.cell? ⟨w.heap.size + 1, 0, none⟩ = some (vecv pb) := by rw [hW2]; simp
  have H2 := h.still F2
  have la := h.a.row.lt
  have lb := h.b.row.lt
  have key : Calls Tryz.prog 87 #[.int .i64 xs.length, .func (.func 96) #[] #[.pointer (some ⟨w.heap.size + 1, 0, none⟩), .pointer (some ⟨w.heap.size, 0, none⟩)]] W2 fun e w' => e = .returned (.int .i64 0) ∧ TwoAt w' pa ga pb gb ((List.range xs.length).map fun i => cF (ys.getD i 0)) (bY xs.length) ∧ Fr (fun k => k = ga ∨ k = gb) W2 w' := by
    refine (each_any 96 (fun args w => by kernel_rfl) #[.pointer (some ⟨w.heap.size + 1, 0, none⟩), .pointer (some ⟨w.heap.size, 0, none⟩)] xs.length
      (fun i w' => TwoAt w' pa ga pb gb (pre (fun i => cF (ys.getD i 0)) i xs) (pre (fun _ => 0) i ys) ∧ Fr (fun k => k = ga ∨ k = gb) W2 w') W2 ⟨by rw [pre_zero, pre_zero]; exact H2, Fr.refl _ _⟩ ?_ (by omega)).mono ?_
    · rintro i w' hi ⟨hT, hF⟩
      refine (commit_step hT (hF.cell c0 (by simp; omega)) (hF.cell c1 (by simp; omega)) (by omega) i (by rw [pre_len _ (by omega)]; omega) (by rw [pre_len _ (by omega)]; omega)).mono ?_
      rintro e w'' ⟨rfl, hT', hF'⟩
      rw [pre_get (fun _ => 0) (show i < ys.length by omega), pre_set (fun i => cF (ys.getD i 0)) hi, pre_set (fun _ => 0) (show i < ys.length by omega)] at hT'
      exact ⟨rfl, hT', hF.trans hF' (fun k h => .inl h)⟩
    · rintro e w' ⟨rfl, hT, hF⟩
      rw [pre_full _ rfl, pre_full _ hm'.2.2] at hT
      exact ⟨rfl, hT, hF⟩
  have CK := check_any H2
  rw [hm] at CK
  have LN := len_any H2.a
  have K : ∀ e w', (e = Ending.returned (.tuple #[.bool (decide (round = 1)), .int .i64 0]) ∧ TwoAt w' pa ga pb gb ((List.range xs.length).map fun i => cF (ys.getD i 0)) (bY xs.length) ∧ Fr (fun k => k = ga ∨ k = gb) W2 w') → (e = .returned (.tuple #[.bool (decide (round = 1)), .int .i64 0]) ∧ TwoAt w' pa ga pb gb ((List.range xs.length).map fun i => cF (ys.getD i 0)) (bY xs.length) ∧ Fr (fun k => k = ga ∨ k = gb) w w') := by
    rintro e w' ⟨h1, h2, h3⟩
    exact ⟨h1, h2, (F2.mono (fun _ h => h.elim)).trans h3 (fun k h => .inl h)⟩
  refine Calls.mono ?_ K
  have HL := hide LN
  have HC := hide CK
  have HK := hide key
  unfold vecv at *
  clear K key CK LN H2 h F2 hm hm'
  rcases hr with rfl | rfl
  all_goals
    go_enter Tryz.func54, Tryz.ntmps54
    go_wp2_with fail
    go_at_call 42
    rw [← hW2]
    refine HC.out.mono ?_
    rintro e w1 ⟨rfl, rfl⟩
    clear hW2
    unfold errB
    go_wp2_with fail
    go_at_call 154
    refine HL.out.mono ?_
    rintro e w1 ⟨rfl, rfl⟩
    go_wp2_with fail
    go_at_call 87
    refine HK.out.mono ?_
    rintro e w1 ⟨rfl, hT, hF⟩
    have H1 := hide hT
    have H2 := hide hF
    clear hT hF
    go_wp2
    go_ret2
    exact ⟨rfl, H1.out, H2.out⟩
end
end Go.Proofs.YtjdbjahgimlhbaaGreat.rank
end
