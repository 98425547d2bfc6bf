/- Parts of the proof of KernelsTruth: no conditions of their own. -/
import Derived.Test.YtjdbjahgimlhbaaGreatKernelsTruthPk5
import Derived.Test.YtjdbjahgimlhbaaGreatKernelsTruthPk6
import Derived.Deep.RegionHeld3
section
set_option linter.unusedVariables false
set_option maxRecDepth 100000
namespace Go.Proofs.YtjdbjahgimlhbaaGreat
open Go.RowKit

theorem held3 {w w1 w2 : World} {p q : Addr} {u v : Value} (h : w1.cell? p = some u ∧ w1.cell? q = some v ∧ Fr (fun _ => False) w w1) (hf : Fr (fun _ => False) w1 w2) : w2.cell? p = some u ∧ w2.cell? q = some v ∧ Fr (fun _ => False) w w2 := ⟨hf.cell h.1 id, hf.cell h.2.1 id, h.2.2.then_ hf⟩
theorem held3f {w w1 : World} {a b : Prop} (h : a ∧ b ∧ Fr (fun _ => False) w w1) : Fr (fun _ => False) w w1 := h.2.2
theorem same_any (A A' : Option Addr) (n c m d B : Nat) (xs ys : List Nat) (w : World) (ha : Reads w B 1 A n (xs.map u64v)) (hb : Reads w B 1 A' m (ys.map u64v)) (hn : n ≤ 9223372036854775807) :
    Calls Tryz.prog 13 #[.slice A n c, .slice A' m d] w fun e w' => e = .returned (.bool (decide (xs = ys))) ∧ Fr (fun _ => False) w w' := by
  have la : xs.length = n := by have := ha.1; simpa using this
  have lb : ys.length = m := by have := hb.1; simpa using this
  by_cases hnm : n = m
  · have hb1 : ((n : Int) != (m : Int)) = false := by simp [hnm]
    have LA := hide la
    have LB := hide lb
    have HNM := hide hnm
    have hle : n ≤ m := by omega
    clear la lb hnm
    go_enter Tryz.func13, Tryz.ntmps13
    go_wp2
    go_loopw [5] (fun i wr => ∃ k q : Nat, k ≤ n ∧ i = .int .i64 k ∧ wr = w.drewN q ∧ Hid (xs.take k = ys.take k)) (fun i _ => n - (intOf i).toNat)
    case atStart => exact ⟨0, 0, by omega, rfl, rfl, hide rfl⟩
    case round =>
      obtain ⟨k, q, hk, rfl, rfl, HK⟩ := hrel
      by_cases hkn : k < n
      · obtain ⟨b1, o1, u1, rfl, _, hu1, hc1⟩ := ha.at_ hkn
        obtain ⟨b2, o2, u2, rfl, _, hu2, hc2⟩ := hb.at_ (show k < m by omega)
        have lx : k < xs.length := by rw [LA.out]; omega
        have ly : k < ys.length := by rw [LB.out]; omega
        obtain rfl : u1 = u64v xs[k] := by simp [lx] at hu1; exact hu1.symm
        obtain rfl : u2 = u64v ys[k] := by simp [ly] at hu2; exact hu2.symm
        obtain ⟨x, hx⟩ : ∃ x, x = xs[k] := ⟨_, rfl⟩
        obtain ⟨y, hy⟩ : ∃ y, y = ys[k] := ⟨_, rfl⟩
        rw [← hx] at hc1
        rw [← hy] at hc2
        unfold u64v at hc1 hc2
        have HX := hide hx
        have HY := hide hy
        have hkm : k < m := by omega
        clear hx hy hu1 hu2 ha hb
        by_cases hxy : x = y
        · have hbe : ((x : Int) != (y : Int)) = false := by simp [hxy]
          have HXY := hide hxy
          clear hxy
          go_wp2
          go_quiet (fail)
          go_wp2
          go_roundw
          case rel => exact ⟨k + 1, _, by omega, by go_num, rfl, hide (by rw [List.take_succ_eq_append_getElem lx, List.take_succ_eq_append_getElem ly, HK.out, ← HX.out, ← HY.out, HXY.out])⟩
          case measure => simp [intOf]; omega
        · have hbe : ((x : Int) != (y : Int)) = true := by simp; omega
          have hne : decide (xs = ys) = false := by
            simp only [decide_eq_false_iff_not]
            rintro rfl
            exact hxy (HX.out.trans HY.out.symm)
          have HN := hide hne
          clear hne hxy
          go_wp2
          go_quiet (fail)
          go_wp2
          go_ret
          exact ⟨by rw [HN.out]; rfl, ((Fr.refl _ _).drewN _).drewN _⟩
      · have he : decide (xs = ys) = true := by
          have h := HK.out
          have hnm := HNM.out
          rw [List.take_of_length_le (by rw [LA.out]; omega), List.take_of_length_le (by rw [LB.out]; omega)] at h
          simpa using h
        have HN := hide he
        clear he ha hb
        go_wp2
        go_ret
        exact ⟨by rw [HN.out]; rfl, (Fr.refl _ _).drewN _⟩
  · have hb1 : ((n : Int) != (m : Int)) = true := by simp; omega
    have hne : decide (xs = ys) = false := by
      simp only [decide_eq_false_iff_not]
      rintro rfl
      exact hnm (la.symm.trans lb)
    rw [hne]
    clear la lb hnm hne
    go_enter Tryz.func13, Tryz.ntmps13
    go_wp2
    go_ret
    exact ⟨rfl, Fr.refl _ _⟩


end Go.Proofs.YtjdbjahgimlhbaaGreat
end
section
set_option linter.unusedVariables false
set_option maxRecDepth 100000
namespace Go.Proofs.YtjdbjahgimlhbaaGreat
open Go.RowKit

theorem reads_one {w : World} {g : Nat} {v : Int} (h : Blk w g 3 #[.int .i64 v]) : Reads w w.heap.size 1 (some ⟨g, 0, none⟩) [v].length ([v].map (Value.int .i64)) := Reads.blk h rfl
theorem reads_lit {w : World} {t : TypeId} {ys : List Nat} {v : List Value} (hv : v = ys.map u64v) : Reads (w.alloc (.cells v.toArray t)) (w.alloc (.cells v.toArray t)).heap.size 1 (some ⟨w.heap.size, 0, none⟩) ys.length (ys.map u64v) := by
  subst hv
  exact Reads.blk (Blk.new w t _) (by simp)
theorem four {w : World} {t1 t2 t3 t4 : TypeId} {c1 c2 c3 c4 : Array Value} (W : World) (hW : W = (((w.alloc (.cells c1 t1)).alloc (.cells c2 t2)).alloc (.cells c3 t3)).alloc (.cells c4 t4)) :
    Fr (fun _ => False) w W ∧ Blk W w.heap.size t1 c1 ∧ Blk W (w.heap.size + 1) t2 c2 ∧ Blk W (w.heap.size + 1 + 1) t3 c3 ∧ Blk W (w.heap.size + 1 + 1 + 1) t4 c4 := by
  subst hW
  refine ⟨((((Fr.refl _ _).alloc _).alloc _).alloc _).alloc _, (((Blk.new w t1 c1).alloc _).alloc _).alloc _, ?_, ?_, ?_⟩
  · have := ((Blk.new (w.alloc (.cells c1 t1)) t2 c2).alloc (.cells c3 t3)).alloc (.cells c4 t4)
    simpa using this
  · have := (Blk.new ((w.alloc (.cells c1 t1)).alloc (.cells c2 t2)) t3 c3).alloc (.cells c4 t4)
    simpa using this
  · have := Blk.new (((w.alloc (.cells c1 t1)).alloc (.cells c2 t2)).alloc (.cells c3 t3)) t4 c4
    simpa using this
theorem ls_two {w : World} {B C D : Nat} {x y : Int} (hB : Blk w B 37 #[.slice (some ⟨C, 0, none⟩) 1 1, .slice (some ⟨D, 0, none⟩) 1 1]) (hC : Blk w C 3 #[.int .i64 x]) (hD : Blk w D 3 #[.int .i64 y]) :
    LsAt w [.slice (some ⟨C, 0, none⟩) 1 1, .slice (some ⟨D, 0, none⟩) 1 1] (some ⟨B, 0, none⟩) 2 [[x], [y]] := by
  refine ⟨rfl, Reads.blk hB rfl, fun i l hl => ?_⟩
  match i, hl with
  | 0, hl => obtain rfl := Option.some.inj hl; exact ⟨_, _, rfl, reads_one hC, by simp⟩
  | 1, hl => obtain rfl := Option.some.inj hl; exact ⟨_, _, rfl, reads_one hD, by simp⟩
theorem same_eq (A A' : Option Addr) (n c m d B : Nat) (xs : List Nat) (w : World) (ha : Reads w B 1 A n (xs.map u64v)) (hb : Reads w B 1 A' m (xs.map u64v)) (hn : n ≤ 256) :
    Calls Tryz.prog 13 #[.slice A n c, .slice A' m d] w fun e w' => e = .returned (.bool true) ∧ Fr (fun _ => False) w w' := by
  refine (same_any A A' n c m d B xs xs w ha hb (by omega)).mono ?_
  rintro e w' ⟨rfl, hf⟩
  exact ⟨by simp, hf⟩
def sel {α : Type} (b : Bool) (x y : α) : α := if b then x else y
/-- a row read, and held against one that is written out -/
theorem same_lit (A : Option Addr) (n c m d : Nat) (xs ys : List Nat) (w : World) (t : TypeId) (v : Array Value) (hv : v = (ys.map u64v).toArray) (hr : Reads w w.heap.size 1 A n (xs.map u64v)) (hm : m = ys.length) (hn : n ≤ 256) :
    Calls Tryz.prog 13 #[.slice A n c, .slice (some ⟨w.heap.size, 0, none⟩) m d] (w.alloc (.cells v t)) fun e w' => e = .returned (.bool (decide (xs = ys))) ∧ Fr (fun _ => False) w w' := by
  subst hv
  subst hm
  have F : Fr (fun _ => False) w (w.alloc (.cells (ys.map u64v).toArray t)) := (Fr.refl _ _).alloc _
  refine (same_any A _ n c ys.length d (w.alloc (.cells (ys.map u64v).toArray t)).heap.size xs ys _ (hr.up F) (Reads.blk (Blk.new w t _) (by simp)) (by omega)).mono ?_
  rintro e w' ⟨rfl, hf⟩
  exact ⟨rfl, F.then_ hf⟩
end Go.Proofs.YtjdbjahgimlhbaaGreat
end
section
set_option linter.unusedVariables false
set_option maxRecDepth 100000
namespace Go.Proofs.YtjdbjahgimlhbaaGreat.bfs
open Go.RowKit

section
variable {w : World} {pa ga pb gb ca cb cg : Nat} {xs ys : List Nat}
theorem held4 {w w' : World} {p : Addr} {r : Nat} {u x y z : Value} (h : w.cell? p = some u ∧ w.cell? ⟨r, 0, none⟩ = some x ∧ w.cell? ⟨r, 1, none⟩ = some y ∧ w.cell? ⟨r, 2, none⟩ = some z) (hf : Fr (fun _ => False) w w') :
    w'.cell? p = some u ∧ w'.cell? ⟨r, 0, none⟩ = some x ∧ w'.cell? ⟨r, 1, none⟩ = some y ∧ w'.cell? ⟨r, 2, none⟩ = some z := ⟨hf.cell h.1 id, hf.cell h.2.1 id, hf.cell h.2.2.1 id, hf.cell h.2.2.2 id⟩
theorem three {w : World} {t1 t2 t3 : TypeId} {c1 c2 c3 : Array Value} :
    Blk (((w.alloc (.cells c1 t1)).alloc (.cells c2 t2)).alloc (.cells c3 t3)) w.heap.size t1 c1 ∧ Blk (((w.alloc (.cells c1 t1)).alloc (.cells c2 t2)).alloc (.cells c3 t3)) (w.heap.size + 1) t2 c2 ∧ Blk (((w.alloc (.cells c1 t1)).alloc (.cells c2 t2)).alloc (.cells c3 t3)) (w.heap.size + 2) t3 c3 := by
  refine ⟨((Blk.new w t1 c1).alloc _).alloc _, ?_, ?_⟩
  · have := (Blk.new (w.alloc (.cells c1 t1)) t2 c2).alloc (.cells c3 t3)
    simpa using this
  · have := Blk.new ((w.alloc (.cells c1 t1)).alloc (.cells c2 t2)) t3 c3
    simpa using this

def far : Nat := 18446744073709551615
def fX (arg : Int) (i : Nat) : Nat := if (i : Int) = arg then 0 else 18446744073709551615
def fY (_ : Nat) : Nat := 18446744073709551615
theorem fX_lt (arg : Int) (i : Nat) : fX arg i < 18446744073709551616 := by unfold fX; split <;> omega
theorem begin_step (h : TwoAt w pa ga pb gb xs ys) (arg : Int) (hcg : w.cell? ⟨cg, 0, none⟩ = some (.int .i64 arg)) (hca : w.cell? ⟨ca, 0, none⟩ = some (vecv pa)) (hcb : w.cell? ⟨cb, 0, none⟩ = some (vecv pb)) (h1 : cb ≠ ga) (i : Nat) (hi : i < xs.length) (hi' : i < ys.length) :
    Calls Tryz.prog 88 #[.int .i64 i, .pointer (some ⟨cg, 0, none⟩), .pointer (some ⟨ca, 0, none⟩), .pointer (some ⟨cb, 0, none⟩)] w fun e w' => e = .returned (.int .i64 0) ∧ TwoAt w' pa ga pb gb (xs.set i (fX arg i)) (ys.set i (fY i)) ∧ Fr (fun k => k = ga ∨ k = gb) w w' := by
  have hm := fun p => meth_set p
  unfold vecv at hca hcb
  have H := hide h
  have HS := hide (set_in h.a i (fX arg i) hi (fX_lt arg i))
  have FY : fY i = 18446744073709551615 := rfl
  rw [FY]
  clear h FY
  have hz : ((i : Int) == arg) = decide ((i : Int) = arg) := by rw [Bool.eq_iff_iff]; simp
  have hfx : ((fX arg i : Nat) : Int) = if decide ((i : Int) = arg) then 0 else 18446744073709551615 := by unfold fX; split <;> simp_all
  rw [hfx] at HS
  generalize xs.set i (fX arg i) = zs at *
  generalize decide ((i : Int) = arg) = b at *
  clear hfx
  cases b
  all_goals
    simp only [Bool.false_eq_true, if_true, if_false] at HS
    go_enter Tryz.func88, Tryz.ntmps88
    go_wp2_with fail
    go_at_call 155
    refine HS.out.mono ?_
    rintro e w1 ⟨rfl, hp, hf⟩
    have hcb1 := hf.cell hcb h1
    have H1 := hide (H.out.setA hp hf)
    have HF := hide hf
    clear hp hf
    go_wp2_with fail
    go_at_call 155
    refine (set_in H1.out.b i 18446744073709551615 hi' (by omega)).mono ?_
    rintro e w2 ⟨rfl, hp, hf⟩
    have H2 := hide (H1.out.setB hp hf)
    have HF2 := hide ((HF.out.mono (S' := fun k => k = ga ∨ k = gb) (fun _ h => .inl h)).trans hf (fun _ h => .inl (.inr h)))
    clear hp hf
    go_wp2
    go_ret
    exact ⟨rfl, H2.out, HF2.out⟩

def okArg (n : Nat) (arg : Int) : Bool := decide (0 ≤ arg ∧ arg < n)
def bX (n : Nat) (arg : Int) : List Nat := (List.range n).map (fX arg)
def bY (n : Nat) : List Nat := (List.range n).map fY

theorem begin_ok (h : TwoAt w pa ga pb gb xs ys) (hm : mayB xs.length ys.length = true) (arg : Int) (ha : okArg xs.length arg = true) :
    Calls Tryz.prog 44 #[vecv pa, vecv pb, .int .i64 arg] w fun e w' => e = .returned (.int .i64 0) ∧ TwoAt w' pa ga pb gb (bX xs.length arg) (bY xs.length) ∧ Fr (fun k => k = ga ∨ k = gb) w w' := by
  have hmv := fun p => meth_len p
  have hm' : 1 ≤ xs.length ∧ xs.length ≤ 256 ∧ ys.length = xs.length := by simpa [mayB] using hm
  have ha' : 0 ≤ arg ∧ arg < xs.length := by simpa [okArg] using ha
  obtain ⟨ha1, ha2⟩ := ha'
  have hd0 : decide (arg < 0) = false := by simpa using ha1
  obtain ⟨W2, hW2⟩ : ∃ W2, W2 = ((w.alloc (.cells #[vecv pa] 144)).alloc (.cells #[vecv pb] 144)).alloc (.cells #[.int .i64 arg] 3) := ⟨_, rfl⟩
  have F2 : Fr (fun _ => False) w W2 := by rw [hW2]; exact (((Fr.refl _ _).alloc _).alloc _).alloc _
  have T3 := three (w := w) (t1 := 144) (t2 := 144) (t3 := 3) (c1 := #[vecv pa]) (c2 := #[vecv pb]) (c3 := #[.int .i64 arg])
  rw [← hW2] at T3
  have c0 : W2.cell? ⟨w.heap.size, 0, none⟩ = some (vecv pa) := (T3.1.cell 0).trans rfl
  have c1 : W2.cell? ⟨w.heap.size + 1, 0, none⟩ = some (vecv pb) := (T3.2.1.cell 0).trans rfl
  have c2 : W2.cell? ⟨w.heap.size + 1 + 1, 0, none⟩ = some (.int .i64 arg) := (T3.2.2.cell 0).trans rfl
  have d0 := (held_drew W2).cell c0 id
  have d1 := (held_drew W2).cell c1 id
  have d2 := (held_drew W2).cell c2 id
  have H2 := h.still F2
  have H2d := H2.still (held_drew W2)
  have la := h.a.row.lt
  have lb := h.b.row.lt
  clear T3
  have key : Calls Tryz.prog 87 #[.int .i64 xs.length, .func (.func 88) #[] #[.pointer (some ⟨w.heap.size + 1 + 1, 0, none⟩), .pointer (some ⟨w.heap.size, 0, none⟩), .pointer (some ⟨w.heap.size + 1, 0, none⟩)]] W2.drew fun e w' => e = .returned (.int .i64 0) ∧ TwoAt w' pa ga pb gb (bX xs.length arg) (bY xs.length) ∧ Fr (fun k => k = ga ∨ k = gb) W2.drew w' := by
    refine (each_any 88 (fun args w => by kernel_rfl) #[.pointer (some ⟨w.heap.size + 1 + 1, 0, none⟩), .pointer (some ⟨w.heap.size, 0, none⟩), .pointer (some ⟨w.heap.size + 1, 0, none⟩)] xs.length
      (fun i w' => TwoAt w' pa ga pb gb (pre (fX arg) i xs) (pre fY i ys) ∧ Fr (fun k => k = ga ∨ k = gb) W2.drew w') W2.drew ⟨by rw [pre_zero, pre_zero]; exact H2d, Fr.refl _ _⟩ ?_ (by omega)).mono ?_
    · rintro i w' hi ⟨hT, hF⟩
      refine (begin_step hT arg (hF.cell d2 (by simp; omega)) (hF.cell d0 (by simp; omega)) (hF.cell d1 (by simp; omega)) (by omega) i (by rw [pre_len _ (by omega)]; omega) (by rw [pre_len _ (by omega)]; omega)).mono ?_
      rintro e w'' ⟨rfl, hT', hF'⟩
      rw [pre_set (fX arg) hi, pre_set fY (show i < ys.length by omega)] at hT'
      exact ⟨rfl, hT', hF.trans hF' (fun k h => .inl h)⟩
    · rintro e w' ⟨rfl, hT, hF⟩
      rw [pre_full _ rfl, pre_full _ hm'.2.2] at hT
      exact ⟨rfl, hT, hF⟩
  have CK := check_any H2
  rw [hm] at CK
  have LN := len_any H2d.a
  have K : ∀ e w', (e = Ending.returned (.int .i64 0) ∧ TwoAt w' pa ga pb gb (bX xs.length arg) (bY xs.length) ∧ Fr (fun k => k = ga ∨ k = gb) W2.drew w') → (e = .returned (.int .i64 0) ∧ TwoAt w' pa ga pb gb (bX xs.length arg) (bY xs.length) ∧ Fr (fun k => k = ga ∨ k = gb) w w') := by
    rintro e w' ⟨h1, h2, h3⟩
    exact ⟨h1, h2, ((F2.then_ (held_drew W2)).mono (fun _ h => h.elim)).trans h3 (fun k h => .inl h)⟩
  refine Calls.mono ?_ K
  have HL := hide LN
  have HC := hide CK
  have HK := hide key
  unfold vecv at *
  clear K key CK LN H2 H2d h F2 hm hm' ha
  generalize bX xs.length arg = zx at *
  generalize bY xs.length = zy at *
  go_enter Tryz.func44, Tryz.ntmps44
  go_wp2_with fail
  go_at_call 42
  rw [← hW2]
  refine HC.out.mono ?_
  rintro e w1 ⟨rfl, rfl⟩
  clear hW2
  unfold errB
  go_wp2_with fail
  go_region_held3 (fun w' => w'.cell? ⟨w.heap.size, 0, none⟩ = some (.iface 67 (.pointer (some ⟨pa, 0, none⟩))) ∧ w'.cell? ⟨w.heap.size + 1 + 1, 0, none⟩ = some (.int .i64 arg))
    (first | exact ⟨c0, c2⟩ | exact ⟨d0, d2⟩ | assumption)
    (first
      | (go_at_call 154; refine HL.out.mono ?_; rintro e w1 ⟨rfl, rfl⟩))
  go_wp2_with fail
  go_at_call 154
  refine HL.out.mono ?_
  rintro e w1 ⟨rfl, rfl⟩
  go_wp2_with fail
  go_at_call 87
  refine HK.out.mono ?_
  rintro e w1 ⟨rfl, hT, hF⟩
  have H1 := hide hT
  have H2 := hide hF
  clear hT hF
  go_wp2
  go_ret
  exact ⟨rfl, H1.out, H2.out⟩

theorem begin_bad (h : TwoAt w pa ga pb gb xs ys) (arg : Int) (ha : (mayB xs.length ys.length && okArg xs.length arg) = false) :
    Calls Tryz.prog 44 #[vecv pa, vecv pb, .int .i64 arg] w fun e w' => e = .returned (.int .i64 2) ∧ Fr (fun _ => False) w w' := by
  have hmv := fun p => meth_len p
  obtain ⟨W2, hW2⟩ : ∃ W2, W2 = ((w.alloc (.cells #[vecv pa] 144)).alloc (.cells #[vecv pb] 144)).alloc (.cells #[.int .i64 arg] 3) := ⟨_, rfl⟩
  have F2 : Fr (fun _ => False) w W2 := by rw [hW2]; exact (((Fr.refl _ _).alloc _).alloc _).alloc _
  have T3 := three (w := w) (t1 := 144) (t2 := 144) (t3 := 3) (c1 := #[vecv pa]) (c2 := #[vecv pb]) (c3 := #[.int .i64 arg])
  rw [← hW2] at T3
  have c0 : W2.cell? ⟨w.heap.size, 0, none⟩ = some (vecv pa) := (T3.1.cell 0).trans rfl
  have c2 : W2.cell? ⟨w.heap.size + 1 + 1, 0, none⟩ = some (.int .i64 arg) := (T3.2.2.cell 0).trans rfl
  have d0 := (held_drew W2).cell c0 id
  have d2 := (held_drew W2).cell c2 id
  have H2 := h.still F2
  have hl := h.a.len
  have CK := check_any H2
  have HF := hide F2
  have HFd := hide (F2.then_ (held_drew W2))
  have HL := hide (len_any (H2.still (held_drew W2)).a)
  clear T3
  by_cases hm : mayB xs.length ys.length = true
  · rw [hm] at CK
    have HC := hide CK
    have ha' : arg < 0 ∨ (0 ≤ arg ∧ (xs.length : Int) ≤ arg) := by
      simp [hm, okArg] at ha
      omega
    unfold vecv at *
    clear CK H2 h F2 hm ha
    go_enter Tryz.func44, Tryz.ntmps44
    go_wp2_with fail
    go_at_call 42
    rw [← hW2]
    refine HC.out.mono ?_
    rintro e w1 ⟨rfl, rfl⟩
    clear hW2
    unfold errB
    rcases ha' with ha' | ⟨ha1, ha2⟩
    · go_wp2_with fail
      go_region
      go_wp2
      go_ret
      exact ⟨rfl, HFd.out⟩
    · have hd0 : decide (arg < 0) = false := by simpa using ha1
      go_wp2_with fail
      go_region_held3 (fun w' => w'.cell? ⟨w.heap.size, 0, none⟩ = some (.iface 67 (.pointer (some ⟨pa, 0, none⟩))) ∧ w'.cell? ⟨w.heap.size + 1 + 1, 0, none⟩ = some (.int .i64 arg))
        (first | exact ⟨c0, c2⟩ | exact ⟨d0, d2⟩ | assumption)
        (first
          | (go_at_call 154; refine HL.out.mono ?_; rintro e w1 ⟨rfl, rfl⟩))
      go_wp2
      go_ret
      exact ⟨rfl, HFd.out⟩
  · have hm' : mayB xs.length ys.length = false := by simpa using hm
    rw [hm'] at CK
    have HC := hide CK
    unfold vecv at *
    clear CK H2 h F2 hm hm' ha
    go_enter Tryz.func44, Tryz.ntmps44
    go_wp2_with fail
    go_at_call 42
    rw [← hW2]
    refine HC.out.mono ?_
    rintro e w1 ⟨rfl, rfl⟩
    clear hW2
    unfold errB
    go_wp2
    go_ret
    exact ⟨rfl, HF.out⟩

/-- one edge taken in -/
def hitB (round : Int) (xs : List Nat) (u : Nat) : Bool := decide (((xs.getD u 0 : Nat) : Int) = round)
def stepV (s : List Nat) (v x : Nat) : List Nat := s.set v (min (s.getD v 0) x)
theorem stepV_len (s : List Nat) (v x : Nat) : (stepV s v x).length = s.length := by simp [stepV]
def step (round : Int) (xs : List Nat) (s : List Nat) (e : Int × Int × Nat) : List Nat := if hitB round xs e.1.toNat then stepV s e.2.1.toNat (xs.getD e.1.toNat 0 + 1) else s
theorem step_len (round : Int) (xs s : List Nat) (e : Int × Int × Nat) : (step round xs s e).length = s.length := by unfold step; split <;> simp [stepV_len]

theorem shard_step (h : TwoAt w pa ga pb gb xs ys) (hca : w.cell? ⟨ca, 0, none⟩ = some (vecv pa)) (hcb : w.cell? ⟨cb, 0, none⟩ = some (vecv pb)) (round : Int) (hcg : w.cell? ⟨cg, 0, none⟩ = some (.int .i64 round)) (u v many : Nat) (hu : u < xs.length) (hv : v < ys.length) (hr0 : 0 ≤ round) (hr1 : round ≤ 9223372036854775807) :
    Calls Tryz.prog 91 #[.int .i64 u, .int .i64 v, .int .i64 many, .pointer (some ⟨ca, 0, none⟩), .pointer (some ⟨cg, 0, none⟩), .pointer (some ⟨cb, 0, none⟩)] w fun e w' => e = .returned (.int .i64 0) ∧ TwoAt w' pa ga pb gb xs (step round xs ys (u, v, many)) ∧ Fr (fun k => k = gb) w w' := by
  have hmg := fun p => meth_get p
  unfold vecv at hca hcb
  have SV : step round xs ys (u, v, many) = if hitB round xs u then stepV ys v (xs.getD u 0 + 1) else ys := by simp [step]
  rw [SV]
  have hhit : hitB round xs u = decide (((xs.getD u 0 : Nat) : Int) = round) := rfl
  have H := hide h
  have GU := hide (get_in h.a u hu)
  have hz3 : IntKind.u64.wrap round = round := by simp [IntKind.wrap, IntKind.bits, IntKind.signed]; omega
  by_cases hx : ((xs.getD u 0 : Nat) : Int) = round
  · rw [hhit, decide_eq_true hx]
    have HL := hide (less_any h.b v (xs.getD u 0 + 1) hv (by omega))
    change Hid (Calls _ _ _ _ fun e w' => _ ∧ PlainAt w' pb gb (stepV ys v (xs.getD u 0 + 1)) ∧ _) at HL
    rw [if_pos rfl]
    generalize stepV ys v (xs.getD u 0 + 1) = zs at *
    unfold vecv at HL
    have hbe : (((xs.getD u 0 : Nat) : Int) == round) = true := beqT hx
    have hxl : xs.getD u 0 ≤ 9223372036854775807 := by omega
    have hz4 : IntKind.u64.wrap (((xs.getD u 0 : Nat) : Int) + 1) = ((xs.getD u 0 + 1 : Nat) : Int) := wrap_succ hxl
    generalize xs.getD u 0 = x at *
    generalize ys.getD v 0 = y at *
    clear h SV hhit hx
    go_enter Tryz.func91, Tryz.ntmps91
    go_wp2_with fail
    go_at_call 153
    refine GU.out.mono ?_
    rintro e w1 ⟨rfl, rfl⟩
    go_wp2_with fail
    go_at_call 92
    refine HL.out.mono ?_
    rintro e w2 ⟨rfl, hP, hf⟩
    have HT := hide (H.out.setB hP hf)
    have HF := hide hf
    clear hP hf
    go_wp2
    go_ret
    exact ⟨rfl, HT.out, HF.out⟩
  · rw [hhit, decide_eq_false hx]
    have hbe : (((xs.getD u 0 : Nat) : Int) == round) = false := beqF hx
    rw [if_neg (by simp)]
    generalize xs.getD u 0 = x at *
    clear h SV hhit hx
    go_enter Tryz.func91, Tryz.ntmps91
    go_wp2_with fail
    go_at_call 153
    refine GU.out.mono ?_
    rintro e w1 ⟨rfl, rfl⟩
    go_wp2
    go_ret
    exact ⟨rfl, H.out, Fr.refl _ _⟩

section
variable {fr to : Int} {m c : Nat} {A : Option Addr} {vs : List Value} {L : List (List Int)}
theorem shard_ok (h : TwoAt w pa ga pb gb xs ys) (hm : mayB xs.length ys.length = true) (stay : ∀ w', Fr (fun k => k = gb) w w' → LsAt w' vs A m L) (hfit : fitsB fr to xs.length L = true) (round : Int) (hr : 0 ≤ round) (hmr : round ≤ 9223372036854775807) :
    Calls Tryz.prog 46 #[vecv pa, vecv pb, .agg #[.int .i64 fr, .int .i64 to, .slice A m c], .int .i64 round] w fun e w' => e = .returned (.int .i64 0) ∧ TwoAt w' pa ga pb gb xs ((edgs fr L).foldl (step round xs) ys) ∧ Fr (fun k => k = gb) w w' := by
  have hmv := fun p => meth_len p
  have hm' : 1 ≤ xs.length ∧ xs.length ≤ 256 ∧ ys.length = xs.length := by simpa [mayB] using hm
  have hf' : (0 ≤ fr ∧ fr ≤ to ∧ to ≤ (xs.length : Int) ∧ (L.length : Int) = to - fr) ∧ okLs xs.length L = true := by simpa [fitsB] using hfit
  have la := h.a.row.lt
  have lb := h.b.row.lt
  have ls := stay w (Fr.refl _ _)
  have key : ∀ w1, Fr (fun _ => False) w w1 → w1.cell? ⟨w.heap.size, 0, none⟩ = some (vecv pa) → w1.cell? ⟨w.heap.size + 1, 0, none⟩ = some (vecv pb) → w1.cell? ⟨w.heap.size + 1 + 1 + 1, 0, none⟩ = some (.int .i64 round) →
      Calls Tryz.prog 90 #[.agg #[.int .i64 fr, .int .i64 to, .slice A m c], .func (.func 91) #[] #[.pointer (some ⟨w.heap.size, 0, none⟩), .pointer (some ⟨w.heap.size + 1 + 1 + 1, 0, none⟩), .pointer (some ⟨w.heap.size + 1, 0, none⟩)]] w1 fun e w' => e = .returned (.int .i64 0) ∧ TwoAt w' pa ga pb gb xs ((edgs fr L).foldl (step round xs) ys) ∧ Fr (fun k => k = gb) w w' := by
    intro w1 F1 c0 c1 c2
    have G1 : Fr (fun _ => False) w (w1.alloc (.cells #[.int .i64 fr, .int .i64 to, .slice A m c] 43)) := F1.alloc _
    have l1 := World.block_lt_of_cell? w1 _ c0
    have l2 := World.block_lt_of_cell? w1 _ c1
    have l3 := World.block_lt_of_cell? w1 _ c2
    simp only at l1 l2 l3
    refine (edges_any 91 (fun args w => by kernel_rfl) #[.pointer (some ⟨w.heap.size, 0, none⟩), .pointer (some ⟨w.heap.size + 1 + 1 + 1, 0, none⟩), .pointer (some ⟨w.heap.size + 1, 0, none⟩)] fr to m c A vs L w1 (step round xs)
      (fun e => (0 ≤ e.1 ∧ e.1 < xs.length) ∧ (0 ≤ e.2.1 ∧ e.2.1 < xs.length) ∧ 1 ≤ e.2.2 ∧ e.2.2 ≤ 9223372036854775807)
      (fun s w' => TwoAt w' pa ga pb gb xs s ∧ s.length = ys.length ∧ Fr (fun k => k = gb) (w1.alloc (.cells #[.int .i64 fr, .int .i64 to, .slice A m c] 43)) w') ys
      hf'.1.1 (by have := ls.1; omega) ls.1 (edgs_ok L fr hf'.2 hf'.1.1 (by omega) ls.lens) ⟨h.still G1, rfl, Fr.refl _ _⟩ ?_ ?_).mono ?_
    · rintro s w' ⟨hT, _, hF⟩
      exact ⟨stay w' ((G1.mono (fun _ h => h.elim)).trans hF (fun _ h => .inl h)), hF.cell (by simp) (by simp; omega)⟩
    · rintro s ⟨u, v, many⟩ w' ⟨⟨hu0, hu⟩, ⟨hv0, hv⟩, hk0, hk1⟩ ⟨hT, hL, hF⟩
      simp only at hu0 hu hv0 hv hk0 hk1
      obtain ⟨u, rfl⟩ := Int.eq_ofNat_of_zero_le hu0
      obtain ⟨v, rfl⟩ := Int.eq_ofNat_of_zero_le hv0
      have d0 := hF.cell ((held_alloc' w1 (.cells #[.int .i64 fr, .int .i64 to, .slice A m c] 43)).cell c0 id) (by simp; omega)
      have d1 := hF.cell ((held_alloc' w1 (.cells #[.int .i64 fr, .int .i64 to, .slice A m c] 43)).cell c1 id) (by simp; omega)
      have d2 := hF.cell ((held_alloc' w1 (.cells #[.int .i64 fr, .int .i64 to, .slice A m c] 43)).cell c2 id) (by simp; omega)
      refine (shard_step hT d0 d1 round d2 u v many (by omega) (by omega) hr hmr).mono ?_
      rintro e w'' ⟨rfl, hT', hF'⟩
      exact ⟨rfl, hT', (step_len _ _ _ _).trans hL, hF.trans hF' (fun _ h => .inl h)⟩
    · rintro e w' ⟨rfl, hT, _, hF⟩
      exact ⟨rfl, hT, (G1.mono (fun _ h => h.elim)).trans hF (fun _ h => .inl h)⟩
  obtain ⟨W3, hW3⟩ : ∃ W3, W3 = (((w.alloc (.cells #[vecv pa] 144)).alloc (.cells #[vecv pb] 144)).alloc (.cells #[.int .i64 fr, .int .i64 to, .slice A m c] 43)).alloc (.cells #[.int .i64 round] 3) := ⟨_, rfl⟩
  have F3 : Fr (fun _ => False) w W3 := by rw [hW3]; exact ((((Fr.refl _ _).alloc _).alloc _).alloc _).alloc _
  have T3 := four W3 hW3
  have c0 : W3.cell? ⟨w.heap.size, 0, none⟩ = some (vecv pa) := (T3.2.1.cell 0).trans rfl
  have c1 : W3.cell? ⟨w.heap.size + 1, 0, none⟩ = some (vecv pb) := (T3.2.2.1.cell 0).trans rfl
  have cr : W3.cell? ⟨w.heap.size + 1 + 1 + 1, 0, none⟩ = some (.int .i64 round) := (T3.2.2.2.2.cell 0).trans rfl
  have s0 : W3.cell? ⟨w.heap.size + 2, 0, none⟩ = some (.int .i64 fr) := (T3.2.2.2.1.cell 0).trans rfl
  have s1 : W3.cell? ⟨w.heap.size + 2, 1, none⟩ = some (.int .i64 to) := (T3.2.2.2.1.cell 1).trans rfl
  have s2 : W3.cell? ⟨w.heap.size + 2, 2, none⟩ = some (.slice A m c) := (T3.2.2.2.1.cell 2).trans rfl
  clear T3
  have H3 := h.still F3
  have CK := check_any H3
  rw [hm] at CK
  have FT := fits_any fr to xs.length m c A L W3.drew ((ls.up F3).up (held_drew W3)).lists hm'.2.1
  rw [hfit] at FT
  have HC := hide CK
  have HT := hide FT
  have HK := hide key
  have HL := hide (len_any (H3.still (held_drew W3)).a)
  have HF := hide F3
  unfold vecv at *
  clear key CK FT H3 h F3 hm hm' hf' hfit stay ls
  go_enter Tryz.func46, Tryz.ntmps46
  go_wp2_with fail
  go_at_call 42
  rw [← hW3]
  refine HC.out.mono ?_
  rintro e w1 ⟨rfl, rfl⟩
  clear hW3
  unfold errB at *
  go_wp2_with fail
  go_region_held3 (fun w' => w'.cell? ⟨w.heap.size, 0, none⟩ = some (.iface 67 (.pointer (some ⟨pa, 0, none⟩))) ∧ w'.cell? ⟨w.heap.size + 2, 0, none⟩ = some (.int .i64 fr) ∧ w'.cell? ⟨w.heap.size + 2, 1, none⟩ = some (.int .i64 to) ∧ w'.cell? ⟨w.heap.size + 2, 2, none⟩ = some (.slice A m c))
    (first | exact ⟨c0, s0, s1, s2⟩ | assumption | exact held4 (by assumption) hf | exact held4 (w := W3.drew) ⟨c0, s0, s1, s2⟩ hf)
    (first
      | (go_at_call 154; refine HL.out.mono ?_; rintro e w1 ⟨rfl, rfl⟩)
      | (go_at_call 89; refine HT.out.mono ?_; rintro e w1 ⟨rfl, hf⟩))
  rename_i hH
  have d0 := hH.1
  have d1 := hf.cell (w := W3.drew) c1 id
  have d2 := hf.cell (w := W3.drew) cr id
  have e0 : w1.cell? ⟨w.heap.size + 1 + 1, 0, none⟩ = some (.int .i64 fr) := hH.2.1
  have e1 : w1.cell? ⟨w.heap.size + 1 + 1, 1, none⟩ = some (.int .i64 to) := hH.2.2.1
  have e2 : w1.cell? ⟨w.heap.size + 1 + 1, 2, none⟩ = some (.slice A m c) := hH.2.2.2
  have HG := hide ((HF.out.then_ (held_drew _)).then_ hf)
  have HE := hide (HK.out w1 HG.out d0 d1 d2)
  clear hH hf c0 c1 cr s0 s1 s2 HK HL
  go_wp2_with fail
  go_at_call 90
  refine HE.out.mono ?_
  rintro e w2 ⟨rfl, hT, hF⟩
  have H1 := hide hT
  have H2 := hide hF
  clear hT hF
  go_wp2
  go_ret
  exact ⟨rfl, H1.out, H2.out⟩
end

section
variable {fr to : Int} {m c : Nat} {A : Option Addr} {L : List (List Int)}
theorem shard_bad (h : TwoAt w pa ga pb gb xs ys) (hl : ListsAt w w.heap.size A m L) (round : Int) (hbad : (mayB xs.length ys.length && fitsB fr to xs.length L && decide (0 ≤ round)) = false) :
    Calls Tryz.prog 46 #[vecv pa, vecv pb, .agg #[.int .i64 fr, .int .i64 to, .slice A m c], .int .i64 round] w fun e w' => e = .returned (.int .i64 2) ∧ Fr (fun _ => False) w w' := by
  have hmv := fun p => meth_len p
  have hx := h.a.len
  obtain ⟨W3, hW3⟩ : ∃ W3, W3 = (((w.alloc (.cells #[vecv pa] 144)).alloc (.cells #[vecv pb] 144)).alloc (.cells #[.int .i64 fr, .int .i64 to, .slice A m c] 43)).alloc (.cells #[.int .i64 round] 3) := ⟨_, rfl⟩
  have F3 : Fr (fun _ => False) w W3 := by rw [hW3]; exact ((((Fr.refl _ _).alloc _).alloc _).alloc _).alloc _
  have T3 := four W3 hW3
  have c0 : W3.cell? ⟨w.heap.size, 0, none⟩ = some (vecv pa) := (T3.2.1.cell 0).trans rfl
  have cr : W3.cell? ⟨w.heap.size + 1 + 1 + 1, 0, none⟩ = some (.int .i64 round) := (T3.2.2.2.2.cell 0).trans rfl
  have s0 : W3.cell? ⟨w.heap.size + 2, 0, none⟩ = some (.int .i64 fr) := (T3.2.2.2.1.cell 0).trans rfl
  have s1 : W3.cell? ⟨w.heap.size + 2, 1, none⟩ = some (.int .i64 to) := (T3.2.2.2.1.cell 1).trans rfl
  have s2 : W3.cell? ⟨w.heap.size + 2, 2, none⟩ = some (.slice A m c) := (T3.2.2.2.1.cell 2).trans rfl
  clear T3
  have H3 := h.still F3
  have CK := check_any H3
  have HF := hide F3
  by_cases hm : mayB xs.length ys.length = true
  · rw [hm] at CK
    have FT := fits_any fr to xs.length m c A L W3.drew ((hl.up F3).up (held_drew W3)) hx
    have HL := hide (len_any (H3.still (held_drew W3)).a)
    by_cases hfit : fitsB fr to xs.length L = true
    · have hr : round < 0 := by simpa [hm, hfit] using hbad
      rw [hfit] at FT
      have HC := hide CK
      have HT := hide FT
      unfold vecv at *
      clear CK FT H3 h F3 hm hfit hl hbad
      go_enter Tryz.func46, Tryz.ntmps46
      go_wp2_with fail
      go_at_call 42
      rw [← hW3]
      refine HC.out.mono ?_
      rintro e w1 ⟨rfl, rfl⟩
      clear hW3
      unfold errB at *
      go_wp2_with fail
      go_region_held3 (fun w' => w'.cell? ⟨w.heap.size, 0, none⟩ = some (.iface 67 (.pointer (some ⟨pa, 0, none⟩))) ∧ w'.cell? ⟨w.heap.size + 2, 0, none⟩ = some (.int .i64 fr) ∧ w'.cell? ⟨w.heap.size + 2, 1, none⟩ = some (.int .i64 to) ∧ w'.cell? ⟨w.heap.size + 2, 2, none⟩ = some (.slice A m c))
        (first | exact ⟨c0, s0, s1, s2⟩ | assumption | exact held4 (by assumption) hf | exact held4 (w := W3.drew) ⟨c0, s0, s1, s2⟩ hf)
        (first
          | (go_at_call 154; refine HL.out.mono ?_; rintro e w1 ⟨rfl, rfl⟩)
          | (go_at_call 89; refine HT.out.mono ?_; rintro e w1 ⟨rfl, hf⟩))
      have d2 := hf.cell (w := W3.drew) cr id
      have HG := hide ((HF.out.then_ (held_drew _)).then_ hf)
      clear hf c0 cr s0 s1 s2 HL
      go_wp2
      go_ret
      exact ⟨rfl, HG.out⟩
    · have hfit' : fitsB fr to xs.length L = false := by simpa using hfit
      rw [hfit'] at FT
      have HC := hide CK
      have HT := hide FT
      unfold vecv at *
      clear CK FT H3 h F3 hm hfit hfit' hl hbad
      go_enter Tryz.func46, Tryz.ntmps46
      go_wp2_with fail
      go_at_call 42
      rw [← hW3]
      refine HC.out.mono ?_
      rintro e w1 ⟨rfl, rfl⟩
      clear hW3
      unfold errB at *
      go_wp2_with fail
      go_region_held3 (fun w' => w'.cell? ⟨w.heap.size, 0, none⟩ = some (.iface 67 (.pointer (some ⟨pa, 0, none⟩))) ∧ w'.cell? ⟨w.heap.size + 2, 0, none⟩ = some (.int .i64 fr) ∧ w'.cell? ⟨w.heap.size + 2, 1, none⟩ = some (.int .i64 to) ∧ w'.cell? ⟨w.heap.size + 2, 2, none⟩ = some (.slice A m c))
        (first | exact ⟨c0, s0, s1, s2⟩ | assumption | exact held4 (by assumption) hf | exact held4 (w := W3.drew) ⟨c0, s0, s1, s2⟩ hf)
        (first
          | (go_at_call 154; refine HL.out.mono ?_; rintro e w1 ⟨rfl, rfl⟩)
          | (go_at_call 89; refine HT.out.mono ?_; rintro e w1 ⟨rfl, hf⟩))
      have d2 := hf.cell (w := W3.drew) cr id
      have HG := hide ((HF.out.then_ (held_drew _)).then_ hf)
      clear hf c0 cr s0 s1 s2 HL
      go_wp2
      go_ret
      exact ⟨rfl, HG.out⟩
  · have hm' : mayB xs.length ys.length = false := by simpa using hm
    rw [hm'] at CK
    have HC := hide CK
    unfold vecv at *
    clear CK H3 h F3 hm hm' hbad hl c0 cr s0 s1 s2
    go_enter Tryz.func46, Tryz.ntmps46
    go_wp2_with fail
    go_at_call 42
    rw [← hW3]
    refine HC.out.mono ?_
    rintro e w1 ⟨rfl, rfl⟩
    clear hW3
    unfold errB
    go_wp2
    go_ret
    exact ⟨rfl, HF.out⟩
end

/-- who is none is refused -/
theorem begin_nilA (p : Nat) (arg : Int) : Calls Tryz.prog 44 #[.nilIface, vecv p, .int .i64 arg] w fun e w' => e = .returned (.int .i64 1) ∧ Fr (fun _ => False) w w' := by
  have HC := hide (fun w => check_nilA (vecv p) w (.inr ⟨p, rfl⟩))
  unfold vecv at *
  go_enter Tryz.func44, Tryz.ntmps44
  go_wp2_with fail
  go_at_call 42
  refine (HC.out _).mono ?_
  rintro e w1 ⟨rfl, rfl⟩
  go_wp2
  go_ret
  exact ⟨rfl, (((Fr.refl _ _).alloc _).alloc _).alloc _⟩
theorem begin_nilB (p : Nat) (arg : Int) : Calls Tryz.prog 44 #[vecv p, .nilIface, .int .i64 arg] w fun e w' => e = .returned (.int .i64 1) ∧ Fr (fun _ => False) w w' := by
  have HC := hide (fun w => check_nilB p w)
  unfold vecv at *
  go_enter Tryz.func44, Tryz.ntmps44
  go_wp2_with fail
  go_at_call 42
  refine (HC.out _).mono ?_
  rintro e w1 ⟨rfl, rfl⟩
  go_wp2
  go_ret
  exact ⟨rfl, (((Fr.refl _ _).alloc _).alloc _).alloc _⟩
theorem begin_empty {p g : Nat} (h : PlainAt w p g []) (arg : Int) : Calls Tryz.prog 44 #[vecv p, vecv p, .int .i64 arg] w fun e w' => e = .returned (.int .i64 2) ∧ Fr (fun _ => False) w w' := by
  have HC := hide (fun w' (hf : Fr (fun _ => False) w w') => check_empty (h.fr hf id id))
  have HF := hide ((((Fr.refl (fun _ => False) w).alloc (.cells #[vecv p] 144)).alloc (.cells #[vecv p] 144)).alloc (.cells #[.int .i64 arg] 3))
  unfold vecv at *
  clear h
  go_enter Tryz.func44, Tryz.ntmps44
  go_wp2_with fail
  go_at_call 42
  refine (HC.out _ HF.out).mono ?_
  rintro e w1 ⟨rfl, rfl⟩
  go_wp2
  go_ret
  exact ⟨rfl, HF.out⟩
theorem shard_nilB (p : Nat) (a : Array Value) (round : Int) (ha : a.size = 3) : Calls Tryz.prog 46 #[vecv p, .nilIface, .agg a, .int .i64 round] w fun e w' => e = .returned (.int .i64 1) ∧ Fr (fun _ => False) w w' := by
  have HC := hide (fun w => check_nilB p w)
  unfold vecv at *
  go_enter Tryz.func46, Tryz.ntmps46
  go_wp2_with fail
  go_at_call 42
  refine (HC.out _).mono ?_
  rintro e w1 ⟨rfl, rfl⟩
  go_wp2
  go_ret
  exact ⟨rfl, ((((Fr.refl _ _).alloc _).alloc _).alloc _).alloc _⟩
end
end Go.Proofs.YtjdbjahgimlhbaaGreat.bfs
end
