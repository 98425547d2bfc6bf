/- Parts of the proof of KernelsTruth: no conditions of their own. -/
import Derived.Shelf.SlSortCmp.WholeK
import Derived.Shelf.SlGeneric
import Derived.Ground.SlsfProg
import Derived.Shelf.SlSortCmp.NoneTotal
import Derived.Test.YtjdbjahgimlhbaaGreatProg
import Derived.Test.YtjdbjahgimlhbaaGreatKernelsTruthPk5
import Derived.Test.YtjdbjahgimlhbaaGreatKernelsTruthPk2
import Derived.Sort.OwnSortedInts
section
namespace Go.Proofs
open Go.Shelf
def Tryz.sortE_ren : Go.Shelf.Ren := ⟨fun | 6 => 107 | 15 => 41 | 14 => 119 | 28 => 85 | 29 => 86 | 20 => 122 | 21 => 123 | 22 => 124 | 23 => 125 | 24 => 126 | 25 => 127 | 26 => 128 | 27 => 129 | 46 => 132 | 47 => 113 | 48 => 114 | 49 => 133 | 50 => 134 | 57 => 135 | n => n, fun | 22 => 32 | 24 => 59 | 25 => 130 | 3 => 3 | 39 => 107 | 0 => 0 | 53 => 141 | 55 => 57 | 4 => 4 | 46 => 134 | 45 => 133 | 50 => 138 | 5 => 5 | 9 => 9 | 66 => 166 | 70 => 170 | 76 => 176 | 77 => 177 | n => n, fun | n => n⟩
theorem Tryz.sortE : Go.Proofs.SlLaysF0.n6 Tryz.prog Tryz.sortE_ren := {
  mixed := by kernel_rfl
  f6 := ⟨Tryz.f107.name, by decide, Tryz.func107.trans (congrArg some (by kernel_rfl))⟩
  f14 := ⟨Tryz.f119.name, by decide, Tryz.func119.trans (congrArg some (by kernel_rfl))⟩
  f15 := Tryz.func41.trans (congrArg some (by kernel_rfl))
  f20 := ⟨Tryz.f122.name, by decide, Tryz.func122.trans (congrArg some (by kernel_rfl))⟩
  f21 := ⟨Tryz.f123.name, by decide, Tryz.func123.trans (congrArg some (by kernel_rfl))⟩
  f22 := ⟨Tryz.f124.name, by decide, Tryz.func124.trans (congrArg some (by kernel_rfl))⟩
  f23 := ⟨Tryz.f125.name, by decide, Tryz.func125.trans (congrArg some (by kernel_rfl))⟩
  f24 := ⟨Tryz.f126.name, by decide, Tryz.func126.trans (congrArg some (by kernel_rfl))⟩
  f25 := ⟨Tryz.f127.name, by decide, Tryz.func127.trans (congrArg some (by kernel_rfl))⟩
  f26 := ⟨Tryz.f128.name, by decide, Tryz.func128.trans (congrArg some (by kernel_rfl))⟩
  f27 := ⟨Tryz.f129.name, by decide, Tryz.func129.trans (congrArg some (by kernel_rfl))⟩
  f28 := Tryz.func85.trans (congrArg some (by kernel_rfl))
  f29 := Tryz.func86.trans (congrArg some (by kernel_rfl))
  f46 := ⟨Tryz.f132.name, by decide, Tryz.func132.trans (congrArg some (by kernel_rfl))⟩
  f47 := Tryz.func113.trans (congrArg some (by kernel_rfl))
  f48 := Tryz.func114.trans (congrArg some (by kernel_rfl))
  f49 := ⟨Tryz.f133.name, by decide, Tryz.func133.trans (congrArg some (by kernel_rfl))⟩
  f50 := ⟨Tryz.f134.name, by decide, Tryz.func134.trans (congrArg some (by kernel_rfl))⟩
  f57 := ⟨Tryz.f135.name, by decide, Tryz.func135.trans (congrArg some (by kernel_rfl))⟩
  t0 := Tryz.underlying0
  a0 := Tryz.isAgg0
  z0 := Tryz.sizeOf0
  v0 := Tryz.zeroValue0
  t3 := Tryz.underlying3
  a3 := Tryz.isAgg3
  z3 := Tryz.sizeOf3
  v3 := Tryz.zeroValue3
  t4 := Tryz.underlying4
  a4 := Tryz.isAgg4
  z4 := Tryz.sizeOf4
  v4 := Tryz.zeroValue4
  t5 := Tryz.underlying5
  a5 := Tryz.isAgg5
  z5 := Tryz.sizeOf5
  v5 := Tryz.zeroValue5
  t9 := Tryz.underlying9
  a9 := Tryz.isAgg9
  z9 := Tryz.sizeOf9
  v9 := Tryz.zeroValue9
  t22 := Tryz.underlying32
  a22 := Tryz.isAgg32
  z22 := Tryz.sizeOf32
  v22 := Tryz.zeroValue32
  t25 := Tryz.underlying130
  a25 := Tryz.isAgg130
  z25 := Tryz.sizeOf130
  v25 := Tryz.zeroValue130
  t39 := Tryz.underlying107
  a39 := Tryz.isAgg107
  z39 := Tryz.sizeOf107
  v39 := Tryz.zeroValue107
  t45 := Tryz.underlying133
  a45 := Tryz.isAgg133
  z45 := Tryz.sizeOf133
  v45 := Tryz.zeroValue133
  t46 := Tryz.underlying134
  a46 := Tryz.isAgg134
  z46 := Tryz.sizeOf134
  v46 := Tryz.zeroValue134
  t50 := Tryz.underlying138
  a50 := Tryz.isAgg138
  z50 := Tryz.sizeOf138
  v50 := Tryz.zeroValue138
  t53 := Tryz.underlying141
  a53 := Tryz.isAgg141
  z53 := Tryz.sizeOf141
  v53 := Tryz.zeroValue141
  t55 := Tryz.underlying57
  a55 := Tryz.isAgg57
  z55 := Tryz.sizeOf57
  v55 := Tryz.zeroValue57
  t66 := Tryz.underlying166
  a66 := Tryz.isAgg166
  z66 := Tryz.sizeOf166
  v66 := Tryz.zeroValue166
  t70 := Tryz.underlying170
  a70 := Tryz.isAgg170
  z70 := Tryz.sizeOf170
  v70 := Tryz.zeroValue170
  t76 := Tryz.underlying176
  a76 := Tryz.isAgg176
  z76 := Tryz.sizeOf176
  v76 := Tryz.zeroValue176
  t77 := Tryz.underlying177
  a77 := Tryz.isAgg177
  z77 := Tryz.sizeOf177
  v77 := Tryz.zeroValue177 }
end Go.Proofs
end
section
set_option linter.unusedVariables false
set_option maxRecDepth 100000
namespace Go.Proofs.YtjdbjahgimlhbaaGreat
open Go.RowKit Go.Sort
open Gr (E)

def cmpN (x y : Nat) : Int := if x < y then -1 else if y < x then 1 else 0
def cmpE (a b : E) : Int := if cmpN a.1 b.1 ≠ 0 then cmpN a.1 b.1 else cmpN a.2 b.2
theorem nan_ok (x : Int) (w : World) : Calls Tryz.prog 117 #[.int .i64 x] w fun e w' => e = .returned (.bool false) ∧ w = w' := by
  go_enter Tryz.func117, Tryz.ntmps117
  go_wp2
  go_ret
  exact ⟨by simp, rfl⟩
theorem cmp_ok (x y : Nat) (w : World) : Calls Tryz.prog 110 #[.int .i64 (x : Int), .int .i64 (y : Int)] w fun e w' => e = .returned (.int .i64 (cmpN x y)) ∧ w = w' := by
  have H := hide (fun (x : Int) w => nan_ok x w)
  rcases Nat.lt_trichotomy x y with h | h | h
  · have e1 : cmpN x y = -1 := if_pos h
    rw [e1]
    have b1 : decide ((x : Int) < (y : Int)) = true := by simp; omega
    have b2 : decide (x < y) = true := by simp; omega
    clear e1
    go_enter Tryz.func110, Tryz.ntmps110
    go_wp2_with fail
    go_at_call 117
    refine (H.out _ _).mono ?_
    rintro e w1 ⟨rfl, rfl⟩
    go_wp2_with fail
    go_at_call 117
    refine (H.out _ _).mono ?_
    rintro e w1 ⟨rfl, rfl⟩
    go_wp2
    go_ret
    exact ⟨rfl, rfl⟩
  · subst h
    have e1 : cmpN x x = 0 := by simp [cmpN]
    rw [e1]
    have b1 : decide ((x : Int) < (x : Int)) = false := by simp
    clear e1
    go_enter Tryz.func110, Tryz.ntmps110
    go_wp2_with fail
    go_at_call 117
    refine (H.out _ _).mono ?_
    rintro e w1 ⟨rfl, rfl⟩
    go_wp2_with fail
    go_at_call 117
    refine (H.out _ _).mono ?_
    rintro e w1 ⟨rfl, rfl⟩
    go_wp2
    go_ret
    exact ⟨rfl, rfl⟩
  · have e1 : cmpN x y = 1 := by unfold cmpN; rw [if_neg (by omega), if_pos h]
    rw [e1]
    have b1 : decide ((x : Int) < (y : Int)) = false := by simp; omega
    have b2 : decide (x < y) = false := by simp; omega
    have b3 : decide ((y : Int) < (x : Int)) = true := by simp; omega
    have b4 : decide (y < x) = true := by simp; omega
    clear e1
    go_enter Tryz.func110, Tryz.ntmps110
    go_wp2_with fail
    go_at_call 117
    refine (H.out _ _).mono ?_
    rintro e w1 ⟨rfl, rfl⟩
    go_wp2_with fail
    go_at_call 117
    refine (H.out _ _).mono ?_
    rintro e w1 ⟨rfl, rfl⟩
    go_wp2
    go_ret
    exact ⟨rfl, rfl⟩
theorem or_ok (a b : Int) (g : Nat) (w : World) (hB : Blk w g 3 #[.int .i64 a, .int .i64 b]) :
    Calls Tryz.prog 109 #[.slice (some ⟨g, 0, none⟩) 2 2] w fun e w' => e = .returned (.int .i64 (if a ≠ 0 then a else b)) ∧ w = w' := by
  have c0 : w.cell? ⟨g, 0, none⟩ = some (.int .i64 a) := (hB.cell 0).trans rfl
  have c1 : w.cell? ⟨g, 1, none⟩ = some (.int .i64 b) := (hB.cell 1).trans rfl
  clear hB
  obtain ⟨z, hz⟩ : ∃ z, (if a ≠ 0 then a else b) = z := ⟨_, rfl⟩
  rw [hz]
  have HZ := hide hz
  clear hz
  go_enter Tryz.func109, Tryz.ntmps109
  go_wp2
  go_loopw [8] (fun i wr => ∃ k : Nat, k ≤ 2 ∧ i = .int .i64 (k : Int) ∧ wr = w ∧ (0 < k → a = 0) ∧ (1 < k → b = 0)) (fun i _ => 2 - (intOf i).toNat)
  case atStart => exact ⟨0, by omega, rfl, rfl, fun h => absurd h (by omega), fun h => absurd h (by omega)⟩
  case round =>
    obtain ⟨k, hk, rfl, rfl, ha, hb⟩ := hrel
    have h3 : k = 0 ∨ k = 1 ∨ k = 2 := by omega
    rcases h3 with rfl | rfl | rfl
    · by_cases h : a = 0
      · subst h
        go_wp2
        go_roundw
        case rel => exact ⟨1, by omega, rfl, by first | rfl | trivial, fun _ => by first | rfl | trivial, fun h => absurd h (by omega)⟩
        case measure => simp [intOf]
      · have hne : (a != 0) = true := by simpa using h
        have h2 := HZ.out
        rw [if_pos h] at h2
        subst h2
        go_wp2
        go_ret
        exact ⟨rfl, rfl⟩
    · by_cases h : b = 0
      · subst h
        go_wp2
        go_roundw
        case rel => exact ⟨2, by omega, rfl, by first | rfl | trivial, fun _ => by first | exact ha (by omega) | trivial, fun _ => by first | rfl | trivial⟩
        case measure => simp [intOf]
      · have hne : (b != 0) = true := by simpa using h
        have h2 := HZ.out
        rw [if_neg (fun h => h (ha (by omega)))] at h2
        subst h2
        go_wp2
        go_ret
        exact ⟨rfl, rfl⟩
    · have h2 := HZ.out
      rw [if_neg (fun h => h (ha (by omega))), hb (by omega)] at h2
      subst h2
      go_wp2
      go_ret
      exact ⟨rfl, rfl⟩
set_option maxHeartbeats 1600000 in
theorem by_ok (x y : E) (w : World) : Calls Tryz.prog 74 #[ev x, ev y] w fun e w' => e = .returned (.int .i64 (cmpE x y)) ∧ ∃ q os', w' = grow (w.drewN q) os' := by
  obtain ⟨W2, hW2⟩ : ∃ W2, W2 = (w.alloc (.cells #[.int .i64 (x.1 : Int), .int .i64 (x.2 : Int)] 59)).alloc (.cells #[.int .i64 (y.1 : Int), .int .i64 (y.2 : Int)] 59) := ⟨_, rfl⟩
  have b1 : Blk W2 w.heap.size 59 #[.int .i64 (x.1 : Int), .int .i64 (x.2 : Int)] := by rw [hW2]; exact (Blk.new _ _ _).alloc _
  have b2 : Blk W2 (w.heap.size + 1) 59 #[.int .i64 (y.1 : Int), .int .i64 (y.2 : Int)] := by
    rw [hW2]
    have := Blk.new (w.alloc (.cells #[.int .i64 (x.1 : Int), .int .i64 (x.2 : Int)] 59)) 59 #[.int .i64 (y.1 : Int), .int .i64 (y.2 : Int)]
    simpa using this
  obtain ⟨C, hC⟩ : ∃ C : Obj, C = .cells #[.int .i64 (cmpN x.1 y.1), .int .i64 (cmpN x.2 y.2)] 3 := ⟨_, rfl⟩
  have HCL := hide (fun W (h : W = W2.drew ∨ W = W2.drew.alloc C) => (show W.cell? ⟨w.heap.size, 0, none⟩ = some (.int .i64 (x.1 : Int)) ∧ W.cell? ⟨w.heap.size, 1, none⟩ = some (.int .i64 (x.2 : Int)) ∧ W.cell? ⟨w.heap.size + 1, 0, none⟩ = some (.int .i64 (y.1 : Int)) ∧ W.cell? ⟨w.heap.size + 1, 1, none⟩ = some (.int .i64 (y.2 : Int)) from by
    have hf : Fr (fun _ => False) W2 W := by
      rcases h with rfl | rfl
      · exact (Fr.refl _ _).drew
      · exact (Fr.refl _ _).drew.alloc _
    exact ⟨((b1.fr hf id).cell 0).trans rfl, ((b1.fr hf id).cell 1).trans rfl, ((b2.fr hf id).cell 0).trans rfl, ((b2.fr hf id).cell 1).trans rfl⟩))
  have HC1 := hide (fun w => cmp_ok x.1 y.1 w)
  have HC2 := hide (fun w => cmp_ok x.2 y.2 w)
  have HO := hide (fun (g : Nat) (w : World) (hB : Blk w g 3 #[.int .i64 (cmpN x.1 y.1), .int .i64 (cmpN x.2 y.2)]) => or_ok (cmpN x.1 y.1) (cmpN x.2 y.2) g w hB)
  have HZ := hide hW2
  have HCC := hide hC
  have HCB := hide (show Blk (W2.drew.alloc C) W2.heap.size 3 #[.int .i64 (cmpN x.1 y.1), .int .i64 (cmpN x.2 y.2)] by rw [hC]; exact Blk.new _ _ _)
  have HEND := hide (show cmpE x y = if cmpN x.1 y.1 ≠ 0 then cmpN x.1 y.1 else cmpN x.2 y.2 from rfl)
  rw [HEND.out]
  generalize cmpN x.1 y.1 = c1 at *
  generalize cmpN x.2 y.2 = c2 at *
  generalize (if c1 ≠ 0 then c1 else c2) = z at *
  unfold ev
  clear b1 b2 hW2 hC
  go_enter Tryz.func74, Tryz.ntmps74
  go_wp2_with fail
  rw [← HZ.out]
  refine wp_region_ord [(0, true), (1, true), (2, true), (3, true), (5, true), (6, true), (7, true), (8, true), (4, false), (9, false), (10, false), (11, false), (12, true)] (fun W => W = W2.drew ∨ W = W2.drew.alloc C) (by kernel_rfl) (by kernel_rfl) (.inl rfl) ?_
  iterate 8
    refine ord_read rfl ?_ ?_ (fun W hS => ?_) ?_
    · rfl
    rotate_left
    · (obtain ⟨s0, s1, s2, s3⟩ := HCL.out _ hS; go_simp; try with_reducible rfl)
    simp only [List.getElem_toArray, List.getElem_cons_zero, List.getElem_cons_succ, Act.put, List.setIfInBounds_toArray, List.set_cons_zero, List.set_cons_succ]
  refine ord_act rfl ?_
  go_wp2_with fail
  go_at_call 110
  refine (HC1.out _).mono ?_
  rintro e w3 ⟨rfl, rfl⟩
  go_wp2
  refine midQ_ok (.inl rfl) ?_
  refine ord_act rfl ?_
  go_wp2_with fail
  go_at_call 110
  refine (HC2.out _).mono ?_
  rintro e w3 ⟨rfl, rfl⟩
  go_wp2
  refine midQ_ok (.inl rfl) ?_
  refine ord_act rfl ?_
  go_wp2
  rw [← HCC.out]
  refine midQ_ok (.inr rfl) ?_
  refine ord_act rfl ?_
  go_wp2_with fail
  go_at_call 109
  refine (HO.out _ _ HCB.out).mono ?_
  rintro e w3 ⟨rfl, rfl⟩
  go_wp2
  refine midQ_ok (.inr rfl) ?_
  iterate 1
    refine ord_read rfl ?_ ?_ (fun W hS => ?_) ?_
    · rfl
    rotate_left
    · (skip; go_simp; try with_reducible rfl)
    simp only [List.getElem_toArray, List.getElem_cons_zero, List.getElem_cons_succ, Act.put, List.setIfInBounds_toArray, List.set_cons_zero, List.set_cons_succ]
  refine ord_done ?_
  refine NoPanic.normal ?_
  go_wp2
  go_ret
  refine ⟨rfl, 1, #[.cells #[.int .i64 (x.1 : Int), .int .i64 (x.2 : Int)] 59, .cells #[.int .i64 (y.1 : Int), .int .i64 (y.2 : Int)] 59, C], ?_⟩
  rw [HZ.out]
  show ((w.drew.alloc _).alloc _).alloc C = _
  rw [alloc_eq_grow, alloc_eq_grow, alloc_eq_grow, grow_grow, grow_grow]
  rfl
end Go.Proofs.YtjdbjahgimlhbaaGreat
end
section
set_option linter.unusedVariables false
set_option maxRecDepth 100000
namespace Go.Proofs.YtjdbjahgimlhbaaGreat
open Go.RowKit Go.Sort Go.Shelf
open Gr (E)

def encE (e : E) : List Value := [.int .i64 (e.1 : Int), .int .i64 (e.2 : Int)]
theorem ecells_get {l : List E} {j : Nat} (hj : j < l.length) : (ecells l)[j * 2]? = some (.int .i64 ((l[j]).1 : Int)) ∧ (ecells l)[j * 2 + 1]? = some (.int .i64 ((l[j]).2 : Int)) := by
  have := ecells_at l j _ (List.getElem?_eq_getElem hj)
  rwa [Nat.mul_comm 2 j] at this
theorem flat_ecells (l : List E) : flatK encE 2 l.toArray = (ecells l).toArray := by
  apply Array.ext
  · simp [ecells_len]
  · intro t h1 h2
    have ht : t < l.length * 2 := by simpa using h1
    have hj : t / 2 < l.length := by omega
    obtain ⟨g0, g1⟩ := ecells_get hj
    have e1 : (flatK encE 2 l.toArray)[t] = (encE l[t / 2])[t % 2]! := by
      have := get_flatK encE 2 l.toArray t (by simpa using ht)
      rw [getElem!_pos _ t h1] at this
      rw [this]
      simp [hj]
    rw [e1]
    have h3 : (ecells l)[t]? = some ((ecells l).toArray[t]) := by simp
    generalize (ecells l).toArray[t] = R at *
    rcases Nat.mod_two_eq_zero_or_one t with h0 | h0
    · rw [h0]
      have h4 : (ecells l)[t / 2 * 2]? = some R := by rw [show t / 2 * 2 = t by omega]; exact h3
      rw [g0] at h4
      exact Option.some.inj h4
    · rw [h0]
      have h4 : (ecells l)[t / 2 * 2 + 1]? = some R := by rw [show t / 2 * 2 + 1 = t by omega]; exact h3
      rw [g1] at h4
      exact Option.some.inj h4
theorem cmpE_lt (x y : E) : ltOf cmpE x y = Gr.less x y := by
  unfold ltOf cmpE cmpN Gr.less
  by_cases h1 : x.1 < y.1
  · simp [h1]
  · by_cases h2 : y.1 < x.1
    · simp [h1, h2]; omega
    · have h3 : x.1 = y.1 := by omega
      by_cases h4 : x.2 < y.2
      · simp [h3, h4]
      · by_cases h5 : y.2 < x.2
        · simp [h3, h4, h5]
        · simp [h3, h4, h5]
theorem cmpE_swo : SWO (ltOf cmpE) where
  irrefl x := by rw [cmpE_lt]; exact Gr.less_irrefl x
  trans x y z h1 h2 := by rw [cmpE_lt] at *; exact Gr.less_trans h1 h2
  ntrans x y z h1 h2 := by
    rw [cmpE_lt] at *
    simp only [Gr.less, Bool.or_eq_false_iff, Bool.and_eq_false_iff, decide_eq_false_iff_not] at *
    omega
theorem cmpE_total (x y : E) (h1 : ltOf cmpE x y = false) (h2 : ltOf cmpE y x = false) : x = y := by
  rw [cmpE_lt] at *
  apply Classical.byContradiction
  intro hne
  rw [Gr.less_not h1 hne] at h2
  cases h2
theorem cmpE_lays (blk off size : Nat) (w : World) : CmpLays Tryz.prog 74 #[] encE 2 cmpE blk off size w := fun _ _ _ _ x y => by_ok x y _
theorem heap_sortedE {w : World} {g n : Nat} {os : Array Obj} {cur : Array Value} {e : TypeId} {fr : Nat × Nat} (d : Array Value) (hb : w.heap[g]? = some (.cells cur e fr)) :
    (grow (putRow id (Sort.ahead w n) g 0 d) os).heap[g]? = some (.cells (putCells id 0 d cur) e fr) := by
  have hg : g < w.heap.size := (Array.getElem?_eq_some_iff.1 hb).1
  rw [heap_grow_old _ _ (by simpa using hg)]
  simp [putRow, mapBlock, Sort.ahead, Array.getElem?_modify, hb, onCells]
theorem grownBy_sortedE {w : World} {g n : Nat} {os : Array Obj} (d : Array Value) : w.grownBy (grow (putRow id (Sort.ahead w n) g 0 d) os) (some g) := by
  refine ⟨rfl, rfl, rfl, by simp, fun k hk hne => ?_⟩
  rw [heap_grow_old _ _ (by simpa using hk)]
  have : g ≠ k := fun e => hne (by rw [e])
  simp [putRow, mapBlock, Sort.ahead, Array.getElem?_modify, this]
theorem take_putCellsE (cur : Array Value) (ts : List Value) (h : ts.length ≤ cur.size) : (putCells id 0 ts.toArray cur).toList.take ts.length = ts := by
  apply List.ext_getElem?
  intro j
  by_cases hj : j < ts.length
  · rw [List.getElem?_take_of_lt hj, Array.getElem?_toList]
    simp [putCells, hj, show j < cur.size by omega]
  · rw [List.getElem?_take_eq_none (by omega), List.getElem?_eq_none (by omega)]
theorem sortf_own {H : Nat} {v : Value} {l : List E} {w : World} (ho : w.ownsRow H 59 2 v l.length (ecells l)) (hs : Gr.Sorted l) (hn : l.length ≤ 100000) :
    Calls Tryz.prog 107 #[v, .func (.func 74) #[] #[]] w fun e w' => e = .returned (.tuple #[]) ∧ w.grownBy w' v.ownBlock ∧ w'.ownsRow H 59 2 v l.length (ecells l) := by
  have eg : ∀ args w, (callFunc 74 args).run Tryz.prog w = .ok (.enter 74 args) w := enters_of Tryz.func74 (by kernel_rfl) rfl
  have hl2 := ecells_len l
  rcases ho.2 with ⟨rfl, h0⟩ | ⟨g, cap, cur, rfl, hb, hg, h1, h2, h3, h4⟩
  · have hc := AnyF.slices_SortFunc_none Tryz.sortE none 0 (.func (.func 74) #[] #[]) w
    refine hc.mono ?_
    rintro e w' ⟨rfl, rfl⟩
    exact ⟨rfl, ⟨rfl, rfl, rfl, Nat.le_refl _, fun _ _ _ => rfl⟩, ho⟩
  · have hH : HoldsK encE 2 w g 0 l.toArray := by
      unfold HoldsK
      rw [flat_ecells]
      intro j hj
      have hj' : j < (ecells l).length := by simpa using hj
      refine ⟨?_, by simp [World.frozen?, hg]⟩
      have h5 : (cur.toList.take (l.length * 2))[j]? = (ecells l)[j]? := by rw [h4]
      rw [List.getElem?_take_of_lt (by omega)] at h5
      simp only [World.cell?, hg, Nat.zero_add]
      simp only [Option.isSome_none, Bool.false_eq_true, if_false]
      rw [← Array.getElem?_toList, h5]
      simp [hj']
    have hc := AnyQ.slices_SortFunc_total Tryz.sortE 2 Tryz.isAgg59 Tryz.sizeOf59 encE (fun _ => rfl) (fun x v hv => by simp [encE] at hv; rcases hv with rfl | rfl <;> rfl) cmpE cmpE_swo 74 #[] g 0 cap l.toArray w eg (cmpE_lays g 0 _ w) hH (Array.getElem?_eq_some_iff.1 hg).1 (by simp; omega) cmpE_total
    have hms : (l.toArray.toList.mergeSort fun x y => !(ltOf cmpE) y x) = l := by
      apply List.mergeSort_of_pairwise
      refine hs.imp ?_
      intro a b hab
      rw [cmpE_lt]
      cases hba : Gr.less b a with
      | false => rfl
      | true => have := Gr.less_trans hab hba; rw [Gr.less_irrefl] at this; cases this
    rw [hms] at hc
    simp only [List.size_toArray] at hc
    refine hc.mono ?_
    rintro e w' ⟨rfl, n, os, rfl⟩
    unfold sortWorldK putRowK
    rw [flat_ecells]
    refine ⟨rfl, grownBy_sortedE _, ho.1, .inr ⟨g, cap, _, rfl, hb, heap_sortedE _ hg, h1, h2, by simp [putCells, h3], ?_⟩⟩
    rw [← hl2]
    exact take_putCellsE cur (ecells l) (by omega)
end Go.Proofs.YtjdbjahgimlhbaaGreat
end
