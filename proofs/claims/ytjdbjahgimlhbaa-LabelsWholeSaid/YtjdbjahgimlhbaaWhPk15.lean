/- Parts of the proof of several laws: no conditions of their own. -/
import Derived.Test.YtjdbjahgimlhbaaWhPk14
import Derived.Test.YtjdbjahgimlhbaaWhPk4
import Derived.Test.YtjdbjahgimlhbaaWhPk3
import Derived.RangeFuncNested
import Derived.RangeFuncBound
import Derived.RangeFuncCalls
import Derived.RangeFuncLeaves
import Derived.RangeFuncBox
import Derived.Shelf.Abstract
import Derived.Shelf.RegionOpen
import Derived.WalkKit
import Derived.OwnWalkIn
import Derived.TacticsInMore
import Derived.LoopNIn
import Derived.LoopIn
section
set_option linter.unusedVariables false
set_option maxRecDepth 100000
namespace Go.Proofs.Ytjdbjahgimlhbaa
open Go.RowKit Go.Sort Go.Shelf
open Gr (E)

def encE (e : E) : List Value := [.int .i64 (e.1 : Int), .int .i64 (e.2 : Int)]
theorem ecells_get {l : List E} {j : Nat} (hj : j < l.length) : (ecells l)[j * 2]? = some (.int .i64 ((l[j]).1 : Int)) ∧ (ecells l)[j * 2 + 1]? = some (.int .i64 ((l[j]).2 : Int)) := by
  have := ecells_at l j _ (List.getElem?_eq_getElem hj)
  rwa [Nat.mul_comm 2 j] at this
theorem flat_ecells (l : List E) : flatK encE 2 l.toArray = (ecells l).toArray := by
  apply Array.ext
  · simp [ecells_len]
  · intro t h1 h2
    have ht : t < l.length * 2 := by simpa using h1
    have hj : t / 2 < l.length := by omega
    obtain ⟨g0, g1⟩ := ecells_get hj
    have e1 : (flatK encE 2 l.toArray)[t] = (encE l[t / 2])[t % 2]! := by
      have := get_flatK encE 2 l.toArray t (by simpa using ht)
      rw [getElem!_pos _ t h1] at this
      rw [this]
      simp [hj]
    rw [e1]
    have h3 : (ecells l)[t]? = some ((ecells l).toArray[t]) := by simp
    generalize (ecells l).toArray[t] = R at *
    rcases Nat.mod_two_eq_zero_or_one t with h0 | h0
    · rw [h0]
      have h4 : (ecells l)[t / 2 * 2]? = some R := by rw [show t / 2 * 2 = t by omega]; exact h3
      rw [g0] at h4
      exact Option.some.inj h4
    · rw [h0]
      have h4 : (ecells l)[t / 2 * 2 + 1]? = some R := by rw [show t / 2 * 2 + 1 = t by omega]; exact h3
      rw [g1] at h4
      exact Option.some.inj h4
theorem cmpE_lt (x y : E) : ltOf cmpE x y = Gr.less x y := by
  unfold ltOf cmpE cmpN Gr.less
  by_cases h1 : x.1 < y.1
  · simp [h1]
  · by_cases h2 : y.1 < x.1
    · simp [h1, h2]; omega
    · have h3 : x.1 = y.1 := by omega
      by_cases h4 : x.2 < y.2
      · simp [h3, h4]
      · by_cases h5 : y.2 < x.2
        · simp [h3, h4, h5]
        · simp [h3, h4, h5]
theorem cmpE_swo : SWO (ltOf cmpE) where
  irrefl x := by rw [cmpE_lt]; exact Gr.less_irrefl x
  trans x y z h1 h2 := by rw [cmpE_lt] at *; exact Gr.less_trans h1 h2
  ntrans x y z h1 h2 := by
    rw [cmpE_lt] at *
    simp only [Gr.less, Bool.or_eq_false_iff, Bool.and_eq_false_iff, decide_eq_false_iff_not] at *
    omega
theorem cmpE_total (x y : E) (h1 : ltOf cmpE x y = false) (h2 : ltOf cmpE y x = false) : x = y := by
  rw [cmpE_lt] at *
  apply Classical.byContradiction
  intro hne
  rw [Gr.less_not h1 hne] at h2
  cases h2
theorem cmpE_lays (blk off size : Nat) (w : World) : CmpLays Try.prog 114 #[] encE 2 cmpE blk off size w := fun _ _ _ _ x y => by_ok x y _
theorem heap_sortedE {w : World} {g n : Nat} {os : Array Obj} {cur : Array Value} {e : TypeId} {fr : Nat × Nat} (d : Array Value) (hb : w.heap[g]? = some (.cells cur e fr)) :
    (grow (putRow id (Sort.ahead w n) g 0 d) os).heap[g]? = some (.cells (putCells id 0 d cur) e fr) := by
  have hg : g < w.heap.size := (Array.getElem?_eq_some_iff.1 hb).1
  rw [heap_grow_old _ _ (by simpa using hg)]
  simp [putRow, mapBlock, Sort.ahead, Array.getElem?_modify, hb, onCells]
theorem grownBy_sortedE {w : World} {g n : Nat} {os : Array Obj} (d : Array Value) : w.grownBy (grow (putRow id (Sort.ahead w n) g 0 d) os) (some g) := by
  refine ⟨rfl, rfl, rfl, by simp, fun k hk hne => ?_⟩
  rw [heap_grow_old _ _ (by simpa using hk)]
  have : g ≠ k := fun e => hne (by rw [e])
  simp [putRow, mapBlock, Sort.ahead, Array.getElem?_modify, this]
theorem take_putCellsE (cur : Array Value) (ts : List Value) (h : ts.length ≤ cur.size) : (putCells id 0 ts.toArray cur).toList.take ts.length = ts := by
  apply List.ext_getElem?
  intro j
  by_cases hj : j < ts.length
  · rw [List.getElem?_take_of_lt hj, Array.getElem?_toList]
    simp [putCells, hj, show j < cur.size by omega]
  · rw [List.getElem?_take_eq_none (by omega), List.getElem?_eq_none (by omega)]
theorem sortf_own {H : Nat} {v : Value} {l : List E} {w : World} (ho : w.ownsRow H 40 2 v l.length (ecells l)) (hs : Gr.Sorted l) (hn : l.length ≤ 100000) :
    Calls Try.prog 129 #[v, .func (.func 114) #[] #[]] w fun e w' => e = .returned (.tuple #[]) ∧ w.grownBy w' v.ownBlock ∧ w'.ownsRow H 40 2 v l.length (ecells l) := by
  have eg : ∀ args w, (callFunc 114 args).run Try.prog w = .ok (.enter 114 args) w := enters_of Try.func114 (by kernel_rfl) rfl
  have hl2 := ecells_len l
  rcases ho.2 with ⟨rfl, h0⟩ | ⟨g, cap, cur, rfl, hb, hg, h1, h2, h3, h4⟩
  · have hc := AnyF.slices_SortFunc_none Try.sortE none 0 (.func (.func 114) #[] #[]) w
    refine hc.mono ?_
    rintro e w' ⟨rfl, rfl⟩
    exact ⟨rfl, ⟨rfl, rfl, rfl, Nat.le_refl _, fun _ _ _ => rfl⟩, ho⟩
  · have hH : HoldsK encE 2 w g 0 l.toArray := by
      unfold HoldsK
      rw [flat_ecells]
      intro j hj
      have hj' : j < (ecells l).length := by simpa using hj
      refine ⟨?_, by simp [World.frozen?, hg]⟩
      have h5 : (cur.toList.take (l.length * 2))[j]? = (ecells l)[j]? := by rw [h4]
      rw [List.getElem?_take_of_lt (by omega)] at h5
      simp only [World.cell?, hg, Nat.zero_add]
      simp only [Option.isSome_none, Bool.false_eq_true, if_false]
      rw [← Array.getElem?_toList, h5]
      simp [hj']
    have hc := AnyQ.slices_SortFunc_total Try.sortE 2 Try.isAgg40 Try.sizeOf40 encE (fun _ => rfl) (fun x v hv => by simp [encE] at hv; rcases hv with rfl | rfl <;> rfl) cmpE cmpE_swo 114 #[] g 0 cap l.toArray w eg (cmpE_lays g 0 _ w) hH (Array.getElem?_eq_some_iff.1 hg).1 (by simp; omega) cmpE_total
    have hms : (l.toArray.toList.mergeSort fun x y => !(ltOf cmpE) y x) = l := by
      apply List.mergeSort_of_pairwise
      refine hs.imp ?_
      intro a b hab
      rw [cmpE_lt]
      cases hba : Gr.less b a with
      | false => rfl
      | true => have := Gr.less_trans hab hba; rw [Gr.less_irrefl] at this; cases this
    rw [hms] at hc
    simp only [List.size_toArray] at hc
    refine hc.mono ?_
    rintro e w' ⟨rfl, n, os, rfl⟩
    unfold sortWorldK putRowK
    rw [flat_ecells]
    refine ⟨rfl, grownBy_sortedE _, ho.1, .inr ⟨g, cap, _, rfl, hb, heap_sortedE _ hg, h1, h2, by simp [putCells, h3], ?_⟩⟩
    rw [← hl2]
    exact take_putCellsE cur (ecells l) (by omega)
end Go.Proofs.Ytjdbjahgimlhbaa
end
section
set_option linter.unusedVariables false
set_option maxRecDepth 100000
namespace Go.Proofs.Ytjdbjahgimlhbaa
open Go.RowKit
open Gr (E)

theorem within_ok (n v : Nat) (w : World) (h : v < n) : Calls Try.prog 108 #[.int .i64 (n : Int), .int .i64 (v : Int)] w fun e w' => e = .returned (.bool true) ∧ w = w' := by
  have b1 : decide ((0 : Int) ≤ (v : Int)) = true := by simp
  have b2 : decide ((v : Int) < (n : Int)) = true := by simp; omega
  have b3 : decide (v < n) = true := by simp; omega
  clear h
  go_enter Try.func108, Try.ntmps108
  go_wp2
  go_ret
  exact ⟨rfl, rfl⟩
theorem may_ok (n : Nat) (w : World) (h1 : 1 ≤ n) (h2 : n ≤ 256) : Calls Try.prog 109 #[.int .i64 (n : Int)] w fun e w' => e = .returned (.bool true) ∧ w = w' := by
  have b1 : decide ((1 : Int) ≤ (n : Int)) = true := by simp; omega
  have b2 : decide ((n : Int) ≤ 256) = true := by simp; omega
  have b3 : decide (1 ≤ n) = true := by simp; omega
  have b4 : decide (n ≤ 256) = true := by simp; omega
  clear h1 h2
  go_enter Try.func109, Try.ntmps109
  go_wp2
  go_ret
  exact ⟨rfl, rfl⟩
theorem npred_ok (n Bn : Nat) (x : E) (w : World) (hB : w.cell? ⟨Bn, 0, none⟩ = some (.int .i64 (n : Int))) (h1 : x.1 < n) (h2 : x.2 < n) (h3 : x.1 ≠ x.2) :
    Calls Try.prog 107 #[ev x, .pointer (some ⟨Bn, 0, none⟩)] w fun e w' => e = .returned (.bool false) ∧ Fr (fun _ => False) w w' := by
  have F1 := hide ((Fr.refl (fun _ => False) w).alloc (.cells #[.int .i64 (x.1 : Int), .int .i64 (x.2 : Int)] 40))
  have c0 := F1.out.cell hB id
  have H1 := hide (fun w => within_ok n x.1 w h1)
  have H2 := hide (fun w => within_ok n x.2 w h2)
  have b1 : ((x.1 : Int) == (x.2 : Int)) = false := by simp; omega
  clear h1 h2 h3
  unfold ev
  go_enter Try.func107, Try.ntmps107
  go_wp2_with fail
  go_at_call 108
  refine (H1.out _).mono ?_
  rintro e w1 ⟨rfl, rfl⟩
  go_wp2_with fail
  go_at_call 108
  refine (H2.out _).mono ?_
  rintro e w1 ⟨rfl, rfl⟩
  go_wp2
  go_ret
  exact ⟨rfl, F1.out⟩
theorem indexf_ok (A : Option Addr) (n m c Bn : Nat) (l : List E) (w : World) (h : EdgesAt w A l) (hm : l.length = m) (hmx : m ≤ 100000) (hBn : Bn < w.heap.size) (hB : w.cell? ⟨Bn, 0, none⟩ = some (.int .i64 (n : Int))) (hl : ∀ e ∈ l, e.1 < n ∧ e.2 < n ∧ e.1 ≠ e.2) :
    Calls Try.prog 127 #[.slice A m c, .func (.func 107) #[] #[.pointer (some ⟨Bn, 0, none⟩)]] w fun e w' => e = .returned (.int .i64 (-1)) ∧ Fr (fun _ => False) w w' := by
  have H := hide h
  have HM := hide hm
  have HL := hide hl
  have HB := hide hB
  clear h hm hl hB
  go_enter Try.func127, Try.ntmps127
  go_wp2
  go_loopw [8] (fun i wr => ∃ k : Nat, k ≤ m ∧ i = .int .i64 (k : Int) ∧ Hid (Fr (fun _ => False) w wr)) (fun i _ => m - (intOf i).toNat)
  case atStart => exact ⟨0, by omega, rfl, Fr.refl _ _⟩
  case round =>
    obtain ⟨k, hk, rfl, HF⟩ := hrel
    by_cases hlt : k < m
    · have lk : k < l.length := by rw [HM.out]; exact hlt
      obtain ⟨b, o, rfl, hb, hr⟩ := EdgesAt.cells (k := k) (H.out.up HF.out) lk
      have y0 := hr 0 _ rfl
      have y1 := hr 1 _ rfl
      rw [Nat.mul_comm 2 k] at y0 y1
      rw [Nat.add_zero] at y0
      obtain ⟨p1, p2, p3⟩ := HL.out _ (List.getElem_mem lk)
      generalize l[k]'lk = x at *
      have HP := hide (npred_ok n Bn x wr (HF.out.cell HB.out id) p1 p2 p3)
      unfold ev at HP
      have b0 : (0 : Int) ≤ (k : Int) := by omega
      have b1 : (k : Int) < (m : Int) := by omega
      clear hr
      go_wp2_with fail
      go_at_call 107
      refine HP.out.mono ?_
      rintro e w1 ⟨rfl, hf⟩
      have HF1 := hide (HF.out.then_ hf)
      clear hf
      go_wp2
      go_roundw
      case rel => exact ⟨k + 1, by omega, by go_num, HF1⟩
      case measure => simp [intOf]; omega
    · obtain rfl : k = m := by omega
      go_wp2
      go_ret
      exact ⟨rfl, HF.out⟩
theorem contf_ok (A : Option Addr) (n m c Bn : Nat) (l : List E) (w : World) (h : EdgesAt w A l) (hm : l.length = m) (hmx : m ≤ 100000) (hBn : Bn < w.heap.size) (hB : w.cell? ⟨Bn, 0, none⟩ = some (.int .i64 (n : Int))) (hl : ∀ e ∈ l, e.1 < n ∧ e.2 < n ∧ e.1 ≠ e.2) :
    Calls Try.prog 110 #[.slice A m c, .func (.func 107) #[] #[.pointer (some ⟨Bn, 0, none⟩)]] w fun e w' => e = .returned (.bool false) ∧ Fr (fun _ => False) w w' := by
  have HI := hide (indexf_ok A n m c Bn l w h hm hmx hBn hB hl)
  clear h hm hl hB
  go_enter Try.func110, Try.ntmps110
  go_wp2_with fail
  go_at_call 127
  refine HI.out.mono ?_
  rintro e w1 ⟨rfl, hf⟩
  have HF := hide hf
  clear hf
  go_wp2
  go_ret
  exact ⟨rfl, HF.out⟩
theorem compact_ok (A : Option Addr) (m c : Nat) (l : List E) (w : World) (h : EdgesAt w A l) (hm : l.length = m) (hmx : m ≤ 100000) (hs : Gr.Sorted l) :
    Calls Try.prog 111 #[.slice A m c] w fun e w' => e = .returned (.slice A m c) ∧ Fr (fun _ => False) w w' := by
  have H := hide h
  have HM := hide hm
  have HS := hide hs
  clear h hm hs
  by_cases h2 : m < 2
  · have b1 : decide ((m : Int) < 2) = true := by simp; omega
    go_enter Try.func111, Try.ntmps111
    go_wp2
    go_ret
    exact ⟨rfl, Fr.refl _ _⟩
  · have b1 : decide ((m : Int) < 2) = false := by simp; omega
    go_enter Try.func111, Try.ntmps111
    go_wp2
    go_loopw [3] (fun i wr => ∃ k : Nat, 1 ≤ k ∧ k ≤ m ∧ i = .int .i64 (k : Int) ∧ Hid (Fr (fun _ => False) w wr)) (fun i _ => m - (intOf i).toNat)
    case atStart => exact ⟨1, by omega, by omega, rfl, Fr.refl _ _⟩
    case round =>
      obtain ⟨k, hk1, hk, rfl, HF⟩ := hrel
      by_cases hlt : k < m
      · have lk : k < l.length := by rw [HM.out]; exact hlt
        have lj : k - 1 < l.length := by omega
        obtain ⟨b, o, rfl, hb, hr⟩ := EdgesAt.cells (k := k) (H.out.up HF.out) lk
        obtain ⟨b', o', e', hb', hr'⟩ := EdgesAt.cells (k := k - 1) (H.out.up HF.out) lj
        injection e' with e'
        injection e' with e1 e2
        subst e1
        subst e2
        have y0 := hr 0 _ rfl
        have y1 := hr 1 _ rfl
        have z0 := hr' 0 _ rfl
        have z1 := hr' 1 _ rfl
        rw [Nat.mul_comm 2] at y0 y1 z0 z1
        rw [Nat.add_zero] at y0 z0
        have hne : l[k] ≠ l[k - 1] := fun e => by
          have := (List.pairwise_iff_getElem.1 HS.out) (k - 1) k lj lk (by omega)
          rw [e, Gr.less_irrefl] at this
          cases this
        generalize l[k]'lk = x at *
        generalize l[k - 1]'lj = y at *
        have hk1' : IntKind.i64.wrap ((k : Int) - 1) = ((k - 1 : Nat) : Int) := by simp only [IntKind.wrap, IntKind.bits, IntKind.signed]; simp; omega
        have b0 : (0 : Int) ≤ (k : Int) := by omega
        have b1 : (k : Int) < (m : Int) := by omega
        have b2 : (0 : Int) ≤ ((k - 1 : Nat) : Int) := by omega
        have b3 : ((k - 1 : Nat) : Int) < (m : Int) := by omega
        have HQ := hide hne
        obtain ⟨j, hj⟩ : ∃ j, k - 1 = j := ⟨_, rfl⟩
        rw [hj] at z0 z1 hk1' b2 b3
        have HJ := hide hj
        clear hr hr' hj hne
        go_wp2_with fail
        refine wp_region_reads (fun W => W.cell? ⟨b, o + k * 2, none⟩ = some (.int .i64 (x.1 : Int)) ∧ W.cell? ⟨b, o + k * 2 + 1, none⟩ = some (.int .i64 (x.2 : Int)) ∧ W.cell? ⟨b, o + j * 2, none⟩ = some (.int .i64 (y.1 : Int)) ∧ W.cell? ⟨b, o + j * 2 + 1, none⟩ = some (.int .i64 (y.2 : Int))) (by kernel_rfl) (by kernel_rfl) ⟨y0, y1, z0, z1⟩ ?_
        iterate 9
          refine readsY_cons ?_ ?_ (fun W hS => ?_) ?_
          · rfl
          rotate_left
          · (obtain ⟨s0, s1, s2, s3⟩ := hS; go_simp; try with_reducible rfl)
          simp only [Act.put, List.setIfInBounds_toArray, List.set_cons_zero, List.set_cons_succ]
        refine readsY_cons ?_ (.bool false) (fun W hS => ?_) ?_
        · rfl
        · go_simp
          exact fun h1 h2 => HQ.out (Prod.ext (by omega) (by omega))
        simp only [Act.put, List.setIfInBounds_toArray, List.set_cons_zero, List.set_cons_succ]
        simp only [wpReadsY]
        refine NoPanic.normal ?_
        have HF1 := hide (HF.out.drew)
        go_wp2
        go_roundw
        case rel => exact ⟨k + 1, by omega, by omega, by go_num, HF1⟩
        case measure => simp [intOf]; omega
      · obtain rfl : k = m := by omega
        go_wp2
        go_ret
        exact ⟨rfl, HF.out⟩
/-- two slices of the same edges -/
theorem equal_ok (A B : Option Addr) (m c d : Nat) (l : List E) (w : World) (h : EdgesAt w A l) (h' : EdgesAt w B l) (hm : l.length = m) (hmx : m ≤ 100000) :
    Calls Try.prog 97 #[.slice A m c, .slice B m d] w fun e w' => e = .returned (.bool true) ∧ Fr (fun _ => False) w w' := by
  have H := hide h
  have H2 := hide h'
  have HM := hide hm
  clear h h' hm
  have hbe : ((m : Int) != (m : Int)) = false := by simp
  go_enter Try.func97, Try.ntmps97
  go_wp2
  go_loopw [13] (fun i wr => ∃ k : Nat, k ≤ m ∧ i = .int .i64 (k : Int) ∧ Hid (Fr (fun _ => False) w wr)) (fun i _ => m - (intOf i).toNat)
  case atStart => exact ⟨0, by omega, rfl, Fr.refl _ _⟩
  case round =>
    obtain ⟨k, hk, rfl, HF⟩ := hrel
    by_cases hlt : k < m
    · have lk : k < l.length := by rw [HM.out]; exact hlt
      obtain ⟨b, o, rfl, hb, hr⟩ := EdgesAt.cells (k := k) (H.out.up HF.out) lk
      obtain ⟨b', o', rfl, hb', hr'⟩ := EdgesAt.cells (k := k) (H2.out.up HF.out) lk
      have y0 := hr 0 _ rfl
      have y1 := hr 1 _ rfl
      have z0 := hr' 0 _ rfl
      have z1 := hr' 1 _ rfl
      rw [Nat.mul_comm 2] at y0 y1 z0 z1
      rw [Nat.add_zero] at y0 z0
      generalize l[k]'lk = x at *
      have b0 : (0 : Int) ≤ (k : Int) := by omega
      have b1 : (k : Int) < (m : Int) := by omega
      clear hr hr'
      go_wp2_with fail
      refine wp_region_reads (fun W => W.cell? ⟨b, o + k * 2, none⟩ = some (.int .i64 (x.1 : Int)) ∧ W.cell? ⟨b, o + k * 2 + 1, none⟩ = some (.int .i64 (x.2 : Int)) ∧ W.cell? ⟨b', o' + k * 2, none⟩ = some (.int .i64 (x.1 : Int)) ∧ W.cell? ⟨b', o' + k * 2 + 1, none⟩ = some (.int .i64 (x.2 : Int))) (by kernel_rfl) (by kernel_rfl) ⟨y0, y1, z0, z1⟩ ?_
      iterate 8
        refine readsY_cons ?_ ?_ (fun W hS => ?_) ?_
        · rfl
        rotate_left
        · (obtain ⟨s0, s1, s2, s3⟩ := hS; go_simp; try with_reducible rfl)
        simp only [Act.put, List.setIfInBounds_toArray, List.set_cons_zero, List.set_cons_succ]
      refine readsY_cons ?_ (.bool false) (fun W hS => ?_) ?_
      · rfl
      · go_simp
      simp only [Act.put, List.setIfInBounds_toArray, List.set_cons_zero, List.set_cons_succ]
      simp only [wpReadsY]
      refine NoPanic.normal ?_
      have HF1 := hide (HF.out.drew)
      go_wp2
      go_roundw
      case rel => exact ⟨k + 1, by omega, by go_num, HF1⟩
      case measure => simp [intOf]; omega
    · obtain rfl : k = m := by omega
      go_wp2
      go_ret
      exact ⟨rfl, HF.out⟩
end Go.Proofs.Ytjdbjahgimlhbaa
end
section
set_option linter.unusedVariables false
namespace Go.Proofs.Ytjdbjahgimlhbaa
open Go.RowKit Go.Shelf
open Gr (E)

attribute [local go_sem] Oper.semAt_some

/-- the cells of edges -/
def ECells (W : World) (b off : Nat) (zs : List E) : Prop := ∀ j x, zs[j]? = some x → W.cell? ⟨b, off + j * 2, none⟩ = some (.int .i64 (x.1 : Int)) ∧ W.cell? ⟨b, off + j * 2 + 1, none⟩ = some (.int .i64 (x.2 : Int))
theorem ECells.below {n₀ b off : Nat} {A B : World} {zs : List E} (h : ECells A b off zs) (hB : Below n₀ A B) (hb : b < n₀) : ECells B b off zs := fun j x hx =>
  ⟨(hB.cell (p := ⟨b, off + j * 2, none⟩) hb).trans (h j x hx).1, (hB.cell (p := ⟨b, off + j * 2 + 1, none⟩) hb).trans (h j x hx).2⟩

set_option maxRecDepth 100000 in
set_option maxHeartbeats 2000000 in
theorem values1_in (F : Fence) (n : Nat) (hf : F.fn 130) (hro : F.round = none) (hn : 1 ≤ n) (l Bs n₀ b off len cap : Nat) (zs : List E) (hz : zs.length = len) (hlen : len ≤ 100000) (hb : b < n₀) (J Jx : List E → World → Prop) (B : Nat) (hJ : AbidesFrom B J)
    (hY : ∀ pre x W, J pre W → pre.length < len → YieldAt F (n - 1) Try.prog l #[ev x] W fun e W' =>
      (e = .returned (.bool true) ∧ J (pre ++ [x]) W' ∧ Below n₀ W W') ∨ (e = .returned (.bool false) ∧ Jx (pre ++ [x]) W'))
    (W : World) (hBs : W.cell? ⟨Bs, 0, none⟩ = some (.slice (some ⟨b, off, none⟩) len cap)) (hc : ECells W b off zs) (hn₀ : n₀ ≤ W.heap.size) (h0 : J [] W) :
    CallsIn F n Try.prog 130 #[.func (.yield l) #[] #[], .pointer (some ⟨Bs, 0, none⟩)] W fun e W' => (∃ v, e = .returned v) ∧
      ((∃ ys, ys = zs ∧ J ys W') ∨ (∃ pre, pre <+: zs ∧ Jx pre W')) := by
  refine callsIn_of_wp Try.func130 rfl hf ?_ hro
  simp only [Try.ntmps130, List.size_toArray, List.length_cons, List.length_nil, Nat.reduceAdd, Nat.reduceSub, Array.replicate_succ, Array.replicate_zero, List.push_toArray, List.append_toArray, List.nil_append, List.cons_append]
  gi_wp2
  gi_loopw [7] (fun i wr => ∃ k : Nat, k ≤ len ∧ i = .int .i64 k ∧ J (zs.take k) wr ∧ Below n₀ W wr)
    (fun i _ => len - (intOf i).toNat)
  case atStart => exact ⟨0, Nat.zero_le _, rfl, by simpa using h0, Below.refl _ _⟩
  case round =>
    obtain ⟨k, hk, rfl, hJs, hnx⟩ := hrel
    by_cases hlt : k < len
    · have hkz : k < zs.length := by omega
      have hsnoc : zs.take (k + 1) = zs.take k ++ [zs[k]] := List.take_succ_eq_append_getElem hkz
      obtain ⟨c0, c1⟩ := hc.below hnx hb k _ (List.getElem?_eq_getElem hkz)
      generalize zs[k]'hkz = x at *
      have hA : J (zs.take k) (wr.alloc (.cells #[.int .i64 (x.1 : Int), .int .i64 (x.2 : Int)] 40)) := hJ _ _ _ none hJs (World.grownBy_alloc wr _ none) (fun r e => by cases e)
      have hnA : Below n₀ W (wr.alloc (.cells #[.int .i64 (x.1 : Int), .int .i64 (x.2 : Int)] 40)) := hnx.alloc (Nat.le_trans hn₀ hnx.size) _
      obtain ⟨fn, tmps, assign, body, hy, hR⟩ := hY _ x _ hA (by simp; omega)
      unfold ev at hy
      have b0 : (0 : Int) ≤ (k : Int) := by omega
      have b1 : (k : Int) < (len : Int) := by omega
      gi_wp2
      refine hR.mono ?_
      rintro e W3 (⟨rfl, hJ3, hk3⟩ | ⟨rfl, hJx3⟩)
      · have hn3 := hnA.trans hk3
        rw [← hsnoc] at hJ3
        gi_wp2
        go_roundw
        case rel => exact ⟨k + 1, by omega, by simp, hJ3, hn3⟩
        case measure => simp [intOf]; omega
      · gi_wp2
        refine bodyPost_ret (results_none rfl _ _ _) rfl ?_
        exact ⟨⟨_, rfl⟩, .inr ⟨_, by rw [← hsnoc]; exact List.take_prefix _ _, hJx3⟩⟩
    · obtain rfl : k = len := by omega
      gi_wp2
      go_end0
      exact ⟨⟨_, rfl⟩, .inl ⟨_, rfl, by rwa [List.take_of_length_le (by omega)] at hJs⟩⟩

set_option maxRecDepth 100000 in
set_option maxHeartbeats 1000000 in
theorem values1_nil_in (F : Fence) (n : Nat) (hf : F.fn 130) (hro : F.round = none) (l Bs : Nat) (A : Option Addr) (cap : Nat) (J : List E → World → Prop) (W : World) (hBs : W.cell? ⟨Bs, 0, none⟩ = some (.slice A 0 cap)) (h0 : J [] W) :
    CallsIn F n Try.prog 130 #[.func (.yield l) #[] #[], .pointer (some ⟨Bs, 0, none⟩)] W fun e W' => (∃ v, e = .returned v) ∧ J [] W' := by
  refine callsIn_of_wp Try.func130 rfl hf ?_ hro
  simp only [Try.ntmps130, List.size_toArray, List.length_cons, List.length_nil, Nat.reduceAdd, Nat.reduceSub, Array.replicate_succ, Array.replicate_zero, List.push_toArray, List.append_toArray, List.nil_append, List.cons_append]
  gi_wp2
  gi_loopw [7] (fun i wr => i = .int .i64 0 ∧ J [] wr) (fun _ _ => 0)
  case atStart => exact ⟨rfl, h0⟩
  case round =>
    obtain ⟨rfl, hJs⟩ := hrel
    gi_wp2
    go_end0
    exact ⟨⟨_, rfl⟩, hJs⟩
/-- edges in a slice, in a block below n₀ -/
def ESlice (n₀ : Nat) (W : World) (A : Option Addr) (zs : List E) : Prop := zs = [] ∨ ∃ b off, A = some ⟨b, off, none⟩ ∧ b < n₀ ∧ ECells W b off zs
theorem ESlice.below {n₀ : Nat} {A B : World} {X : Option Addr} {zs : List E} (h : ESlice n₀ A X zs) (hB : Below n₀ A B) : ESlice n₀ B X zs := by
  rcases h with h | ⟨b, off, e, hb, hc⟩
  · exact .inl h
  · exact .inr ⟨b, off, e, hb, hc.below hB hb⟩
theorem ESlice.of {w : World} {A : Option Addr} {zs : List E} (h : EdgesAt w A zs) : ESlice w.heap.size w A zs := by
  by_cases hz : zs = []
  · exact .inl hz
  · have h0 : 0 < zs.length := List.length_pos_iff.2 hz
    obtain ⟨b, o, e, hb, hc⟩ := h.2 h0
    refine .inr ⟨b, o, e, hb, fun j x hx => ?_⟩
    obtain ⟨h1, h2⟩ := ecells_at zs j x hx
    exact ⟨by have := hc _ _ h1; rwa [Nat.mul_comm 2 j] at this, by have := hc _ _ h2; rwa [Nat.mul_comm 2 j, ← Nat.add_assoc] at this⟩
theorem values_stops (F : Fence) (n : Nat) (hf : F.fn 130) (hro : F.round = none) (hn : 1 ≤ n) (Bs n₀ len cap : Nat) (A : Option Addr) (zs : List E) (hz : zs.length = len) (hlen : len ≤ 100000) (w : World) (hBs : Bs < w.heap.size) (hn₀ : n₀ ≤ w.heap.size)
    (hc : w.cell? ⟨Bs, 0, none⟩ = some (.slice A len cap)) (hI : ESlice n₀ w A zs) :
    SeqStopsK F n Try.prog 130 #[.pointer (some ⟨Bs, 0, none⟩)] (fun x : E => #[ev x]) (Below n₀) (fun ys => ys = zs) (fun pre => pre <+: zs) zs.length w := fun l J Jx W hW hJ _ hY h0 => by
  have hc' := (hW.cell (p := ⟨Bs, 0, none⟩) hBs).trans hc
  rcases hI.below (hW.mono hn₀) with rfl | ⟨b, off, rfl, hb, hcs⟩
  · obtain rfl : 0 = len := hz
    exact (values1_nil_in F n hf hro l Bs A cap J W hc' h0).mono fun e W' ⟨he, hj⟩ => ⟨he, .inl ⟨_, rfl, hj⟩⟩
  · rw [hz] at hY
    exact values1_in F n hf hro hn l Bs n₀ b off len cap zs hz hlen hb J Jx _ hJ hY W hc' hcs (Nat.le_trans hn₀ hW.size) h0
set_option maxHeartbeats 1000000 in
theorem values_in (F : Fence) (n : Nat) (hf : F.fn 113) (hro : F.round = none) (a : Option Addr) (len cap : Nat) (w : World) :
    CallsIn F n Try.prog 113 #[.slice a len cap] w fun e w' => e = .returned (.func (.func 130) #[] #[.pointer (some ⟨w.heap.size, 0, none⟩)]) ∧ w' = w.alloc (.cells #[.slice a len cap] 26) := by
  refine callsIn_of_wp Try.func113 rfl hf ?_ hro
  simp only [Try.ntmps113, List.size_toArray, List.length_cons, List.length_nil, Nat.reduceAdd, Nat.reduceSub, Array.replicate_succ, Array.replicate_zero, List.push_toArray, List.append_toArray, List.nil_append, List.cons_append]
  gi_wp2
  go_ret
  exact ⟨rfl, rfl⟩
theorem blk_own {β : Type} (B : Nat) (t : TypeId) (f : β → Array Value) : Own (fun s W => Blk W B t (f s)) := fun s X Y row hs hg hrow =>
  (hg.block B hs.lt (fun e' => by obtain ⟨o, ho, hc⟩ := hrow B e'.symm; rw [show X.heap[B]? = _ from hs] at ho; cases ho; cases hc)).trans hs
set_option maxRecDepth 100000 in
set_option maxHeartbeats 4000000 in
/-- slices.AppendSeq(nil, slices.Values(l)) -/
theorem appendSeq_in (F : Fence) (n : Nat) (hf : F.fn 140) (hv1 : F.fn 130) (hro : F.round = none) (hn : 3 ≤ n) (Bs len cap : Nat) (A : Option Addr) (zs : List E) (hz : zs.length = len) (hlen : len ≤ 100000) (w : World) (hBs : Bs < w.heap.size)
    (hc : w.cell? ⟨Bs, 0, none⟩ = some (.slice A len cap)) (hI : ESlice w.heap.size w A zs) :
    CallsIn F n Try.prog 140 #[.slice none 0 0, .func (.func 130) #[] #[.pointer (some ⟨Bs, 0, none⟩)]] w fun e w' => ∃ v, e = .returned v ∧ w'.ownsRow w.heap.size 40 2 v zs.length (ecells zs) ∧ Below w.heap.size w w' := by
  have h1 : 1 ≤ n := by omega
  obtain ⟨i0, hi, hz0, hz1, hz2⟩ := info_parts edge_info
  refine callsIn_of_wp_marks Try.func140 rfl hf ?_ hro
  simp only [Try.ntmps140, List.size_toArray, List.length_cons, List.length_nil, Nat.reduceAdd, Nat.reduceSub, Array.replicate_succ, Array.replicate_zero, List.push_toArray, List.append_toArray, List.nil_append, List.cons_append]
  gi_wp2
  have bS := Boxed.new w 26 (.slice none 0 0)
  have hB0 : Below w.heap.size w (w.alloc (.cells #[.slice none 0 0] 26)) := (Below.refl _ w).alloc (Nat.le_refl _) _
  have hsz : (w.alloc (.cells #[.slice none 0 0] 26)).heap.size = w.heap.size + 1 := by simp
  have hcB := (hB0.cell (p := ⟨Bs, 0, none⟩) hBs).trans hc
  have hIB := hI.below hB0
  obtain ⟨W0, hW0⟩ : ∃ W0, w.alloc (.cells #[.slice none 0 0] 26) = W0 := ⟨_, rfl⟩
  rw [hW0] at bS hB0 hsz hcB hIB ⊢
  clear hW0
  refine wpIn_rangeFunc_ownH hro h1 (gf := 130) (lb := #[.pointer (some ⟨Bs, 0, none⟩)]) rfl hv1 (enters_of Try.func130 (by kernel_rfl) rfl)
    (values_stops F (n - 1) hv1 hro (by omega) Bs w.heap.size len cap A zs hz hlen W0 (by omega) (by omega) hcB hIB) belowK_t (belowK_b (by omega)) (Below.refl _ _) (fun _ => rfl)
    (fun pre W => (∃ v, Boxed W w.heap.size 26 v ∧ W.ownsRow w.heap.size 40 2 v pre.length (ecells pre) ∧ True) ∧ Below w.heap.size w W)
    (fun _ _ _ => False)
    (OwnFrom.and (Own.from (holdsRow_own w.heap.size w.heap.size 26 40 2 (fun pre : List E => pre.length) (fun pre => ecells pre) (fun _ _ => True)) _) (ownFrom_below (Nat.le_refl _) (by omega)))
    (fun _ _ _ _ _ hs _ _ => hs)
    ⟨⟨_, bS, World.ownsRow_nil _ _ _ _, trivial⟩, hB0⟩
    (fun x a' W => ∃ Bx, w.heap.size < Bx ∧ Blk W Bx 40 #[.int .i64 (x.1 : Int), .int .i64 (x.2 : Int)] ∧ a' = { tmps := #[.slice none 0 0, .func (.func 130) #[] #[.pointer (some ⟨Bs, 0, none⟩)], .pointer (some ⟨w.heap.size, 0, none⟩), undef, .slice none 0 0, .pointer (some ⟨Bx, 0, none⟩), .func (.func 130) #[] #[.pointer (some ⟨Bs, 0, none⟩)], .agg #[.int .i64 (x.1 : Int), .int .i64 (x.2 : Int)], undef, undef, undef, undef, undef], defers := [] })
    (fun x a' _ X Y row hs hg hr => by obtain ⟨Bx, h1, h2, h3⟩ := hs; exact ⟨Bx, h1, blk_own Bx 40 (fun (_ : Unit) => #[.int .i64 (x.1 : Int), .int .i64 (x.2 : Int)]) () X Y row h2 hg (fun r e => (hr r e).2), h3⟩)
    ?assign ?body ?done ?stop
  case assign =>
    rintro l pre x W K ⟨⟨v, bS1, hrow1, _⟩, hB1⟩ hK
    unfold ev
    gi_wp2
    exact hK _ _ ((KeepsOthers.alloc _ _).from _) ((Below.refl _ W).alloc hB1.size _) ⟨⟨v, bS1.alloc _, hrow1.alloc _, trivial⟩, hB1.alloc hB1.size _⟩ ⟨W.heap.size, bS1.lt, Blk.new W _ _, rfl⟩
  case body =>
    rintro l pre x a' W hl ⟨r, hr⟩ ⟨⟨v, bS1, hrow1, _⟩, hB1⟩ ⟨Bx, hBx, bX, rfl⟩ hlt
    have cS := bS1.cell
    have c0 : W.cell? ⟨Bx, 0, none⟩ = some (.int .i64 (x.1 : Int)) := (bX.cell 0).trans rfl
    have c1 : W.cell? ⟨Bx, 1, none⟩ = some (.int .i64 (x.2 : Int)) := (bX.cell 1).trans rfl
    have h1' : 1 ≤ n - 1 - 1 := by omega
    have hnew : ∀ (j : Nat) (u : Value), [Value.int .i64 (x.1 : Int), Value.int .i64 (x.2 : Int)][j]? = some u → (W.alloc (.cells #[.int .i64 (x.1 : Int), .int .i64 (x.2 : Int)] 40)).cell? ((⟨W.heap.size, 0, none⟩ : Addr).add j) = some u := by
      intro j u hj
      rw [Addr.add_lit, Nat.zero_add, (Blk.new W 40 #[.int .i64 (x.1 : Int), .int .i64 (x.2 : Int)]).cell]
      simpa using hj
    have hsW := hB1.size
    gi_wp2_with
      (gi_at_builtin; refine wpListIn_append_own _ rfl _ _ 26 rfl w.heap.size 40 i0 _ 2 16 Try.underlying26 hi hz0 hz1 hz2 rfl (by decide) _ _ _ rfl (hrow1.alloc _) ⟨W.heap.size, 0, none⟩ 1 1 [.int .i64 (x.1 : Int), .int .i64 (x.2 : Int)] rfl rfl hnew (by simp [Value.oneCell']) (by unfold maxLen; omega) (by omega) (by simp; omega) ?_; intro v' w1 hown' hgrow _
       obtain ⟨A', c', rfl⟩ := Reads.own_val hown'
       have hap := Boxed.appended bS1 (by decide) hrow1 hsW (Nat.le_refl _) hown' hgrow
       have f1 := hap.1.frozen
       have cc := hap.1.cell
       go_frame)
    obtain ⟨hv1, hv2, hr2, hk2, hb2⟩ := hap
    exact ⟨hk2.from _, hb2, ⟨⟨_, hv2, by simpa [ecells] using hr2, trivial⟩, hB1.trans hb2⟩⟩
  case done =>
    rintro D ys W hD rfl ⟨⟨v, bS1, hrow1, _⟩, hB1⟩ hK
    have cS := bS1.cell
    gi_wp2
    refine ⟨by simp, .inl ⟨_, _, rfl, run_takeDeferred hK, ?_⟩⟩
    exact ⟨_, results_tmp rfl _ _ _, v, rfl, hrow1.kept (grownBy_putObj' W D _) (by
      rcases hrow1.2 with ⟨rfl, _⟩ | ⟨g, cap, cur, rfl, _, hgb, _⟩
      · exact .inl rfl
      · refine .inr fun e' => ?_
        obtain rfl : g = D := by simpa [Value.ownBlock] using e'
        rw [hgb] at hK; cases hK), hB1.trans (belowK_b (w := w) (Nat.le_refl _) W D _ _ (by omega) hK rfl rfl)⟩
  case stop =>
    rintro D c pre W _ _ h _
    exact h.elim

set_option maxHeartbeats 1000000 in
/-- slices.Collect(slices.Values(l)) -/
theorem collect_ok (Bs len cap : Nat) (A : Option Addr) (zs : List E) (hz : zs.length = len) (hlen : len ≤ 100000) (w : World) (hBs : Bs < w.heap.size) (hc : w.cell? ⟨Bs, 0, none⟩ = some (.slice A len cap)) (hI : ESlice w.heap.size w A zs) :
    Calls Try.prog 128 #[.func (.func 130) #[] #[.pointer (some ⟨Bs, 0, none⟩)]] w fun e w' => ∃ v, e = .returned v ∧ w'.ownsRow w.heap.size 40 2 v zs.length (ecells zs) ∧ Fr (fun _ => False) w w' := by
  subst hz
  have H := hide (callsIn_wide.1 (appendSeq_in Fence.wide 9 trivial trivial rfl (by omega) Bs zs.length cap A zs rfl hlen w hBs hc hI))
  clear hI
  go_enter Try.func128, Try.ntmps128
  go_wp2_with fail
  go_at_call 140
  refine H.out.mono ?_
  rintro e w1 ⟨v, rfl, hown, hb⟩
  have HO := hide hown
  have HB := hide (Fr.of_below hb (fun _ => False))
  obtain ⟨A', c', rfl⟩ := Reads.own_val hown
  clear hown hb
  go_wp2
  go_ret
  exact ⟨_, rfl, HO.out, HB.out⟩
theorem values_ok (a : Option Addr) (len cap : Nat) (w : World) : Calls Try.prog 113 #[.slice a len cap] w fun e w' => e = .returned (.func (.func 130) #[] #[.pointer (some ⟨w.heap.size, 0, none⟩)]) ∧ w' = w.alloc (.cells #[.slice a len cap] 26) :=
  callsIn_wide.1 (values_in Fence.wide 9 trivial rfl a len cap w)
end Go.Proofs.Ytjdbjahgimlhbaa
end
