/- Parts of the proof of KernelsTruth: no conditions of their own. -/
import Derived.Test.YtjdbjahgimlhbaaGreatKernelsTruthPk5
import Derived.Test.YtjdbjahgimlhbaaGreatKernelsTruthPk2
import Derived.RangeFuncNested
import Derived.RangeFuncBound
import Derived.RangeFuncCalls
import Derived.RangeFuncLeaves
import Derived.RangeFuncBox
import Derived.Shelf.Abstract
import Derived.Shelf.RegionOpen
import Derived.WalkKit
import Derived.OwnWalkIn
import Derived.TacticsInMore
import Derived.LoopNIn
import Derived.LoopIn
import Derived.Test.YtjdbjahgimlhbaaGreatKernelsTruthPk18
section
set_option linter.unusedVariables false
set_option maxRecDepth 100000
namespace Go.Proofs.YtjdbjahgimlhbaaGreat
open Go.RowKit
open Gr (E)

theorem within_ok (n v : Nat) (w : World) (h : v < n) : Calls Tryz.prog 68 #[.int .i64 (n : Int), .int .i64 (v : Int)] w fun e w' => e = .returned (.bool true) ∧ w = w' := by
  have b1 : decide ((0 : Int) ≤ (v : Int)) = true := by simp
  have b2 : decide ((v : Int) < (n : Int)) = true := by simp; omega
  have b3 : decide (v < n) = true := by simp; omega
  clear h
  go_enter Tryz.func68, Tryz.ntmps68
  go_wp2
  go_ret
  exact ⟨rfl, rfl⟩
theorem may_ok (n : Nat) (w : World) (h1 : 1 ≤ n) (h2 : n ≤ 256) : Calls Tryz.prog 69 #[.int .i64 (n : Int)] w fun e w' => e = .returned (.bool true) ∧ w = w' := by
  have b1 : decide ((1 : Int) ≤ (n : Int)) = true := by simp; omega
  have b2 : decide ((n : Int) ≤ 256) = true := by simp; omega
  have b3 : decide (1 ≤ n) = true := by simp; omega
  have b4 : decide (n ≤ 256) = true := by simp; omega
  clear h1 h2
  go_enter Tryz.func69, Tryz.ntmps69
  go_wp2
  go_ret
  exact ⟨rfl, rfl⟩
theorem npred_ok (n Bn : Nat) (x : E) (w : World) (hB : w.cell? ⟨Bn, 0, none⟩ = some (.int .i64 (n : Int))) (h1 : x.1 < n) (h2 : x.2 < n) (h3 : x.1 ≠ x.2) :
    Calls Tryz.prog 67 #[ev x, .pointer (some ⟨Bn, 0, none⟩)] w fun e w' => e = .returned (.bool false) ∧ Fr (fun _ => False) w w' := by
  have F1 := hide ((Fr.refl (fun _ => False) w).alloc (.cells #[.int .i64 (x.1 : Int), .int .i64 (x.2 : Int)] 59))
  have c0 := F1.out.cell hB id
  have H1 := hide (fun w => within_ok n x.1 w h1)
  have H2 := hide (fun w => within_ok n x.2 w h2)
  have b1 : ((x.1 : Int) == (x.2 : Int)) = false := by simp; omega
  clear h1 h2 h3
  unfold ev
  go_enter Tryz.func67, Tryz.ntmps67
  go_wp2_with fail
  go_at_call 68
  refine (H1.out _).mono ?_
  rintro e w1 ⟨rfl, rfl⟩
  go_wp2_with fail
  go_at_call 68
  refine (H2.out _).mono ?_
  rintro e w1 ⟨rfl, rfl⟩
  go_wp2
  go_ret
  exact ⟨rfl, F1.out⟩
theorem indexf_ok (A : Option Addr) (n m c Bn : Nat) (l : List E) (w : World) (h : EdgesAt w A l) (hm : l.length = m) (hmx : m ≤ 100000) (hBn : Bn < w.heap.size) (hB : w.cell? ⟨Bn, 0, none⟩ = some (.int .i64 (n : Int))) (hl : ∀ e ∈ l, e.1 < n ∧ e.2 < n ∧ e.1 ≠ e.2) :
    Calls Tryz.prog 105 #[.slice A m c, .func (.func 67) #[] #[.pointer (some ⟨Bn, 0, none⟩)]] w fun e w' => e = .returned (.int .i64 (-1)) ∧ Fr (fun _ => False) w w' := by
  have H := hide h
  have HM := hide hm
  have HL := hide hl
  have HB := hide hB
  clear h hm hl hB
  go_enter Tryz.func105, Tryz.ntmps105
  go_wp2
  go_loopw [8] (fun i wr => ∃ k : Nat, k ≤ m ∧ i = .int .i64 (k : Int) ∧ Hid (Fr (fun _ => False) w wr)) (fun i _ => m - (intOf i).toNat)
  case atStart => exact ⟨0, by omega, rfl, Fr.refl _ _⟩
  case round =>
    obtain ⟨k, hk, rfl, HF⟩ := hrel
    by_cases hlt : k < m
    · have lk : k < l.length := by rw [HM.out]; exact hlt
      obtain ⟨b, o, rfl, hb, hr⟩ := EdgesAt.cells (k := k) (H.out.up HF.out) lk
      have y0 := hr 0 _ rfl
      have y1 := hr 1 _ rfl
      rw [Nat.mul_comm 2 k] at y0 y1
      rw [Nat.add_zero] at y0
      obtain ⟨p1, p2, p3⟩ := HL.out _ (List.getElem_mem lk)
      generalize l[k]'lk = x at *
      have HP := hide (npred_ok n Bn x wr (HF.out.cell HB.out id) p1 p2 p3)
      unfold ev at HP
      have b0 : (0 : Int) ≤ (k : Int) := by omega
      have b1 : (k : Int) < (m : Int) := by omega
      clear hr
      go_wp2_with fail
      go_at_call 67
      refine HP.out.mono ?_
      rintro e w1 ⟨rfl, hf⟩
      have HF1 := hide (HF.out.then_ hf)
      clear hf
      go_wp2
      go_roundw
      case rel => exact ⟨k + 1, by omega, by go_num, HF1⟩
      case measure => simp [intOf]; omega
    · obtain rfl : k = m := by omega
      go_wp2
      go_ret
      exact ⟨rfl, HF.out⟩
theorem contf_ok (A : Option Addr) (n m c Bn : Nat) (l : List E) (w : World) (h : EdgesAt w A l) (hm : l.length = m) (hmx : m ≤ 100000) (hBn : Bn < w.heap.size) (hB : w.cell? ⟨Bn, 0, none⟩ = some (.int .i64 (n : Int))) (hl : ∀ e ∈ l, e.1 < n ∧ e.2 < n ∧ e.1 ≠ e.2) :
    Calls Tryz.prog 70 #[.slice A m c, .func (.func 67) #[] #[.pointer (some ⟨Bn, 0, none⟩)]] w fun e w' => e = .returned (.bool false) ∧ Fr (fun _ => False) w w' := by
  have HI := hide (indexf_ok A n m c Bn l w h hm hmx hBn hB hl)
  clear h hm hl hB
  go_enter Tryz.func70, Tryz.ntmps70
  go_wp2_with fail
  go_at_call 105
  refine HI.out.mono ?_
  rintro e w1 ⟨rfl, hf⟩
  have HF := hide hf
  clear hf
  go_wp2
  go_ret
  exact ⟨rfl, HF.out⟩
theorem compact_ok (A : Option Addr) (m c : Nat) (l : List E) (w : World) (h : EdgesAt w A l) (hm : l.length = m) (hmx : m ≤ 100000) (hs : Gr.Sorted l) :
    Calls Tryz.prog 71 #[.slice A m c] w fun e w' => e = .returned (.slice A m c) ∧ Fr (fun _ => False) w w' := by
  have H := hide h
  have HM := hide hm
  have HS := hide hs
  clear h hm hs
  by_cases h2 : m < 2
  · have b1 : decide ((m : Int) < 2) = true := by simp; omega
    go_enter Tryz.func71, Tryz.ntmps71
    go_wp2
    go_ret
    exact ⟨rfl, Fr.refl _ _⟩
  · have b1 : decide ((m : Int) < 2) = false := by simp; omega
    go_enter Tryz.func71, Tryz.ntmps71
    go_wp2
    go_loopw [3] (fun i wr => ∃ k : Nat, 1 ≤ k ∧ k ≤ m ∧ i = .int .i64 (k : Int) ∧ Hid (Fr (fun _ => False) w wr)) (fun i _ => m - (intOf i).toNat)
    case atStart => exact ⟨1, by omega, by omega, rfl, Fr.refl _ _⟩
    case round =>
      obtain ⟨k, hk1, hk, rfl, HF⟩ := hrel
      by_cases hlt : k < m
      · have lk : k < l.length := by rw [HM.out]; exact hlt
        have lj : k - 1 < l.length := by omega
        obtain ⟨b, o, rfl, hb, hr⟩ := EdgesAt.cells (k := k) (H.out.up HF.out) lk
        obtain ⟨b', o', e', hb', hr'⟩ := EdgesAt.cells (k := k - 1) (H.out.up HF.out) lj
        injection e' with e'
        injection e' with e1 e2
        subst e1
        subst e2
        have y0 := hr 0 _ rfl
        have y1 := hr 1 _ rfl
        have z0 := hr' 0 _ rfl
        have z1 := hr' 1 _ rfl
        rw [Nat.mul_comm 2] at y0 y1 z0 z1
        rw [Nat.add_zero] at y0 z0
        have hne : l[k] ≠ l[k - 1] := fun e => by
          have := (List.pairwise_iff_getElem.1 HS.out) (k - 1) k lj lk (by omega)
          rw [e, Gr.less_irrefl] at this
          cases this
        generalize l[k]'lk = x at *
        generalize l[k - 1]'lj = y at *
        have hk1' : IntKind.i64.wrap ((k : Int) - 1) = ((k - 1 : Nat) : Int) := by simp only [IntKind.wrap, IntKind.bits, IntKind.signed]; simp; omega
        have b0 : (0 : Int) ≤ (k : Int) := by omega
        have b1 : (k : Int) < (m : Int) := by omega
        have b2 : (0 : Int) ≤ ((k - 1 : Nat) : Int) := by omega
        have b3 : ((k - 1 : Nat) : Int) < (m : Int) := by omega
        have HQ := hide hne
        obtain ⟨j, hj⟩ : ∃ j, k - 1 = j := ⟨_, rfl⟩
        rw [hj] at z0 z1 hk1' b2 b3
        have HJ := hide hj
        clear hr hr' hj hne
        go_wp2_with fail
        refine wp_region_reads (fun W => W.cell? ⟨b, o + k * 2, none⟩ = some (.int .i64 (x.1 : Int)) ∧ W.cell? ⟨b, o + k * 2 + 1, none⟩ = some (.int .i64 (x.2 : Int)) ∧ W.cell? ⟨b, o + j * 2, none⟩ = some (.int .i64 (y.1 : Int)) ∧ W.cell? ⟨b, o + j * 2 + 1, none⟩ = some (.int .i64 (y.2 : Int))) (by kernel_rfl) (by kernel_rfl) ⟨y0, y1, z0, z1⟩ ?_
        iterate 9
          refine readsY_cons ?_ ?_ (fun W hS => ?_) ?_
          · rfl
          rotate_left
          · (obtain ⟨s0, s1, s2, s3⟩ := hS; go_simp; try with_reducible rfl)
          simp only [Act.put, List.setIfInBounds_toArray, List.set_cons_zero, List.set_cons_succ]
        refine readsY_cons ?_ (.bool false) (fun W hS => ?_) ?_
        · rfl
        · go_simp
          exact fun h1 h2 => HQ.out (Prod.ext (by omega) (by omega))
        simp only [Act.put, List.setIfInBounds_toArray, List.set_cons_zero, List.set_cons_succ]
        simp only [wpReadsY]
        refine NoPanic.normal ?_
        have HF1 := hide (HF.out.drew)
        go_wp2
        go_roundw
        case rel => exact ⟨k + 1, by omega, by omega, by go_num, HF1⟩
        case measure => simp [intOf]; omega
      · obtain rfl : k = m := by omega
        go_wp2
        go_ret
        exact ⟨rfl, HF.out⟩
/-- two slices of the same edges -/
theorem equal_ok (A B : Option Addr) (m c d : Nat) (l : List E) (w : World) (h : EdgesAt w A l) (h' : EdgesAt w B l) (hm : l.length = m) (hmx : m ≤ 100000) :
    Calls Tryz.prog 32 #[.slice A m c, .slice B m d] w fun e w' => e = .returned (.bool true) ∧ Fr (fun _ => False) w w' := by
  have H := hide h
  have H2 := hide h'
  have HM := hide hm
  clear h h' hm
  have hbe : ((m : Int) != (m : Int)) = false := by simp
  go_enter Tryz.func32, Tryz.ntmps32
  go_wp2
  go_loopw [13] (fun i wr => ∃ k : Nat, k ≤ m ∧ i = .int .i64 (k : Int) ∧ Hid (Fr (fun _ => False) w wr)) (fun i _ => m - (intOf i).toNat)
  case atStart => exact ⟨0, by omega, rfl, Fr.refl _ _⟩
  case round =>
    obtain ⟨k, hk, rfl, HF⟩ := hrel
    by_cases hlt : k < m
    · have lk : k < l.length := by rw [HM.out]; exact hlt
      obtain ⟨b, o, rfl, hb, hr⟩ := EdgesAt.cells (k := k) (H.out.up HF.out) lk
      obtain ⟨b', o', rfl, hb', hr'⟩ := EdgesAt.cells (k := k) (H2.out.up HF.out) lk
      have y0 := hr 0 _ rfl
      have y1 := hr 1 _ rfl
      have z0 := hr' 0 _ rfl
      have z1 := hr' 1 _ rfl
      rw [Nat.mul_comm 2] at y0 y1 z0 z1
      rw [Nat.add_zero] at y0 z0
      generalize l[k]'lk = x at *
      have b0 : (0 : Int) ≤ (k : Int) := by omega
      have b1 : (k : Int) < (m : Int) := by omega
      clear hr hr'
      go_wp2_with fail
      refine wp_region_reads (fun W => W.cell? ⟨b, o + k * 2, none⟩ = some (.int .i64 (x.1 : Int)) ∧ W.cell? ⟨b, o + k * 2 + 1, none⟩ = some (.int .i64 (x.2 : Int)) ∧ W.cell? ⟨b', o' + k * 2, none⟩ = some (.int .i64 (x.1 : Int)) ∧ W.cell? ⟨b', o' + k * 2 + 1, none⟩ = some (.int .i64 (x.2 : Int))) (by kernel_rfl) (by kernel_rfl) ⟨y0, y1, z0, z1⟩ ?_
      iterate 8
        refine readsY_cons ?_ ?_ (fun W hS => ?_) ?_
        · rfl
        rotate_left
        · (obtain ⟨s0, s1, s2, s3⟩ := hS; go_simp; try with_reducible rfl)
        simp only [Act.put, List.setIfInBounds_toArray, List.set_cons_zero, List.set_cons_succ]
      refine readsY_cons ?_ (.bool false) (fun W hS => ?_) ?_
      · rfl
      · go_simp
      simp only [Act.put, List.setIfInBounds_toArray, List.set_cons_zero, List.set_cons_succ]
      simp only [wpReadsY]
      refine NoPanic.normal ?_
      have HF1 := hide (HF.out.drew)
      go_wp2
      go_roundw
      case rel => exact ⟨k + 1, by omega, by go_num, HF1⟩
      case measure => simp [intOf]; omega
    · obtain rfl : k = m := by omega
      go_wp2
      go_ret
      exact ⟨rfl, HF.out⟩
end Go.Proofs.YtjdbjahgimlhbaaGreat
end
section
set_option linter.unusedVariables false
namespace Go.Proofs.YtjdbjahgimlhbaaGreat
open Go.RowKit Go.Shelf
open Gr (E)

attribute [local go_sem] Oper.semAt_some

/-- the cells of edges -/
def ECells (W : World) (b off : Nat) (zs : List E) : Prop := ∀ j x, zs[j]? = some x → W.cell? ⟨b, off + j * 2, none⟩ = some (.int .i64 (x.1 : Int)) ∧ W.cell? ⟨b, off + j * 2 + 1, none⟩ = some (.int .i64 (x.2 : Int))
theorem ECells.below {n₀ b off : Nat} {A B : World} {zs : List E} (h : ECells A b off zs) (hB : Below n₀ A B) (hb : b < n₀) : ECells B b off zs := fun j x hx =>
  ⟨(hB.cell (p := ⟨b, off + j * 2, none⟩) hb).trans (h j x hx).1, (hB.cell (p := ⟨b, off + j * 2 + 1, none⟩) hb).trans (h j x hx).2⟩

set_option maxRecDepth 100000 in
set_option maxHeartbeats 2000000 in
theorem values1_in (F : Fence) (n : Nat) (hf : F.fn 108) (hro : F.round = none) (hn : 1 ≤ n) (l Bs n₀ b off len cap : Nat) (zs : List E) (hz : zs.length = len) (hlen : len ≤ 100000) (hb : b < n₀) (J Jx : List E → World → Prop) (B : Nat) (hJ : AbidesFrom B J)
    (hY : ∀ pre x W, J pre W → pre.length < len → YieldAt F (n - 1) Tryz.prog l #[ev x] W fun e W' =>
      (e = .returned (.bool true) ∧ J (pre ++ [x]) W' ∧ Below n₀ W W') ∨ (e = .returned (.bool false) ∧ Jx (pre ++ [x]) W'))
    (W : World) (hBs : W.cell? ⟨Bs, 0, none⟩ = some (.slice (some ⟨b, off, none⟩) len cap)) (hc : ECells W b off zs) (hn₀ : n₀ ≤ W.heap.size) (h0 : J [] W) :
    CallsIn F n Tryz.prog 108 #[.func (.yield l) #[] #[], .pointer (some ⟨Bs, 0, none⟩)] W fun e W' => (∃ v, e = .returned v) ∧
      ((∃ ys, ys = zs ∧ J ys W') ∨ (∃ pre, pre <+: zs ∧ Jx pre W')) := by
  refine callsIn_of_wp Tryz.func108 rfl hf ?_ hro
  simp only [Tryz.ntmps108, List.size_toArray, List.length_cons, List.length_nil, Nat.reduceAdd, Nat.reduceSub, Array.replicate_succ, Array.replicate_zero, List.push_toArray, List.append_toArray, List.nil_append, List.cons_append]
  gi_wp2
  gi_loopw [7] (fun i wr => ∃ k : Nat, k ≤ len ∧ i = .int .i64 k ∧ J (zs.take k) wr ∧ Below n₀ W wr)
    (fun i _ => len - (intOf i).toNat)
  case atStart => exact ⟨0, Nat.zero_le _, rfl, by simpa using h0, Below.refl _ _⟩
  case round =>
    obtain ⟨k, hk, rfl, hJs, hnx⟩ := hrel
    by_cases hlt : k < len
    · have hkz : k < zs.length := by omega
      have hsnoc : zs.take (k + 1) = zs.take k ++ [zs[k]] := List.take_succ_eq_append_getElem hkz
      obtain ⟨c0, c1⟩ := hc.below hnx hb k _ (List.getElem?_eq_getElem hkz)
      generalize zs[k]'hkz = x at *
      have hA : J (zs.take k) (wr.alloc (.cells #[.int .i64 (x.1 : Int), .int .i64 (x.2 : Int)] 59)) := hJ _ _ _ none hJs (World.grownBy_alloc wr _ none) (fun r e => by cases e)
      have hnA : Below n₀ W (wr.alloc (.cells #[.int .i64 (x.1 : Int), .int .i64 (x.2 : Int)] 59)) := hnx.alloc (Nat.le_trans hn₀ hnx.size) _
      obtain ⟨fn, tmps, assign, body, hy, hR⟩ := hY _ x _ hA (by simp; omega)
      unfold ev at hy
      have b0 : (0 : Int) ≤ (k : Int) := by omega
      have b1 : (k : Int) < (len : Int) := by omega
      gi_wp2
      refine hR.mono ?_
      rintro e W3 (⟨rfl, hJ3, hk3⟩ | ⟨rfl, hJx3⟩)
      · have hn3 := hnA.trans hk3
        rw [← hsnoc] at hJ3
        gi_wp2
        go_roundw
        case rel => exact ⟨k + 1, by omega, by simp, hJ3, hn3⟩
        case measure => simp [intOf]; omega
      · gi_wp2
        refine bodyPost_ret (results_none rfl _ _ _) rfl ?_
        exact ⟨⟨_, rfl⟩, .inr ⟨_, by rw [← hsnoc]; exact List.take_prefix _ _, hJx3⟩⟩
    · obtain rfl : k = len := by omega
      gi_wp2
      go_end0
      exact ⟨⟨_, rfl⟩, .inl ⟨_, rfl, by rwa [List.take_of_length_le (by omega)] at hJs⟩⟩

set_option maxRecDepth 100000 in
set_option maxHeartbeats 1000000 in
theorem values1_nil_in (F : Fence) (n : Nat) (hf : F.fn 108) (hro : F.round = none) (l Bs : Nat) (A : Option Addr) (cap : Nat) (J : List E → World → Prop) (W : World) (hBs : W.cell? ⟨Bs, 0, none⟩ = some (.slice A 0 cap)) (h0 : J [] W) :
    CallsIn F n Tryz.prog 108 #[.func (.yield l) #[] #[], .pointer (some ⟨Bs, 0, none⟩)] W fun e W' => (∃ v, e = .returned v) ∧ J [] W' := by
  refine callsIn_of_wp Tryz.func108 rfl hf ?_ hro
  simp only [Tryz.ntmps108, List.size_toArray, List.length_cons, List.length_nil, Nat.reduceAdd, Nat.reduceSub, Array.replicate_succ, Array.replicate_zero, List.push_toArray, List.append_toArray, List.nil_append, List.cons_append]
  gi_wp2
  gi_loopw [7] (fun i wr => i = .int .i64 0 ∧ J [] wr) (fun _ _ => 0)
  case atStart => exact ⟨rfl, h0⟩
  case round =>
    obtain ⟨rfl, hJs⟩ := hrel
    gi_wp2
    go_end0
    exact ⟨⟨_, rfl⟩, hJs⟩
/-- edges in a slice, in a block below n₀ -/
def ESlice (n₀ : Nat) (W : World) (A : Option Addr) (zs : List E) : Prop := zs = [] ∨ ∃ b off, A = some ⟨b, off, none⟩ ∧ b < n₀ ∧ ECells W b off zs
theorem ESlice.below {n₀ : Nat} {A B : World} {X : Option Addr} {zs : List E} (h : ESlice n₀ A X zs) (hB : Below n₀ A B) : ESlice n₀ B X zs := by
  rcases h with h | ⟨b, off, e, hb, hc⟩
  · exact .inl h
  · exact .inr ⟨b, off, e, hb, hc.below hB hb⟩
theorem ESlice.of {w : World} {A : Option Addr} {zs : List E} (h : EdgesAt w A zs) : ESlice w.heap.size w A zs := by
  by_cases hz : zs = []
  · exact .inl hz
  · have h0 : 0 < zs.length := List.length_pos_iff.2 hz
    obtain ⟨b, o, e, hb, hc⟩ := h.2 h0
    refine .inr ⟨b, o, e, hb, fun j x hx => ?_⟩
    obtain ⟨h1, h2⟩ := ecells_at zs j x hx
    exact ⟨by have := hc _ _ h1; rwa [Nat.mul_comm 2 j] at this, by have := hc _ _ h2; rwa [Nat.mul_comm 2 j, ← Nat.add_assoc] at this⟩
theorem values_stops (F : Fence) (n : Nat) (hf : F.fn 108) (hro : F.round = none) (hn : 1 ≤ n) (Bs n₀ len cap : Nat) (A : Option Addr) (zs : List E) (hz : zs.length = len) (hlen : len ≤ 100000) (w : World) (hBs : Bs < w.heap.size) (hn₀ : n₀ ≤ w.heap.size)
    (hc : w.cell? ⟨Bs, 0, none⟩ = some (.slice A len cap)) (hI : ESlice n₀ w A zs) :
    SeqStopsK F n Tryz.prog 108 #[.pointer (some ⟨Bs, 0, none⟩)] (fun x : E => #[ev x]) (Below n₀) (fun ys => ys = zs) (fun pre => pre <+: zs) zs.length w := fun l J Jx W hW hJ _ hY h0 => by
  have hc' := (hW.cell (p := ⟨Bs, 0, none⟩) hBs).trans hc
  rcases hI.below (hW.mono hn₀) with rfl | ⟨b, off, rfl, hb, hcs⟩
  · obtain rfl : 0 = len := hz
    exact (values1_nil_in F n hf hro l Bs A cap J W hc' h0).mono fun e W' ⟨he, hj⟩ => ⟨he, .inl ⟨_, rfl, hj⟩⟩
  · rw [hz] at hY
    exact values1_in F n hf hro hn l Bs n₀ b off len cap zs hz hlen hb J Jx _ hJ hY W hc' hcs (Nat.le_trans hn₀ hW.size) h0
set_option maxHeartbeats 1000000 in
theorem values_in (F : Fence) (n : Nat) (hf : F.fn 73) (hro : F.round = none) (a : Option Addr) (len cap : Nat) (w : World) :
    CallsIn F n Tryz.prog 73 #[.slice a len cap] w fun e w' => e = .returned (.func (.func 108) #[] #[.pointer (some ⟨w.heap.size, 0, none⟩)]) ∧ w' = w.alloc (.cells #[.slice a len cap] 32) := by
  refine callsIn_of_wp Tryz.func73 rfl hf ?_ hro
  simp only [Tryz.ntmps73, List.size_toArray, List.length_cons, List.length_nil, Nat.reduceAdd, Nat.reduceSub, Array.replicate_succ, Array.replicate_zero, List.push_toArray, List.append_toArray, List.nil_append, List.cons_append]
  gi_wp2
  go_ret
  exact ⟨rfl, rfl⟩
theorem blk_own {β : Type} (B : Nat) (t : TypeId) (f : β → Array Value) : Own (fun s W => Blk W B t (f s)) := fun s X Y row hs hg hrow =>
  (hg.block B hs.lt (fun e' => by obtain ⟨o, ho, hc⟩ := hrow B e'.symm; rw [show X.heap[B]? = _ from hs] at ho; cases ho; cases hc)).trans hs
set_option maxRecDepth 100000 in
set_option maxHeartbeats 4000000 in
/-- slices.AppendSeq(nil, slices.Values(l)) -/
theorem appendSeq_in (F : Fence) (n : Nat) (hf : F.fn 118) (hv1 : F.fn 108) (hro : F.round = none) (hn : 3 ≤ n) (Bs len cap : Nat) (A : Option Addr) (zs : List E) (hz : zs.length = len) (hlen : len ≤ 100000) (w : World) (hBs : Bs < w.heap.size)
    (hc : w.cell? ⟨Bs, 0, none⟩ = some (.slice A len cap)) (hI : ESlice w.heap.size w A zs) :
    CallsIn F n Tryz.prog 118 #[.slice none 0 0, .func (.func 108) #[] #[.pointer (some ⟨Bs, 0, none⟩)]] w fun e w' => ∃ v, e = .returned v ∧ w'.ownsRow w.heap.size 59 2 v zs.length (ecells zs) ∧ Below w.heap.size w w' := by
  have h1 : 1 ≤ n := by omega
  obtain ⟨i0, hi, hz0, hz1, hz2⟩ := info_parts edge_info
  refine callsIn_of_wp_marks Tryz.func118 rfl hf ?_ hro
  simp only [Tryz.ntmps118, List.size_toArray, List.length_cons, List.length_nil, Nat.reduceAdd, Nat.reduceSub, Array.replicate_succ, Array.replicate_zero, List.push_toArray, List.append_toArray, List.nil_append, List.cons_append]
  gi_wp2
  have bS := Boxed.new w 32 (.slice none 0 0)
  have hB0 : Below w.heap.size w (w.alloc (.cells #[.slice none 0 0] 32)) := (Below.refl _ w).alloc (Nat.le_refl _) _
  have hsz : (w.alloc (.cells #[.slice none 0 0] 32)).heap.size = w.heap.size + 1 := by simp
  have hcB := (hB0.cell (p := ⟨Bs, 0, none⟩) hBs).trans hc
  have hIB := hI.below hB0
  obtain ⟨W0, hW0⟩ : ∃ W0, w.alloc (.cells #[.slice none 0 0] 32) = W0 := ⟨_, rfl⟩
  rw [hW0] at bS hB0 hsz hcB hIB ⊢
  clear hW0
  refine wpIn_rangeFunc_ownH hro h1 (gf := 108) (lb := #[.pointer (some ⟨Bs, 0, none⟩)]) rfl hv1 (enters_of Tryz.func108 (by kernel_rfl) rfl)
    (values_stops F (n - 1) hv1 hro (by omega) Bs w.heap.size len cap A zs hz hlen W0 (by omega) (by omega) hcB hIB) belowK_t (belowK_b (by omega)) (Below.refl _ _) (fun _ => rfl)
    (fun pre W => (∃ v, Boxed W w.heap.size 32 v ∧ W.ownsRow w.heap.size 59 2 v pre.length (ecells pre) ∧ True) ∧ Below w.heap.size w W)
    (fun _ _ _ => False)
    (OwnFrom.and (Own.from (holdsRow_own w.heap.size w.heap.size 32 59 2 (fun pre : List E => pre.length) (fun pre => ecells pre) (fun _ _ => True)) _) (ownFrom_below (Nat.le_refl _) (by omega)))
    (fun _ _ _ _ _ hs _ _ => hs)
    ⟨⟨_, bS, World.ownsRow_nil _ _ _ _, trivial⟩, hB0⟩
    (fun x a' W => ∃ Bx, w.heap.size < Bx ∧ Blk W Bx 59 #[.int .i64 (x.1 : Int), .int .i64 (x.2 : Int)] ∧ a' = { tmps := #[.slice none 0 0, .func (.func 108) #[] #[.pointer (some ⟨Bs, 0, none⟩)], .pointer (some ⟨w.heap.size, 0, none⟩), undef, .slice none 0 0, .pointer (some ⟨Bx, 0, none⟩), .func (.func 108) #[] #[.pointer (some ⟨Bs, 0, none⟩)], .agg #[.int .i64 (x.1 : Int), .int .i64 (x.2 : Int)], undef, undef, undef, undef, undef], defers := [] })
    (fun x a' _ X Y row hs hg hr => by obtain ⟨Bx, h1, h2, h3⟩ := hs; exact ⟨Bx, h1, blk_own Bx 59 (fun (_ : Unit) => #[.int .i64 (x.1 : Int), .int .i64 (x.2 : Int)]) () X Y row h2 hg (fun r e => (hr r e).2), h3⟩)
    ?assign ?body ?done ?stop
  case assign =>
    rintro l pre x W K ⟨⟨v, bS1, hrow1, _⟩, hB1⟩ hK
    unfold ev
    gi_wp2
    exact hK _ _ ((KeepsOthers.alloc _ _).from _) ((Below.refl _ W).alloc hB1.size _) ⟨⟨v, bS1.alloc _, hrow1.alloc _, trivial⟩, hB1.alloc hB1.size _⟩ ⟨W.heap.size, bS1.lt, Blk.new W _ _, rfl⟩
  case body =>
    rintro l pre x a' W hl ⟨r, hr⟩ ⟨⟨v, bS1, hrow1, _⟩, hB1⟩ ⟨Bx, hBx, bX, rfl⟩ hlt
    have cS := bS1.cell
    have c0 : W.cell? ⟨Bx, 0, none⟩ = some (.int .i64 (x.1 : Int)) := (bX.cell 0).trans rfl
    have c1 : W.cell? ⟨Bx, 1, none⟩ = some (.int .i64 (x.2 : Int)) := (bX.cell 1).trans rfl
    have h1' : 1 ≤ n - 1 - 1 := by omega
    have hnew : ∀ (j : Nat) (u : Value), [Value.int .i64 (x.1 : Int), Value.int .i64 (x.2 : Int)][j]? = some u → (W.alloc (.cells #[.int .i64 (x.1 : Int), .int .i64 (x.2 : Int)] 59)).cell? ((⟨W.heap.size, 0, none⟩ : Addr).add j) = some u := by
      intro j u hj
      rw [Addr.add_lit, Nat.zero_add, (Blk.new W 59 #[.int .i64 (x.1 : Int), .int .i64 (x.2 : Int)]).cell]
      simpa using hj
    have hsW := hB1.size
    gi_wp2_with
      (gi_at_builtin; refine wpListIn_append_own _ rfl _ _ 32 rfl w.heap.size 59 i0 _ 2 16 Tryz.underlying32 hi hz0 hz1 hz2 rfl (by decide) _ _ _ rfl (hrow1.alloc _) ⟨W.heap.size, 0, none⟩ 1 1 [.int .i64 (x.1 : Int), .int .i64 (x.2 : Int)] rfl rfl hnew (by simp [Value.oneCell']) (by unfold maxLen; omega) (by omega) (by simp; omega) ?_; intro v' w1 hown' hgrow _
       obtain ⟨A', c', rfl⟩ := Reads.own_val hown'
       have hap := Boxed.appended bS1 (by decide) hrow1 hsW (Nat.le_refl _) hown' hgrow
       have f1 := hap.1.frozen
       have cc := hap.1.cell
       go_frame)
    obtain ⟨hv1, hv2, hr2, hk2, hb2⟩ := hap
    exact ⟨hk2.from _, hb2, ⟨⟨_, hv2, by simpa [ecells] using hr2, trivial⟩, hB1.trans hb2⟩⟩
  case done =>
    rintro D ys W hD rfl ⟨⟨v, bS1, hrow1, _⟩, hB1⟩ hK
    have cS := bS1.cell
    gi_wp2
    refine ⟨by simp, .inl ⟨_, _, rfl, run_takeDeferred hK, ?_⟩⟩
    exact ⟨_, results_tmp rfl _ _ _, v, rfl, hrow1.kept (grownBy_putObj' W D _) (by
      rcases hrow1.2 with ⟨rfl, _⟩ | ⟨g, cap, cur, rfl, _, hgb, _⟩
      · exact .inl rfl
      · refine .inr fun e' => ?_
        obtain rfl : g = D := by simpa [Value.ownBlock] using e'
        rw [hgb] at hK; cases hK), hB1.trans (belowK_b (w := w) (Nat.le_refl _) W D _ _ (by omega) hK rfl rfl)⟩
  case stop =>
    rintro D c pre W _ _ h _
    exact h.elim

set_option maxHeartbeats 1000000 in
/-- slices.Collect(slices.Values(l)) -/
theorem collect_ok (Bs len cap : Nat) (A : Option Addr) (zs : List E) (hz : zs.length = len) (hlen : len ≤ 100000) (w : World) (hBs : Bs < w.heap.size) (hc : w.cell? ⟨Bs, 0, none⟩ = some (.slice A len cap)) (hI : ESlice w.heap.size w A zs) :
    Calls Tryz.prog 106 #[.func (.func 108) #[] #[.pointer (some ⟨Bs, 0, none⟩)]] w fun e w' => ∃ v, e = .returned v ∧ w'.ownsRow w.heap.size 59 2 v zs.length (ecells zs) ∧ Fr (fun _ => False) w w' := by
  subst hz
  have H := hide (callsIn_wide.1 (appendSeq_in Fence.wide 9 trivial trivial rfl (by omega) Bs zs.length cap A zs rfl hlen w hBs hc hI))
  clear hI
  go_enter Tryz.func106, Tryz.ntmps106
  go_wp2_with fail
  go_at_call 118
  refine H.out.mono ?_
  rintro e w1 ⟨v, rfl, hown, hb⟩
  have HO := hide hown
  have HB := hide (Fr.of_below hb (fun _ => False))
  obtain ⟨A', c', rfl⟩ := Reads.own_val hown
  clear hown hb
  go_wp2
  go_ret
  exact ⟨_, rfl, HO.out, HB.out⟩
theorem values_ok (a : Option Addr) (len cap : Nat) (w : World) : Calls Tryz.prog 73 #[.slice a len cap] w fun e w' => e = .returned (.func (.func 108) #[] #[.pointer (some ⟨w.heap.size, 0, none⟩)]) ∧ w' = w.alloc (.cells #[.slice a len cap] 32) :=
  callsIn_wide.1 (values_in Fence.wide 9 trivial rfl a len cap w)
end Go.Proofs.YtjdbjahgimlhbaaGreat
end
section
set_option linter.unusedVariables false
set_option maxRecDepth 100000
namespace Go.Proofs.YtjdbjahgimlhbaaGreat
open Go.RowKit
open Gr (E)

set_option maxHeartbeats 1600000 in
theorem sortedf_ok (Bs len cap : Nat) (A : Option Addr) (l : List E) (hz : l.length = len) (hlen : len ≤ 100000) (hs : Gr.Sorted l) (w : World) (hBs : Bs < w.heap.size) (hc : w.cell? ⟨Bs, 0, none⟩ = some (.slice A len cap)) (hI : ESlice w.heap.size w A l) :
    Calls Tryz.prog 72 #[.func (.func 108) #[] #[.pointer (some ⟨Bs, 0, none⟩)], .func (.func 74) #[] #[]] w fun e w' => ∃ A' c', e = .returned (.slice A' len c') ∧ EdgesAt w' A' l ∧ Fr (fun _ => False) w w' := by
  subst hz
  have H := hide (collect_ok Bs l.length cap A l rfl hlen w hBs hc hI)
  have HS := hide (fun (v : Value) (W : World) (ho : W.ownsRow w.heap.size 59 2 v l.length (ecells l)) => sortf_own ho hs (by omega))
  clear hI hc hs
  go_enter Tryz.func72, Tryz.ntmps72
  go_wp2_with fail
  go_at_call 106
  refine H.out.mono ?_
  rintro e w1 ⟨v, rfl, hown, hf⟩
  have HO := hide hown
  have HF := hide hf
  obtain ⟨A', c', rfl⟩ := Reads.own_val hown
  have hlt := hown.lt
  clear hown hf
  go_wp2_with fail
  go_at_call 107
  refine (HS.out (.slice A' l.length c') w1 HO.out).mono ?_
  rintro e w2 ⟨rfl, hg, hown⟩
  have HR := hide (show EdgesAt w2 A' l from Reads.of_own hown)
  have HF2 := hide (HF.out.grown hg (fun k hk => .inr (hlt k hk).1))
  clear hg hown hlt
  go_wp2
  go_ret
  exact ⟨A', c', rfl, HR.out, HF2.out⟩
theorem tnormal_ok (A : Option Addr) (n m c : Nat) (l : List E) (w : World) (h : EdgesAt w A l) (hm : l.length = m) (hmx : m ≤ 4000) (hs : Gr.Sorted l) (h1 : 1 ≤ n) (h2 : n ≤ 256) (hl : ∀ e ∈ l, e.1 < n ∧ e.2 < n ∧ e.1 ≠ e.2) :
    Calls Tryz.prog 31 #[.int .i64 (n : Int), .slice A m c] w fun e w' => ∃ A' c', e = .returned (.tuple #[.slice A' m c', .int .i64 0]) ∧ EdgesAt w' A' l ∧ Fr (fun _ => False) w w' := by
  obtain ⟨W1, hW1⟩ : ∃ W1, W1 = w.alloc (.cells #[.int .i64 (n : Int)] 3) := ⟨_, rfl⟩
  have F1 : Fr (fun _ => False) w W1 := by rw [hW1]; exact (Fr.refl _ _).alloc _
  have c0 : W1.cell? ⟨w.heap.size, 0, none⟩ = some (.int .i64 (n : Int)) := by rw [hW1]; simp
  have lt1 : w.heap.size < W1.heap.size := by rw [hW1]; simp
  have hE1 : EdgesAt W1 A l := h.up F1
  have HM := hide (may_ok n W1 h1 h2)
  have HC := hide (contf_ok A n m c w.heap.size l W1 hE1 hm (by omega) lt1 c0 hl)
  obtain ⟨q0, q1⟩ : (∃ z, w.heap.size = z) ∧ True := ⟨⟨_, rfl⟩, trivial⟩
  have HS := hide (fun (W : World) (hf : Fr (fun _ => False) W1 W) => by
    have hE := hE1.up hf
    have hf2 : Fr (fun _ => False) W (W.alloc (.cells #[.slice A m c] 32)) := (Fr.refl _ _).alloc _
    exact sortedf_ok W.heap.size m c A l hm (by omega) hs (W.alloc (.cells #[.slice A m c] 32)) (by simp) (by simp) (ESlice.of (hE.up hf2)))
  have HK := hide (fun (B : Option Addr) (d : Nat) (W : World) (hE : EdgesAt W B l) => compact_ok B m d l W hE hm (by omega) hs)
  have HF1 := hide F1
  have HZ := hide hW1
  have b1 : decide ((4096 : Int) < (m : Int)) = false := by simp; omega
  have b2 : decide (4096 < m) = false := by simp; omega
  clear h hs hl F1 hE1 hW1 q1
  go_enter Tryz.func31, Tryz.ntmps31
  go_wp2_with fail
  rw [← HZ.out]
  go_at_call 69
  refine HM.out.mono ?_
  rintro e w1 ⟨rfl, rfl⟩
  go_wp2_with fail
  go_at_call 70
  refine HC.out.mono ?_
  rintro e w2 ⟨rfl, hf⟩
  have HF2 := hide hf
  clear hf
  go_wp2_with fail
  go_at_call 73
  refine (values_ok A m c w2).mono ?_
  rintro e w3 ⟨rfl, rfl⟩
  go_wp2_with fail
  go_at_call 72
  refine (HS.out _ HF2.out).mono ?_
  rintro e w4 ⟨B, d, rfl, hE, hf⟩
  have HE4 := hide hE
  have HF4 := hide ((HF2.out.alloc (.cells #[.slice A m c] 32)).then_ hf)
  clear hE hf
  go_wp2_with fail
  go_at_call 71
  refine (HK.out _ _ _ HE4.out).mono ?_
  rintro e w5 ⟨rfl, hf⟩
  have HE5 := hide (HE4.out.up hf)
  have HF5 := hide (HF1.out.then_ (HF4.out.then_ hf))
  clear hf
  go_wp2
  go_ret2
  exact ⟨_, _, rfl, HE5.out, HF5.out⟩
end Go.Proofs.YtjdbjahgimlhbaaGreat
end
