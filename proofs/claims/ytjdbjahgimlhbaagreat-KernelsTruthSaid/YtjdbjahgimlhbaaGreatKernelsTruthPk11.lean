/- Parts of the proof of KernelsTruth: no conditions of their own. -/
import Derived.Test.YtjdbjahgimlhbaaGreatKernelsTruthPk0
import Derived.Test.YtjdbjahgimlhbaaGreatKernelsTruthPk6
import Derived.Shelf.Small.Bits
import Derived.Shelf.Small.Wraps
import Derived.Shelf.Strconv.Itoa0
import Derived.Shelf.Sort.Plain
import Derived.Shelf.Bits.Mul64
import Derived.Ground.Names2Prog
import Derived.Shelf.Slices.CompactI
import Derived.Shelf.Slices.SearchI
import Derived.Shelf.Slices.Cells
import Derived.Shelf.Slices.In.SortNone
import Derived.Test.YtjdbjahgimlhbaaGreatProg
import Derived.Test.YtjdbjahgimlhbaaGreatKernelsTruthPk1
import Derived.Sort.OwnSortedInts
section
set_option linter.unusedVariables false
set_option maxRecDepth 100000
namespace Go.Proofs.YtjdbjahgimlhbaaGreat
open Go.RowKit
open Gr (E cut)

def PartsAt (w : World) (g n s : Nat) : Prop := g < w.heap.size ∧ ∀ k, k < s → w.cell? ⟨g, k * 2, none⟩ = some (.int .i64 ((cut n s k : Nat) : Int)) ∧ w.cell? ⟨g, k * 2 + 1, none⟩ = some (.int .i64 ((cut n s (k + 1) : Nat) : Int))
theorem PartsAt.fr {S : Nat → Prop} {w w' : World} {g n s : Nat} (h : PartsAt w g n s) (hf : Fr S w w') (hn : ¬ S g) : PartsAt w' g n s :=
  ⟨Nat.lt_of_lt_of_le h.1 hf.size, fun k hk => ⟨hf.cell (h.2 k hk).1 hn, hf.cell (h.2 k hk).2 hn⟩⟩
theorem part_info : (Tryz.prog.info? 40).map (fun i => (i.zero, i.size, i.bytes)) = some (some (.agg #[.int .i64 0, .int .i64 0]), 2, 16) := by kernel_rfl
theorem cut_i64 (n s k : Nat) (h0 : 1 ≤ s) (hk : k ≤ s) (hs : s ≤ 16) (hn : n ≤ 256) : IntKind.i64.wrap ((IntKind.i64.wrap ((k : Int) * (n : Int))).tdiv (s : Int)) = ((cut n s k : Nat) : Int) := by
  have h1 : k * n ≤ 16 * 256 := Nat.mul_le_mul (by omega) hn
  have h2 : ((k : Int) * (n : Int)) = ((k * n : Nat) : Int) := by simp
  rw [h2]
  have h3 : IntKind.i64.wrap ((k * n : Nat) : Int) = ((k * n : Nat) : Int) := by simp only [IntKind.wrap, IntKind.bits, IntKind.signed]; simp; omega
  rw [h3]
  have h4 : (((k * n : Nat) : Int)).tdiv (s : Int) = ((k * n / s : Nat) : Int) := by rw [Int.tdiv_eq_ediv_of_nonneg (by omega)]; rfl
  rw [h4]
  have h5 : k * n / s ≤ k * n := Nat.div_le_self _ _
  unfold cut
  generalize k * n / s = q at *
  simp only [IntKind.wrap, IntKind.bits, IntKind.signed]
  simp
  omega
theorem cut_w64 (n s k : Nat) (h0 : 1 ≤ s) (hk : k ≤ s) (hs : s ≤ 16) (hn : n ≤ 256) : wrap64 ((wrap64 ((k : Int) * (n : Int))).tdiv (s : Int)) = ((cut n s k : Nat) : Int) := by
  have h1 : k * n ≤ 16 * 256 := Nat.mul_le_mul (by omega) hn
  have h2 : ((k : Int) * (n : Int)) = ((k * n : Nat) : Int) := by simp
  rw [h2]
  have h3 : wrap64 ((k * n : Nat) : Int) = ((k * n : Nat) : Int) := by unfold wrap64; omega
  rw [h3]
  have h4 : (((k * n : Nat) : Int)).tdiv (s : Int) = ((k * n / s : Nat) : Int) := by rw [Int.tdiv_eq_ediv_of_nonneg (by omega)]; rfl
  rw [h4]
  have h5 : k * n / s ≤ k * n := Nat.div_le_self _ _
  unfold cut
  generalize k * n / s = q at *
  unfold wrap64
  omega
set_option maxHeartbeats 1600000 in
theorem cut_any (n s : Nat) (w : World) (h0 : 1 ≤ s) (hs : s ≤ n) (hs16 : s ≤ 16) (hn : n ≤ 256) :
    Calls Tryz.prog 15 #[.int .i64 (n : Int), .int .i64 (s : Int)] w fun e w' => ∃ g, e = .returned (.tuple #[.slice (some ⟨g, 0, none⟩) s s, .int .i64 0]) ∧ w.heap.size ≤ g ∧ PartsAt w' g n s ∧ Fr (fun _ => False) w w' := by
  obtain ⟨i0, hi, hz0, hz1, hz2⟩ := info_parts part_info
  have hmk := fun w => run_make_rowN (P := Tryz.prog) 62 40 i0 _ rfl hi hz0 .i64 .i64 s s (Nat.le_refl _) (by rw [hz2]; omega) (by omega) w
  rw [hz1] at hmk
  have H0 := hide (Blk.new w 40 (madeCells (Value.agg #[.int .i64 0, .int .i64 0]).cells (s * 2)))
  have F0 := hide ((Fr.refl (fun _ => False) w).alloc (.cells (madeCells (Value.agg #[.int .i64 0, .int .i64 0]).cells (s * 2)) 40))
  have hsz : (madeCells (Value.agg #[.int .i64 0, .int .i64 0]).cells (s * 2)).size = s * 2 := by simp [madeCells]
  generalize madeCells (Value.agg #[.int .i64 0, .int .i64 0]).cells (s * 2) = cs0 at *
  by_cases h16 : (16 : Int) < (n : Int)
  · go_enter Tryz.func15, Tryz.ntmps15
    go_wp2
    go_loopw [28, 7] (fun i j wr => ∃ (k : Nat), k ≤ s ∧ i = .int .i64 k ∧ Hid (∃ cs, Blk wr w.heap.size 40 cs ∧ cs.size = s * 2 ∧ (∀ j, j < k → cs[j * 2]? = some (.int .i64 ((cut n s j : Nat) : Int)) ∧ cs[j * 2 + 1]? = some (.int .i64 ((cut n s (j + 1) : Nat) : Int))) ∧ Fr (fun _ => False) w wr)) (fun i _ _ => s - (intOf i).toNat)
    case atStart => exact ⟨0, by omega, rfl, cs0, H0.out, hsz, fun j hj => absurd hj (by omega), F0.out⟩
    case round =>
      obtain ⟨k, hk, rfl, HI⟩ := hrel
      by_cases hlt : k < s
      · obtain ⟨cs, hb, hcs, hc, hf⟩ := HI.out
        have HB := hide hb
        have HC := hide hc
        have HF := hide hf
        have q0 := cut_i64 n s k h0 (by omega) hs16 hn
        have q1 := cut_i64 n s (k + 1) h0 (by omega) hs16 hn
        have q2 : IntKind.i64.wrap ((k : Int) + 1) = ((k + 1 : Nat) : Int) := by simp only [IntKind.wrap, IntKind.bits, IntKind.signed]; simp; omega
        have b0 : (0 : Int) ≤ (k : Int) := by omega
        have b1 : (k : Int) < (s : Int) := by omega
        have b2 : ¬ ((s : Int) = 0) := by omega
        have c0 : ∃ v, wr.cell? ⟨w.heap.size, k * 2, none⟩ = some v := by rw [hb.cell]; exact ⟨cs[k * 2]'(by omega), Array.getElem?_eq_getElem (by omega)⟩
        have c1 : ∃ v, wr.cell? ⟨w.heap.size, k * 2 + 1, none⟩ = some v := by rw [hb.cell]; exact ⟨cs[k * 2 + 1]'(by omega), Array.getElem?_eq_getElem (by omega)⟩
        have f0 := hb.frozen (k * 2)
        have f1 := hb.frozen (k * 2 + 1)
        obtain ⟨v0, c0⟩ := c0
        obtain ⟨v1, c1⟩ := c1
        clear hb hc hf
        go_wp2_with fail
        go_region
        go_wp2
        go_roundw
        case rel =>
          refine ⟨k + 1, by omega, by go_num, ?_⟩
          have r0 : wrap64 ((wrap64 ((k : Int) * (n : Int))).tdiv (s : Int)) = ((cut n s k : Nat) : Int) := cut_w64 n s k h0 (by omega) hs16 hn
          have r1 : wrap64 ((wrap64 (((k : Int) + 1) * (n : Int))).tdiv (s : Int)) = ((cut n s (k + 1) : Nat) : Int) := by
            rw [show (k : Int) + 1 = ((k + 1 : Nat) : Int) by omega]; exact cut_w64 n s (k + 1) h0 (by omega) hs16 hn
          rw [r0, r1]
          refine ⟨_, (((HB.out.set_ _ _).set_ _ _).drew), by simp [hcs], fun j hj => ?_, ((HF.out.setCell (p := ⟨w.heap.size, k * 2, none⟩) (.inr (Nat.le_refl _)) _).setCell (p := ⟨w.heap.size, k * 2 + 1, none⟩) (.inr (Nat.le_refl _)) _).drew⟩
          simp only [Array.getElem?_setIfInBounds, Array.size_setIfInBounds, hcs]
          by_cases hjk : j = k
          · subst hjk
            simp
            omega
          · rw [if_neg (by omega), if_neg (by omega), if_neg (by omega), if_neg (by omega)]
            exact HC.out j (by omega)
        case measure => simp [intOf]; omega
      · obtain rfl : k = s := by omega
        obtain ⟨cs, hb, hcs, hc, hf⟩ := HI.out
        have HP := hide (show PartsAt wr w.heap.size n k from ⟨hb.lt, fun j hj => by rw [hb.cell, hb.cell]; exact hc j hj⟩)
        have HF := hide hf
        clear hb hc hf
        go_wp2
        go_ret2
        exact ⟨_, rfl, Nat.le_refl _, HP.out, HF.out⟩
  · go_enter Tryz.func15, Tryz.ntmps15
    go_wp2
    go_loopw [28, 7] (fun i j wr => ∃ (k : Nat), k ≤ s ∧ i = .int .i64 k ∧ Hid (∃ cs, Blk wr w.heap.size 40 cs ∧ cs.size = s * 2 ∧ (∀ j, j < k → cs[j * 2]? = some (.int .i64 ((cut n s j : Nat) : Int)) ∧ cs[j * 2 + 1]? = some (.int .i64 ((cut n s (j + 1) : Nat) : Int))) ∧ Fr (fun _ => False) w wr)) (fun i _ _ => s - (intOf i).toNat)
    case atStart => exact ⟨0, by omega, rfl, cs0, H0.out, hsz, fun j hj => absurd hj (by omega), F0.out⟩
    case round =>
      obtain ⟨k, hk, rfl, HI⟩ := hrel
      by_cases hlt : k < s
      · obtain ⟨cs, hb, hcs, hc, hf⟩ := HI.out
        have HB := hide hb
        have HC := hide hc
        have HF := hide hf
        have q0 := cut_i64 n s k h0 (by omega) hs16 hn
        have q1 := cut_i64 n s (k + 1) h0 (by omega) hs16 hn
        have q2 : IntKind.i64.wrap ((k : Int) + 1) = ((k + 1 : Nat) : Int) := by simp only [IntKind.wrap, IntKind.bits, IntKind.signed]; simp; omega
        have b0 : (0 : Int) ≤ (k : Int) := by omega
        have b1 : (k : Int) < (s : Int) := by omega
        have b2 : ¬ ((s : Int) = 0) := by omega
        have c0 : ∃ v, wr.cell? ⟨w.heap.size, k * 2, none⟩ = some v := by rw [hb.cell]; exact ⟨cs[k * 2]'(by omega), Array.getElem?_eq_getElem (by omega)⟩
        have c1 : ∃ v, wr.cell? ⟨w.heap.size, k * 2 + 1, none⟩ = some v := by rw [hb.cell]; exact ⟨cs[k * 2 + 1]'(by omega), Array.getElem?_eq_getElem (by omega)⟩
        have f0 := hb.frozen (k * 2)
        have f1 := hb.frozen (k * 2 + 1)
        obtain ⟨v0, c0⟩ := c0
        obtain ⟨v1, c1⟩ := c1
        clear hb hc hf
        go_wp2_with fail
        go_region
        go_wp2
        go_roundw
        case rel =>
          refine ⟨k + 1, by omega, by go_num, ?_⟩
          have r0 : wrap64 ((wrap64 ((k : Int) * (n : Int))).tdiv (s : Int)) = ((cut n s k : Nat) : Int) := cut_w64 n s k h0 (by omega) hs16 hn
          have r1 : wrap64 ((wrap64 (((k : Int) + 1) * (n : Int))).tdiv (s : Int)) = ((cut n s (k + 1) : Nat) : Int) := by
            rw [show (k : Int) + 1 = ((k + 1 : Nat) : Int) by omega]; exact cut_w64 n s (k + 1) h0 (by omega) hs16 hn
          rw [r0, r1]
          refine ⟨_, (((HB.out.set_ _ _).set_ _ _).drew), by simp [hcs], fun j hj => ?_, ((HF.out.setCell (p := ⟨w.heap.size, k * 2, none⟩) (.inr (Nat.le_refl _)) _).setCell (p := ⟨w.heap.size, k * 2 + 1, none⟩) (.inr (Nat.le_refl _)) _).drew⟩
          simp only [Array.getElem?_setIfInBounds, Array.size_setIfInBounds, hcs]
          by_cases hjk : j = k
          · subst hjk
            simp
            omega
          · rw [if_neg (by omega), if_neg (by omega), if_neg (by omega), if_neg (by omega)]
            exact HC.out j (by omega)
        case measure => simp [intOf]; omega
      · obtain rfl : k = s := by omega
        obtain ⟨cs, hb, hcs, hc, hf⟩ := HI.out
        have HP := hide (show PartsAt wr w.heap.size n k from ⟨hb.lt, fun j hj => by rw [hb.cell, hb.cell]; exact hc j hj⟩)
        have HF := hide hf
        clear hb hc hf
        go_wp2
        go_ret2
        exact ⟨_, rfl, Nat.le_refl _, HP.out, HF.out⟩
end Go.Proofs.YtjdbjahgimlhbaaGreat
end
section
namespace Go.Proofs
open Go.Shelf
def Tryz.lays128_ren : Go.Shelf.Ren := ⟨fun | 128 => 85 | n => n, fun | 51 => 141 | 3 => 3 | 4 => 4 | 46 => 107 | 5 => 5 | 9 => 9 | n => n, fun | n => n⟩
theorem Tryz.lays128 : Go.Proofs.Lays.n128 Tryz.prog Tryz.lays128_ren := {
  mixed := by kernel_rfl
  f128 := Tryz.func85.trans (congrArg some (by kernel_rfl))
  t3 := Tryz.underlying3
  a3 := Tryz.isAgg3
  z3 := Tryz.sizeOf3
  v3 := Tryz.zeroValue3
  t4 := Tryz.underlying4
  a4 := Tryz.isAgg4
  z4 := Tryz.sizeOf4
  v4 := Tryz.zeroValue4
  t5 := Tryz.underlying5
  a5 := Tryz.isAgg5
  z5 := Tryz.sizeOf5
  v5 := Tryz.zeroValue5
  t9 := Tryz.underlying9
  a9 := Tryz.isAgg9
  z9 := Tryz.sizeOf9
  v9 := Tryz.zeroValue9
  t46 := Tryz.underlying107
  a46 := Tryz.isAgg107
  z46 := Tryz.sizeOf107
  v46 := Tryz.zeroValue107
  t51 := Tryz.underlying141
  a51 := Tryz.isAgg141
  z51 := Tryz.sizeOf141
  v51 := Tryz.zeroValue141 }
/-- bits.Len32: "Len32 returns the minimum number of bits required to represent x; the result is 0 for x == 0.": IT RETURNS 'Lib.bitLen x'; the world is as it was. ('h0', 'h1': x is a uint32.) (LAID: no walk: one application.) -/
theorem Tryz.bits_Len32 (x : Int) (w : World) (h0 : 0 ≤ x) (h1 : x ≤ 4294967295) :
    Calls Tryz.prog 85 #[.int .u32 x] w fun e w' => e = .returned (.int .i64 (Lib.bitLen x.toNat)) ∧ w' = w := Any.bits_Len32 Tryz.lays128 x w h0 h1
def Tryz.lays125_ren : Go.Shelf.Ren := ⟨fun | 125 => 41 | 128 => 85 | 129 => 86 | n => n, fun | 46 => 107 | 3 => 3 | 51 => 141 | 53 => 57 | 4 => 4 | 5 => 5 | 9 => 9 | n => n, fun | n => n⟩
theorem Tryz.lays125 : Go.Proofs.Lays.n125 Tryz.prog Tryz.lays125_ren := {
  mixed := by kernel_rfl
  f125 := Tryz.func41.trans (congrArg some (by kernel_rfl))
  f128 := Tryz.func85.trans (congrArg some (by kernel_rfl))
  f129 := Tryz.func86.trans (congrArg some (by kernel_rfl))
  t3 := Tryz.underlying3
  a3 := Tryz.isAgg3
  z3 := Tryz.sizeOf3
  v3 := Tryz.zeroValue3
  t4 := Tryz.underlying4
  a4 := Tryz.isAgg4
  z4 := Tryz.sizeOf4
  v4 := Tryz.zeroValue4
  t5 := Tryz.underlying5
  a5 := Tryz.isAgg5
  z5 := Tryz.sizeOf5
  v5 := Tryz.zeroValue5
  t9 := Tryz.underlying9
  a9 := Tryz.isAgg9
  z9 := Tryz.sizeOf9
  v9 := Tryz.zeroValue9
  t46 := Tryz.underlying107
  a46 := Tryz.isAgg107
  z46 := Tryz.sizeOf107
  v46 := Tryz.zeroValue107
  t51 := Tryz.underlying141
  a51 := Tryz.isAgg141
  z51 := Tryz.sizeOf141
  v51 := Tryz.zeroValue141
  t53 := Tryz.underlying57
  a53 := Tryz.isAgg57
  z53 := Tryz.sizeOf57
  v53 := Tryz.zeroValue57 }
/-- bits.Len: "Len returns the minimum number of bits required to represent x; the result is 0 for x == 0.": IT RETURNS 'Lib.bitLen x'; the world is as it was. (A uint has 64 bits in the model.) ITS CALLEE bits.Len64 IS MET BY ITS OWN CONTRACT OFF THE SHELF (lay that first). (LAID: no walk: one application.) -/
theorem Tryz.bits_Len (x : Int) (w : World) (h0 : 0 ≤ x) (h1 : x ≤ 18446744073709551615) :
    Calls Tryz.prog 41 #[.int .u64 x] w fun e w' => e = .returned (.int .i64 (Lib.bitLen x.toNat)) ∧ w' = w := Any.bits_Len Tryz.lays125 x w h0 h1
def Tryz.lays215_ren : Go.Shelf.Ren := ⟨fun | 215 => 117 | n => n, fun | 3 => 3 | 4 => 4 | n => n, fun | n => n⟩
theorem Tryz.lays215 : Go.Proofs.Lays.n215 Tryz.prog Tryz.lays215_ren := {
  mixed := by kernel_rfl
  f215 := Tryz.func117.trans (congrArg some (by kernel_rfl))
  t3 := Tryz.underlying3
  a3 := Tryz.isAgg3
  z3 := Tryz.sizeOf3
  v3 := Tryz.zeroValue3
  t4 := Tryz.underlying4
  a4 := Tryz.isAgg4
  z4 := Tryz.sizeOf4
  v4 := Tryz.zeroValue4 }
open Go.RowKit in
/-- cmp.isNaN at int: 'x != x': false. (LAID: no walk: one application.) -/
theorem Tryz.cmp_isNaN_int (x : Int) (w : World) :
    Calls Tryz.prog 117 #[.int .i64 x] w fun e w' => e = .returned (.bool false) ∧ w' = w := Any.cmp_isNaN_int Tryz.lays215 x w
def Tryz.lays122_ren : Go.Shelf.Ren := ⟨fun | 122 => 110 | 215 => 117 | n => n, fun | 3 => 3 | 4 => 4 | n => n, fun | n => n⟩
theorem Tryz.lays122 : Go.Proofs.Lays.n122 Tryz.prog Tryz.lays122_ren := {
  mixed := by kernel_rfl
  f122 := Tryz.func110.trans (congrArg some (by kernel_rfl))
  f215 := Tryz.func117.trans (congrArg some (by kernel_rfl))
  t3 := Tryz.underlying3
  a3 := Tryz.isAgg3
  z3 := Tryz.sizeOf3
  v3 := Tryz.zeroValue3
  t4 := Tryz.underlying4
  a4 := Tryz.isAgg4
  z4 := Tryz.sizeOf4
  v4 := Tryz.zeroValue4 }
open Go.RowKit in
/-- cmp.Compare at int: "Compare returns -1 if x is less than y, 0 if x equals y, +1 if x is greater than y.": IT RETURNS 'Lib.compareInt x y'; the world is as it was. (LAID: no walk: one application.) -/
theorem Tryz.cmp_Compare_int (x y : Int) (w : World) :
    Calls Tryz.prog 110 #[.int .i64 x, .int .i64 y] w fun e w' => e = .returned (.int .i64 (Lib.compareInt x y)) ∧ w' = w := Any.cmp_Compare_int Tryz.lays122 x y w
def Tryz.lays129_ren : Go.Shelf.Ren := ⟨fun | 129 => 86 | n => n, fun | 53 => 57 | 3 => 3 | 4 => 4 | 46 => 107 | 5 => 5 | 9 => 9 | n => n, fun | n => n⟩
theorem Tryz.lays129 : Go.Proofs.Lays.n129 Tryz.prog Tryz.lays129_ren := {
  mixed := by kernel_rfl
  f129 := Tryz.func86.trans (congrArg some (by kernel_rfl))
  t3 := Tryz.underlying3
  a3 := Tryz.isAgg3
  z3 := Tryz.sizeOf3
  v3 := Tryz.zeroValue3
  t4 := Tryz.underlying4
  a4 := Tryz.isAgg4
  z4 := Tryz.sizeOf4
  v4 := Tryz.zeroValue4
  t5 := Tryz.underlying5
  a5 := Tryz.isAgg5
  z5 := Tryz.sizeOf5
  v5 := Tryz.zeroValue5
  t9 := Tryz.underlying9
  a9 := Tryz.isAgg9
  z9 := Tryz.sizeOf9
  v9 := Tryz.zeroValue9
  t46 := Tryz.underlying107
  a46 := Tryz.isAgg107
  z46 := Tryz.sizeOf107
  v46 := Tryz.zeroValue107
  t53 := Tryz.underlying57
  a53 := Tryz.isAgg57
  z53 := Tryz.sizeOf57
  v53 := Tryz.zeroValue57 }
/-- bits.Len64: "Len64 returns the minimum number of bits required to represent x; the result is 0 for x == 0.": IT RETURNS 'Lib.bitLen x'; the world is as it was. ('h0', 'h1': x is a uint64.) (LAID: no walk: one application.) -/
theorem Tryz.bits_Len64 (x : Int) (w : World) (h0 : 0 ≤ x) (h1 : x ≤ 18446744073709551615) :
    Calls Tryz.prog 86 #[.int .u64 x] w fun e w' => e = .returned (.int .i64 (Lib.bitLen x.toNat)) ∧ w' = w := Any.bits_Len64 Tryz.lays129 x w h0 h1
def Tryz.lays189_ren : Go.Shelf.Ren := ⟨fun | 189 => 27 | 125 => 41 | 257 => 40 | 128 => 85 | 129 => 86 | 294 => 76 | 295 => 77 | 296 => 78 | 297 => 79 | 298 => 80 | 299 => 81 | 216 => 82 | 300 => 83 | 301 => 84 | 328 => 112 | 329 => 113 | 330 => 114 | 331 => 115 | 332 => 116 | 215 => 117 | 343 => 121 | n => n, fun | 28 => 37 | 3 => 3 | 46 => 107 | 0 => 0 | 51 => 141 | 53 => 57 | 4 => 4 | 183 => 134 | 182 => 133 | 131 => 138 | 5 => 5 | 9 => 9 | 218 => 166 | 222 => 170 | 228 => 176 | 229 => 177 | n => n, fun | n => n⟩
theorem Tryz.lays189 : Go.Proofs.Lays.n189 Tryz.prog Tryz.lays189_ren := {
  mixed := by kernel_rfl
  f125 := Tryz.func41.trans (congrArg some (by kernel_rfl))
  f128 := Tryz.func85.trans (congrArg some (by kernel_rfl))
  f129 := Tryz.func86.trans (congrArg some (by kernel_rfl))
  f189 := Tryz.func27.trans (congrArg some (by kernel_rfl))
  f215 := Tryz.func117.trans (congrArg some (by kernel_rfl))
  f216 := Tryz.func82.trans (congrArg some (by kernel_rfl))
  f257 := Tryz.func40.trans (congrArg some (by kernel_rfl))
  f294 := Tryz.func76.trans (congrArg some (by kernel_rfl))
  f295 := Tryz.func77.trans (congrArg some (by kernel_rfl))
  f296 := Tryz.func78.trans (congrArg some (by kernel_rfl))
  f297 := Tryz.func79.trans (congrArg some (by kernel_rfl))
  f298 := Tryz.func80.trans (congrArg some (by kernel_rfl))
  f299 := Tryz.func81.trans (congrArg some (by kernel_rfl))
  f300 := Tryz.func83.trans (congrArg some (by kernel_rfl))
  f301 := Tryz.func84.trans (congrArg some (by kernel_rfl))
  f328 := Tryz.func112.trans (congrArg some (by kernel_rfl))
  f329 := Tryz.func113.trans (congrArg some (by kernel_rfl))
  f330 := Tryz.func114.trans (congrArg some (by kernel_rfl))
  f331 := Tryz.func115.trans (congrArg some (by kernel_rfl))
  f332 := Tryz.func116.trans (congrArg some (by kernel_rfl))
  f343 := Tryz.func121.trans (congrArg some (by kernel_rfl))
  t0 := Tryz.underlying0
  a0 := Tryz.isAgg0
  z0 := Tryz.sizeOf0
  v0 := Tryz.zeroValue0
  t3 := Tryz.underlying3
  a3 := Tryz.isAgg3
  z3 := Tryz.sizeOf3
  v3 := Tryz.zeroValue3
  t4 := Tryz.underlying4
  a4 := Tryz.isAgg4
  z4 := Tryz.sizeOf4
  v4 := Tryz.zeroValue4
  t5 := Tryz.underlying5
  a5 := Tryz.isAgg5
  z5 := Tryz.sizeOf5
  v5 := Tryz.zeroValue5
  t9 := Tryz.underlying9
  a9 := Tryz.isAgg9
  z9 := Tryz.sizeOf9
  v9 := Tryz.zeroValue9
  t28 := Tryz.underlying37
  a28 := Tryz.isAgg37
  z28 := Tryz.sizeOf37
  v28 := Tryz.zeroValue37
  t46 := Tryz.underlying107
  a46 := Tryz.isAgg107
  z46 := Tryz.sizeOf107
  v46 := Tryz.zeroValue107
  t51 := Tryz.underlying141
  a51 := Tryz.isAgg141
  z51 := Tryz.sizeOf141
  v51 := Tryz.zeroValue141
  t53 := Tryz.underlying57
  a53 := Tryz.isAgg57
  z53 := Tryz.sizeOf57
  v53 := Tryz.zeroValue57
  t131 := Tryz.underlying138
  a131 := Tryz.isAgg138
  z131 := Tryz.sizeOf138
  v131 := Tryz.zeroValue138
  t182 := Tryz.underlying133
  a182 := Tryz.isAgg133
  z182 := Tryz.sizeOf133
  v182 := Tryz.zeroValue133
  t183 := Tryz.underlying134
  a183 := Tryz.isAgg134
  z183 := Tryz.sizeOf134
  v183 := Tryz.zeroValue134
  t218 := Tryz.underlying166
  a218 := Tryz.isAgg166
  z218 := Tryz.sizeOf166
  v218 := Tryz.zeroValue166
  t222 := Tryz.underlying170
  a222 := Tryz.isAgg170
  z222 := Tryz.sizeOf170
  v222 := Tryz.zeroValue170
  t228 := Tryz.underlying176
  a228 := Tryz.isAgg176
  z228 := Tryz.sizeOf176
  v228 := Tryz.zeroValue176
  t229 := Tryz.underlying177
  a229 := Tryz.isAgg177
  z229 := Tryz.sizeOf177
  v229 := Tryz.zeroValue177 }
open Go.Sort Go.RowKit in
theorem Tryz.slices_Sort_int (blk off cap : Nat) (zs : List Int) (w : World) (hH : Holds (Value.int .i64) w blk off zs.toArray) (hblk : blk < w.heap.size) (hsz : zs.length < 4611686018427387904) :
    Calls Tryz.prog 27 #[.slice (some ⟨blk, off, none⟩) zs.length cap] w fun e w' =>
      e = .returned (.tuple #[]) ∧ ∃ n os, w' = grow (putRow (Value.int .i64) (Sort.ahead w n) blk off (zs.mergeSort fun x y => decide (x ≤ y)).toArray) os := Any.slices_Sort_int Tryz.lays189 blk off cap zs w hH hblk hsz
def Tryz.lays264_ren : Go.Shelf.Ren := ⟨fun | 264 => 131 | n => n, fun | 53 => 57 | 46 => 107 | n => n, fun | n => n⟩
theorem Tryz.lays264 : Go.Proofs.Lays.n264 Tryz.prog Tryz.lays264_ren := {
  mixed := by kernel_rfl
  f264 := Tryz.func131.trans (congrArg some (by kernel_rfl))
  t46 := Tryz.underlying107
  a46 := Tryz.isAgg107
  z46 := Tryz.sizeOf107
  v46 := Tryz.zeroValue107
  t53 := Tryz.underlying57
  a53 := Tryz.isAgg57
  z53 := Tryz.sizeOf57
  v53 := Tryz.zeroValue57 }
open Go.RowKit Go.Lib in
theorem Tryz.bits_Mul64 (x y : Nat) (hx : x < 18446744073709551616) (hy : y < 18446744073709551616) (w : World) :
    Calls Tryz.prog 131 #[.int .u64 x, .int .u64 y] w fun e w' => e = .returned (.tuple #[.int .u64 ((x * y / 18446744073709551616 : Nat) : Int), .int .u64 ((x * y % 18446744073709551616 : Nat) : Int)]) ∧ w' = w := Any.bits_Mul64 Tryz.lays264 x y hx hy w
def Tryz.lays212_ren : Go.Shelf.Ren := ⟨fun | 212 => 120 | 263 => 130 | 264 => 131 | n => n, fun | 46 => 107 | 51 => 141 | 146 => 184 | 53 => 57 | 148 => 186 | n => n, fun | n => n⟩
theorem Tryz.lays212 : Go.Proofs.Lays.n212 Tryz.prog Tryz.lays212_ren := {
  mixed := by kernel_rfl
  f212 := Tryz.func120.trans (congrArg some (by kernel_rfl))
  f263 := Tryz.func130.trans (congrArg some (by kernel_rfl))
  f264 := Tryz.func131.trans (congrArg some (by kernel_rfl))
  t46 := Tryz.underlying107
  a46 := Tryz.isAgg107
  z46 := Tryz.sizeOf107
  v46 := Tryz.zeroValue107
  t51 := Tryz.underlying141
  a51 := Tryz.isAgg141
  z51 := Tryz.sizeOf141
  v51 := Tryz.zeroValue141
  t53 := Tryz.underlying57
  a53 := Tryz.isAgg57
  z53 := Tryz.sizeOf57
  v53 := Tryz.zeroValue57
  t146 := Tryz.underlying184
  a146 := Tryz.isAgg184
  z146 := Tryz.sizeOf184
  v146 := Tryz.zeroValue184
  t148 := Tryz.underlying186
  a148 := Tryz.isAgg186
  z148 := Tryz.sizeOf186
  v148 := Tryz.zeroValue186 }
open Go.RowKit Go.Lib in
/-- math/bits.Mul: "Mul returns the full-width product of x and y": on a machine of 64 bits: Mul64's. (LAID: no walk: one application.) -/
theorem Tryz.bits_Mul (x y : Nat) (hx : x < 18446744073709551616) (hy : y < 18446744073709551616) (w : World) :
    Calls Tryz.prog 120 #[.int .u64 x, .int .u64 y] w fun e w' => e = .returned (.tuple #[.int .u64 ((x * y / 18446744073709551616 : Nat) : Int), .int .u64 ((x * y % 18446744073709551616 : Nat) : Int)]) ∧ w' = w := Any.bits_Mul Tryz.lays212 x y hx hy w
def Tryz.laysNm220_ren : Go.Shelf.Ren := ⟨fun | 20 => 28 | n => n, fun | 22 => 37 | 3 => 3 | 4 => 4 | 0 => 0 | n => n, fun | n => n⟩
theorem Tryz.laysNm220 : Go.Proofs.Lays2.n20 Tryz.prog Tryz.laysNm220_ren := {
  mixed := by kernel_rfl
  f20 := Tryz.func28.trans (congrArg some (by kernel_rfl))
  t0 := Tryz.underlying0
  a0 := Tryz.isAgg0
  z0 := Tryz.sizeOf0
  v0 := Tryz.zeroValue0
  t3 := Tryz.underlying3
  a3 := Tryz.isAgg3
  z3 := Tryz.sizeOf3
  v3 := Tryz.zeroValue3
  t4 := Tryz.underlying4
  a4 := Tryz.isAgg4
  z4 := Tryz.sizeOf4
  v4 := Tryz.zeroValue4
  t22 := Tryz.underlying37
  a22 := Tryz.isAgg37
  z22 := Tryz.sizeOf37
  v22 := Tryz.zeroValue37
  i3 := by kernel_rfl }
open Go.RowKit Go.Lib Go.Sort in
/-- slices.Compact at []int, over an array: the library's two loops are walked. (LAID: no walk: one application.) -/
theorem Tryz.slices_Compact_int_arr (blk off cap : Nat) (d : Array Int) (w : World) (hH : Holds encI w blk off d) (hsz : d.size ≤ 9223372036854775807) (hcap : d.size ≤ cap) :
    Calls Tryz.prog 28 #[.slice (some ⟨blk, off, none⟩) d.size cap] w fun e w' => e = .returned (.slice (some ⟨blk, off, none⟩) (compactUpTo d d.size).length cap) ∧ ∃ q, w' = putRow encI (Sort.ahead w q) blk off (compactUpTo d d.size ++ List.replicate (d.size - (compactUpTo d d.size).length) 0).toArray := Any.slices_Compact_int_arr Tryz.laysNm220 blk off cap d w hH hsz hcap
open Go.RowKit Go.Lib Go.Sort in
/-- slices.Compact at []int: "Compact replaces consecutive runs of equal elements with a single copy. This is like the uniq command found on Unix. Compact modifies the contents of the slice s and returns the modified slice, which may have a smaller length. Compact zeroes the elements between the new length and the original length. The result preserves the nilness of s.": IT RETURNS THE SLICE CUT TO 'Lib.compact zs'; ITS CELLS HOLD 'Lib.compact zs', THEN ZERO VALUES up to the old length; all else is as it was, but for the count of draws. IN THE WORDS OF slices.Sort's CONTRACT ('Holds', 'putRow'): so the everyday 'slices.Sort(xs); xs = slices.Compact(xs)' goes from the one contract to the other. It asks 'zs.length ≤ cap' (every slice's: the reslicing 's[:k]' looks at it). Length 0, nil: '.._empty'. (LAID: no walk: one application.) -/
theorem Tryz.slices_Compact_int (blk off cap : Nat) (zs : List Int) (w : World) (hH : Holds (Value.int .i64) w blk off zs.toArray) (hsz : zs.length ≤ 9223372036854775807) (hcap : zs.length ≤ cap) :
    Calls Tryz.prog 28 #[.slice (some ⟨blk, off, none⟩) zs.length cap] w fun e w' => e = .returned (.slice (some ⟨blk, off, none⟩) (Lib.compact zs).length cap) ∧ ∃ q, w' = putRow (Value.int .i64) (Sort.ahead w q) blk off (Lib.compact zs ++ List.replicate (zs.length - (Lib.compact zs).length) 0).toArray := Any.slices_Compact_int Tryz.laysNm220 blk off cap zs w hH hsz hcap
open Go.RowKit Go.Lib Go.Sort in
/-- The same at a slice of length 0, a nil one too: it comes back as it is. (LAID: no walk: one application.) -/
theorem Tryz.slices_Compact_int_empty (a : Option Addr) (cap : Nat) (w : World) :
    Calls Tryz.prog 28 #[.slice a 0 cap] w fun e w' => e = .returned (.slice a 0 cap) ∧ w' = w := Any.slices_Compact_int_empty Tryz.laysNm220 a cap w
def Tryz.laysNm237_ren : Go.Shelf.Ren := ⟨fun | 37 => 117 | n => n, fun | 3 => 3 | 4 => 4 | n => n, fun | n => n⟩
theorem Tryz.laysNm237 : Go.Proofs.Lays2.n37 Tryz.prog Tryz.laysNm237_ren := {
  mixed := by kernel_rfl
  f37 := Tryz.func117.trans (congrArg some (by kernel_rfl))
  t3 := Tryz.underlying3
  a3 := Tryz.isAgg3
  z3 := Tryz.sizeOf3
  v3 := Tryz.zeroValue3
  t4 := Tryz.underlying4
  a4 := Tryz.isAgg4
  z4 := Tryz.sizeOf4
  v4 := Tryz.zeroValue4 }
open Go.RowKit Go.Lib in
/-- cmp.isNaN[int]: 'x != x': false. (LAID: no walk: one application.) -/
theorem Tryz.cmp_isNaN_int2 (x : Int) (w : World) :
    Calls Tryz.prog 117 #[.int .i64 x] w fun e w' => e = .returned (.bool false) ∧ w' = w := Any.cmp_isNaN_int2 Tryz.laysNm237 x w
def Tryz.laysNm231_ren : Go.Shelf.Ren := ⟨fun | 31 => 82 | 37 => 117 | n => n, fun | 3 => 3 | 4 => 4 | n => n, fun | n => n⟩
theorem Tryz.laysNm231 : Go.Proofs.Lays2.n31 Tryz.prog Tryz.laysNm231_ren := {
  mixed := by kernel_rfl
  f31 := Tryz.func82.trans (congrArg some (by kernel_rfl))
  f37 := Tryz.func117.trans (congrArg some (by kernel_rfl))
  t3 := Tryz.underlying3
  a3 := Tryz.isAgg3
  z3 := Tryz.sizeOf3
  v3 := Tryz.zeroValue3
  t4 := Tryz.underlying4
  a4 := Tryz.isAgg4
  z4 := Tryz.sizeOf4
  v4 := Tryz.zeroValue4 }
open Go.RowKit Go.Lib in
/-- cmp.Less[int]: "Less reports whether x is less than y.": 'x < y'; the world is as it was. (LAID: no walk: one application.) -/
theorem Tryz.cmp_Less_int2 (x y : Int) (w : World) :
    Calls Tryz.prog 82 #[.int .i64 x, .int .i64 y] w fun e w' => e = .returned (.bool (decide (x < y))) ∧ w' = w := Any.cmp_Less_int2 Tryz.laysNm231 x y w
open Go.RowKit Go.Lib Go.Sort in
/-- slices.Compact at []int, of an argument: the slice cut to 'Lib.compact (elements)'; the n cells hold that, then zeros. (LAID: no walk: one application.) -/
theorem Tryz.slices_Compact_int_cells (b off n c : Nat) (zs : List Int) (w : World) (hz : n ≤ zs.length) (hbig : n ≤ 9223372036854775807) (hcap : n ≤ c) (hc : ∀ j, j < zs.length → w.cell? ⟨b, off + j, none⟩ = some (.int .i64 (zs.getD j 0))) (hf : ∀ j, j < n → w.frozen? ⟨b, off + j, none⟩ = false) :
    Calls Tryz.prog 28 #[.slice (some ⟨b, off, none⟩) n c] w fun e w' => e = .returned (.slice (some ⟨b, off, none⟩) (Lib.compact (zs.take n)).length c) ∧ ∃ q, w' = (w.drewN q).setCells b off ((Lib.compact (zs.take n) ++ List.replicate (n - (Lib.compact (zs.take n)).length) 0).map (Value.int .i64)) := Any.slices_Compact_int_cells Tryz.laysNm220 b off n c zs w hz hbig hcap hc hf
open Go.RowKit Go.Sort in
/-- .. and plain. (LAID: no walk: one application.) -/
theorem Tryz.slices_Sort_int_none (p : Option Addr) (cap : Nat) (w : World) :
    Calls Tryz.prog 27 #[.slice p 0 cap] w fun e w' => e = .returned (.tuple #[]) ∧ w' = w := Any.slices_Sort_int_none Tryz.lays189 p cap w
end Go.Proofs
end
section
set_option linter.unusedVariables false
set_option maxRecDepth 100000
namespace Go.Proofs.YtjdbjahgimlhbaaGreat
open Go.RowKit Go.Sort

def ivals (l : List Nat) : List Value := l.map fun v : Nat => .int .i64 (v : Int)
theorem ivals_len (l : List Nat) : (ivals l).length = l.length := by simp [ivals]
theorem ivals_ints (l : List Nat) : ivals l = (l.map fun v : Nat => (v : Int)).map (Value.int .i64) := by simp [ivals]
theorem int_info : (Tryz.prog.info? 3).map (fun i => (i.zero, i.size, i.bytes)) = some (some (.int .i64 0), 1, 8) := by kernel_rfl
theorem ints_info : (Tryz.prog.info? 37).map (fun i => (i.zero, i.size, i.bytes)) = some (some (.slice none 0 0), 1, 24) := by kernel_rfl
theorem own_fr {w w' : World} {base size n : Nat} {e : TypeId} {v : Value} {xs : List Value} (h : w.ownsRow base e size v n xs) (hf : Fr (fun _ => False) w w') : w'.ownsRow base e size v n xs :=
  h.kept (row := none) ⟨hf.os, hf.tape, hf.output, hf.size, fun k hk _ => hf.block k hk (fun h => h)⟩ (by cases hv : v.ownBlock <;> simp)
theorem own_frS {S : Nat → Prop} {w w' : World} {base size n : Nat} {e : TypeId} {v : Value} {xs : List Value} (h : w.ownsRow base e size v n xs) (hf : Fr S w w') (hn : ∀ k, v.ownBlock = some k → ¬ S k) : w'.ownsRow base e size v n xs := by
  refine ⟨h.1, ?_⟩
  rcases h.2 with h1 | ⟨g, cap, cur, rfl, hb, hg, rest⟩
  · exact .inl h1
  · refine .inr ⟨g, cap, cur, rfl, hb, ?_, rest⟩
    rw [hf.block g (Array.getElem?_eq_some_iff.1 hg).1 (hn g (by simp [Value.ownBlock]))]
    exact hg
/-- lists whose memory is the blocks from lo to hi -/
def ListsIn (w : World) (lo hi : Nat) (A : Option Addr) (m : Nat) (L : List (List Int)) : Prop := ∀ (S : Nat → Prop) (w' : World), Fr S w w' → (∀ k, lo ≤ k → k < hi → ¬ S k) → ListsAt w' w'.heap.size A m L
theorem ListsIn.fr {S : Nat → Prop} {w w' : World} {lo hi m : Nat} {A : Option Addr} {L : List (List Int)} (h : ListsIn w lo hi A m L) (hf : Fr S w w') (hs : ∀ k, lo ≤ k → k < hi → ¬ S k) : ListsIn w' lo hi A m L := fun S' w2 hf2 hs2 =>
  h (fun k => S k ∨ S' k) w2 ((hf.mono (fun k h => .inl h)).trans hf2 (fun k h => .inl (.inr h))) (fun k h1 h2 h3 => h3.elim (hs k h1 h2) (hs2 k h1 h2))
theorem ListsIn.lists {w : World} {lo hi m : Nat} {A : Option Addr} {L : List (List Int)} (h : ListsIn w lo hi A m L) : ListsAt w w.heap.size A m L := h (fun _ => False) w (Fr.refl _ _) (fun _ _ _ h => h)
theorem grown_set {w w' : World} {row : Option Nat} (hg : w.grownBy w' row) : Fr (fun k => row = some k) w w' := Fr.of_grown hg
theorem set_grown (w : World) (B i : Nat) (v : Value) : w.grownBy (w.setCell ⟨B, i, none⟩ v) (some B) := by
  have h := Fr.one w B i v
  exact ⟨h.os, h.tape, h.output, h.size, fun k hk hn => h.block k hk (fun e => hn (by rw [e]))⟩

/-- a table of rows; each row lies from H on, no two in one block -/
def RowsAt (w : World) (H B : Nat) (L : List (List Nat)) : Prop :=
  B < H ∧ ∃ vs : Array Value, Blk w B 37 vs ∧ vs.size = L.length ∧ (∀ (i : Nat) (l : List Nat), L[i]? = some l → ∃ v, vs[i]? = some v ∧ w.ownsRow H 3 1 v l.length (ivals l)) ∧
    (∀ (i j : Nat) (u v : Value), i ≠ j → vs[i]? = some u → vs[j]? = some v → u.ownBlock = none ∨ u.ownBlock ≠ v.ownBlock)
section
variable {w w' : World} {H B : Nat} {L : List (List Nat)}
theorem RowsAt.fr (h : RowsAt w H B L) (hf : Fr (fun _ => False) w w') : RowsAt w' H B L := by
  obtain ⟨h0, vs, h1, h2, h3, h4⟩ := h
  refine ⟨h0, vs, h1.fr hf (fun h => h), h2, fun i l hl => ?_, h4⟩
  obtain ⟨v, e1, e2⟩ := h3 i l hl
  exact ⟨v, e1, own_fr e2 hf⟩
theorem RowsAt.row (h : RowsAt w H B L) {i : Nat} {l : List Nat} (hi : L[i]? = some l) : ∃ A c, w.cell? ⟨B, i, none⟩ = some (.slice A l.length c) ∧ w.ownsRow H 3 1 (.slice A l.length c) l.length (ivals l) := by
  obtain ⟨h0, vs, h1, h2, h3, h4⟩ := h
  obtain ⟨v, e1, e2⟩ := h3 i l hi
  obtain ⟨A, c, rfl⟩ := Reads.own_val e2
  exact ⟨A, c, by rw [h1.cell]; exact e1, e2⟩
theorem RowsAt.lt (h : RowsAt w H B L) : B < w.heap.size := by
  obtain ⟨h0, vs, h1, h2, h3, h4⟩ := h
  exact h1.lt
theorem RowsAt.frozen (h : RowsAt w H B L) (i : Nat) : w.frozen? ⟨B, i, none⟩ = false := by
  obtain ⟨h0, vs, h1, h2, h3, h4⟩ := h
  exact h1.frozen i
theorem RowsAt.frS {S : Nat → Prop} (h : RowsAt w H B L) (hf : Fr S w w') (hs : ∀ k, k = B ∨ (H ≤ k ∧ k < w.heap.size) → ¬ S k) : RowsAt w' H B L := by
  obtain ⟨h0, vs, h1, h2, h3, h4⟩ := h
  refine ⟨h0, vs, h1.fr hf (hs B (.inl rfl)), h2, fun i l hl => ?_, h4⟩
  obtain ⟨v, e1, e2⟩ := h3 i l hl
  exact ⟨v, e1, own_frS e2 hf (fun k hk => hs k (.inr (e2.lt k hk)))⟩
/-- a row turned: the table's cell is to be set yet -/
theorem RowsAt.turn (h : RowsAt w H B L) {i : Nat} {l l' : List Nat} {v v' : Value} (hi : L[i]? = some l) (hv : w.cell? ⟨B, i, none⟩ = some v) (hg : w.grownBy w' v.ownBlock) (ho : w'.ownsRow H 3 1 v' l'.length (ivals l'))
    (hn : v'.ownBlock = v.ownBlock ∨ ∃ g, v'.ownBlock = some g ∧ w.heap.size ≤ g) : RowsAt (w'.setCell ⟨B, i, none⟩ v') H B (L.set i l') := by
  obtain ⟨h0, vs, h1, h2, h3, h4⟩ := h
  have hiL : i < L.length := (List.getElem?_eq_some_iff.1 hi).1
  obtain ⟨v2, e1, e2⟩ := h3 i l hi
  have : v2 = v := by rw [h1.cell, e1] at hv; exact Option.some.inj hv
  subst this
  have hBv : some B ≠ v2.ownBlock := fun e => by have := (e2.lt B e.symm).1; omega
  have hB1 : Blk w' B 37 vs := (hg.block B h1.lt hBv).trans h1
  have hBo : ∀ u (x : World) m ys, x.ownsRow H 3 1 u m ys → u.ownBlock = none ∨ u.ownBlock ≠ some B := fun u x m ys hu => by
    cases hub : u.ownBlock with
    | none => exact .inl rfl
    | some k => have := (hu.lt k hub).1; exact .inr (by simp; omega)
  refine ⟨h0, vs.setIfInBounds i v', hB1.set_ i v', by simp [h2], fun j m hm => ?_, fun j k u x hjk hu hx => ?_⟩
  · by_cases hji : j = i
    · subst hji
      rw [List.getElem?_set_self hiL] at hm
      obtain rfl := Option.some.inj hm
      refine ⟨v', ?_, ho.kept (set_grown _ _ _ _) (hBo _ _ _ _ ho)⟩
      simp [h2, hiL]
    · rw [List.getElem?_set_ne (Ne.symm hji)] at hm
      obtain ⟨u, f1, f2⟩ := h3 j m hm
      refine ⟨u, by rw [Array.getElem?_setIfInBounds_ne (Ne.symm hji)]; exact f1, (f2.kept hg (h4 j i u v2 hji f1 e1)).kept (set_grown _ _ _ _) (hBo _ _ _ _ f2)⟩
  · have hsz : i < vs.size := by omega
    have old : ∀ (k : Nat) (u : Value), k ≠ i → vs[k]? = some u → u.ownBlock = none ∨ (u.ownBlock ≠ v'.ownBlock) := fun k u hki hu => by
      rcases h4 k i u v2 hki hu e1 with h | h
      · exact .inl h
      · rcases hn with hn | ⟨g, hn, hge⟩
        · exact .inr (by rw [hn]; exact h)
        · have hk : k < L.length := by rw [← h2]; exact (Array.getElem?_eq_some_iff.1 hu).1
          obtain ⟨u2, f1, f2⟩ := h3 k L[k] (List.getElem?_eq_getElem hk)
          rw [hu] at f1
          obtain rfl := Option.some.inj f1
          cases hub : u.ownBlock with
          | none => exact .inl rfl
          | some b => have := (f2.lt b hub).2; exact .inr (by rw [hn]; simp; omega)
    by_cases hj : j = i
    · subst hj
      rw [Array.getElem?_setIfInBounds_self_of_lt hsz] at hu
      obtain rfl := Option.some.inj hu
      rw [Array.getElem?_setIfInBounds_ne hjk] at hx
      rcases old k x (Ne.symm hjk) hx with h | h
      · cases hv' : v'.ownBlock with
        | none => exact .inl rfl
        | some b => exact .inr (by rw [h]; simp)
      · exact .inr (Ne.symm h)
    · rw [Array.getElem?_setIfInBounds_ne (Ne.symm hj)] at hu
      by_cases hk : k = i
      · subst hk
        rw [Array.getElem?_setIfInBounds_self_of_lt hsz] at hx
        obtain rfl := Option.some.inj hx
        exact old j u hj hu
      · rw [Array.getElem?_setIfInBounds_ne (Ne.symm hk)] at hx
        exact h4 j k u x hjk hu hx
/-- a row turned in place -/
theorem RowsAt.same (h : RowsAt w H B L) {i : Nat} {l : List Nat} {v : Value} (hi : L[i]? = some l) (hv : w.cell? ⟨B, i, none⟩ = some v) (hg : w.grownBy w' v.ownBlock) (ho : w'.ownsRow H 3 1 v l.length (ivals l)) : RowsAt w' H B L := by
  obtain ⟨h0, vs, h1, h2, h3, h4⟩ := h
  obtain ⟨v2, e1, e2⟩ := h3 i l hi
  have : v2 = v := by rw [h1.cell, e1] at hv; exact Option.some.inj hv
  subst this
  have hBv : some B ≠ v2.ownBlock := fun e => by have := (e2.lt B e.symm).1; omega
  refine ⟨h0, vs, (hg.block B h1.lt hBv).trans h1, h2, fun j m hm => ?_, h4⟩
  by_cases hji : j = i
  · subst hji
    rw [hi] at hm
    obtain rfl := Option.some.inj hm
    exact ⟨v2, e1, ho⟩
  · obtain ⟨u, f1, f2⟩ := h3 j m hm
    exact ⟨u, f1, f2.kept hg (h4 j i u v2 hji f1 e1)⟩
/-- a store elsewhere -/
theorem RowsAt.far (h : RowsAt w H B L) {g i : Nat} (u : Value) (h1 : g ≠ B) (h2 : g < H) : RowsAt (w.setCell ⟨g, i, none⟩ u) H B L := by
  obtain ⟨h0, vs, h3, h4, h5, h6⟩ := h
  refine ⟨h0, vs, h3.far (p := ⟨g, i, none⟩) (Ne.symm h1) u, h4, fun j m hm => ?_, h6⟩
  obtain ⟨x, e1, e2⟩ := h5 j m hm
  refine ⟨x, e1, e2.kept (set_grown _ _ _ _) ?_⟩
  cases hx : x.ownBlock with
  | none => exact .inl rfl
  | some k => have := (e2.lt k hx).1; exact .inr (by simp; omega)
/-- as lists -/
theorem RowsAt.lists (h : RowsAt w H B L) {m : Nat} (hm : L.length = m) (hb : ∀ l ∈ L, l.length ≤ 9223372036854775807) : ListsAt w w.heap.size (some ⟨B, 0, none⟩) m (L.map fun l => l.map fun v : Nat => (v : Int)) := by
  obtain ⟨h0, vs, h1, h2, h3, h4⟩ := h
  refine ⟨by simp [hm], vs.toList, ?_, fun i l hl => ?_⟩
  · have : Blk w B 37 vs.toList.toArray := by simpa using h1
    exact Reads.blk this (by simp [h2, hm])
  · rw [List.getElem?_map] at hl
    cases hx : L[i]? with
    | none => rw [hx] at hl; cases hl
    | some x =>
      rw [hx] at hl
      obtain rfl := Option.some.inj hl
      obtain ⟨v, e1, e2⟩ := h3 i x hx
      obtain ⟨A, c, rfl⟩ := Reads.own_val e2
      have hr := Reads.of_own e2
      rw [ivals_ints] at hr
      refine ⟨A, c, ?_, ?_, ?_⟩
      · rw [List.length_map, Array.getElem?_toList]
        exact e1
      · simpa using hr
      · rw [List.length_map]
        exact hb x (List.mem_of_getElem? hx)
end

theorem ints_sorted {l : List Nat} (h : l.Pairwise (· < ·)) : (l.map fun v : Nat => (v : Int)).mergeSort (fun x y => decide (x ≤ y)) = l.map fun v : Nat => (v : Int) := by
  apply List.mergeSort_of_pairwise
  rw [List.pairwise_map]
  refine h.imp ?_
  intro a b hab
  simp
  omega
theorem ints_compact {l : List Nat} (h : l.Pairwise (· < ·)) : Lib.compact (l.map fun v : Nat => (v : Int)) = l.map fun v : Nat => (v : Int) := by
  apply Lib.compact_all
  intro j hj
  simp only [List.length_map] at hj
  unfold Lib.keeps
  rw [decide_eq_true_iff]
  rcases Nat.eq_zero_or_pos j with h0 | h0
  · exact .inl h0
  · refine .inr ?_
    have h1 := (List.pairwise_iff_getElem.1 h) (j - 1) j (by omega) hj (by omega)
    rw [getElem!_pos _ j (by simpa using hj), getElem!_pos _ (j - 1) (by simp; omega)]
    simp
    omega
theorem sort_own {H : Nat} {v : Value} {l : List Nat} {w : World} (ho : w.ownsRow H 3 1 v l.length (ivals l)) (hs : l.Pairwise (· < ·)) (hn : l.length ≤ 4096) :
    Calls Tryz.prog 27 #[v] w fun e w' => e = .returned (.tuple #[]) ∧ w.grownBy w' v.ownBlock ∧ w'.ownsRow H 3 1 v l.length (ivals l) := by
  rcases ho.2 with ⟨rfl, h0⟩ | ⟨g, cap, cur, rfl, hb, hg, h1, h2, h3, h4⟩
  · have hc := Tryz.slices_Sort_int_none none 0 w
    have hl : l = [] := List.eq_nil_of_length_eq_zero h0
    refine hc.mono ?_
    rintro e w' ⟨rfl, rfl⟩
    exact ⟨rfl, ⟨rfl, rfl, rfl, Nat.le_refl _, fun _ _ _ => rfl⟩, ho⟩
  · rw [Nat.mul_one, ivals_ints] at h4
    have hlen : (l.map fun v : Nat => (v : Int)).length = l.length := by simp
    have hH := holds_of_blockI (ss := l.map fun v : Nat => (v : Int)) hg (by rw [hlen]; exact h4)
    have hc := Tryz.slices_Sort_int g 0 cap (l.map fun v : Nat => (v : Int)) w hH (Array.getElem?_eq_some_iff.1 hg).1 (by rw [hlen]; omega)
    rw [hlen, ints_sorted hs] at hc
    refine hc.mono ?_
    rintro e w' ⟨rfl, n, os, rfl⟩
    refine ⟨rfl, grownBy_sortedI _, ?_⟩
    have := ownsRow_sortedI (n := n) (os := os) (ss := l.map fun v : Nat => (v : Int)) (ts := l.map fun v : Nat => (v : Int)) rfl hb hg (by rw [hlen]; exact h1) h2 h3
    rw [hlen] at this
    rw [ivals_ints]
    exact this
theorem compact_own {H : Nat} {v : Value} {l : List Nat} {w : World} (ho : w.ownsRow H 3 1 v l.length (ivals l)) (hs : l.Pairwise (· < ·)) (hn : l.length ≤ 4096) :
    Calls Tryz.prog 28 #[v] w fun e w' => e = .returned v ∧ w.grownBy w' v.ownBlock ∧ w'.ownsRow H 3 1 v l.length (ivals l) := by
  rcases ho.2 with ⟨rfl, h0⟩ | ⟨g, cap, cur, rfl, hb, hg, h1, h2, h3, h4⟩
  · refine (Tryz.slices_Compact_int_empty none 0 w).mono ?_
    rintro e w' ⟨rfl, rfl⟩
    exact ⟨rfl, ⟨rfl, rfl, rfl, Nat.le_refl _, fun _ _ _ => rfl⟩, ho⟩
  · rw [Nat.mul_one, ivals_ints] at h4
    have hlen : (l.map fun v : Nat => (v : Int)).length = l.length := by simp
    have hH := holds_of_blockI (ss := l.map fun v : Nat => (v : Int)) hg (by rw [hlen]; exact h4)
    have hc := Tryz.slices_Compact_int g 0 cap (l.map fun v : Nat => (v : Int)) w hH (by rw [hlen]; omega) (by rw [hlen]; exact h1)
    rw [ints_compact hs, hlen, Nat.sub_self, List.replicate_zero, List.append_nil] at hc
    refine hc.mono ?_
    rintro e w' ⟨rfl, q, rfl⟩
    have hgr : grow (putRow (Value.int .i64) (Sort.ahead w q) g 0 (l.map fun v : Nat => (v : Int)).toArray) #[] = putRow (Value.int .i64) (Sort.ahead w q) g 0 (l.map fun v : Nat => (v : Int)).toArray := by unfold grow; rw [Array.append_empty]
    refine ⟨rfl, ?_, ?_⟩
    · rw [← hgr]
      exact grownBy_sortedI _
    · have := ownsRow_sortedI (n := q) (os := #[]) (ss := l.map fun v : Nat => (v : Int)) (ts := l.map fun v : Nat => (v : Int)) rfl hb hg (by rw [hlen]; exact h1) h2 h3
      rw [hlen, hgr] at this
      rw [ivals_ints]
      exact this
end Go.Proofs.YtjdbjahgimlhbaaGreat
end
