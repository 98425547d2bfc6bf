/- parts.Cut, by contract. -/
import Derived.Test.YtjdbjahgimlhbaaBase
import Derived.Test.YtjdbjahgimlhbaaGrFold
set_option linter.unusedVariables false
set_option maxRecDepth 100000
namespace Go.Proofs.Ytjdbjahgimlhbaa
open Go.RowKit
open Gr (E cut)

def PartsAt (w : World) (g n s : Nat) : Prop := g < w.heap.size ∧ ∀ k, k < s → w.cell? ⟨g, k * 2, none⟩ = some (.int .i64 ((cut n s k : Nat) : Int)) ∧ w.cell? ⟨g, k * 2 + 1, none⟩ = some (.int .i64 ((cut n s (k + 1) : Nat) : Int))
theorem PartsAt.fr {S : Nat → Prop} {w w' : World} {g n s : Nat} (h : PartsAt w g n s) (hf : Fr S w w') (hn : ¬ S g) : PartsAt w' g n s :=
  ⟨Nat.lt_of_lt_of_le h.1 hf.size, fun k hk => ⟨hf.cell (h.2 k hk).1 hn, hf.cell (h.2 k hk).2 hn⟩⟩
theorem part_info : (Try.prog.info? 42).map (fun i => (i.zero, i.size, i.bytes)) = some (some (.agg #[.int .i64 0, .int .i64 0]), 2, 16) := by kernel_rfl
theorem cut_i64 (n s k : Nat) (h0 : 1 ≤ s) (hk : k ≤ s) (hs : s ≤ 16) (hn : n ≤ 256) : IntKind.i64.wrap ((IntKind.i64.wrap ((k : Int) * (n : Int))).tdiv (s : Int)) = ((cut n s k : Nat) : Int) := by
  have h1 : k * n ≤ 16 * 256 := Nat.mul_le_mul (by omega) hn
  have h2 : ((k : Int) * (n : Int)) = ((k * n : Nat) : Int) := by simp
  rw [h2]
  have h3 : IntKind.i64.wrap ((k * n : Nat) : Int) = ((k * n : Nat) : Int) := by simp only [IntKind.wrap, IntKind.bits, IntKind.signed]; simp; omega
  rw [h3]
  have h4 : (((k * n : Nat) : Int)).tdiv (s : Int) = ((k * n / s : Nat) : Int) := by rw [Int.tdiv_eq_ediv_of_nonneg (by omega)]; rfl
  rw [h4]
  have h5 : k * n / s ≤ k * n := Nat.div_le_self _ _
  unfold cut
  generalize k * n / s = q at *
  simp only [IntKind.wrap, IntKind.bits, IntKind.signed]
  simp
  omega
theorem cut_w64 (n s k : Nat) (h0 : 1 ≤ s) (hk : k ≤ s) (hs : s ≤ 16) (hn : n ≤ 256) : wrap64 ((wrap64 ((k : Int) * (n : Int))).tdiv (s : Int)) = ((cut n s k : Nat) : Int) := by
  have h1 : k * n ≤ 16 * 256 := Nat.mul_le_mul (by omega) hn
  have h2 : ((k : Int) * (n : Int)) = ((k * n : Nat) : Int) := by simp
  rw [h2]
  have h3 : wrap64 ((k * n : Nat) : Int) = ((k * n : Nat) : Int) := by unfold wrap64; omega
  rw [h3]
  have h4 : (((k * n : Nat) : Int)).tdiv (s : Int) = ((k * n / s : Nat) : Int) := by rw [Int.tdiv_eq_ediv_of_nonneg (by omega)]; rfl
  rw [h4]
  have h5 : k * n / s ≤ k * n := Nat.div_le_self _ _
  unfold cut
  generalize k * n / s = q at *
  unfold wrap64
  omega
set_option maxHeartbeats 1600000 in
theorem cut_any (n s : Nat) (w : World) (h0 : 1 ≤ s) (hs : s ≤ n) (hs16 : s ≤ 16) (hn : n ≤ 256) :
    Calls Try.prog 50 #[.int .i64 (n : Int), .int .i64 (s : Int)] w fun e w' => ∃ g, e = .returned (.tuple #[.slice (some ⟨g, 0, none⟩) s s, .int .i64 0]) ∧ w.heap.size ≤ g ∧ PartsAt w' g n s ∧ Fr (fun _ => False) w w' := by
  obtain ⟨i0, hi, hz0, hz1, hz2⟩ := info_parts part_info
  have hmk := fun w => run_make_rowN (P := Try.prog) 96 42 i0 _ rfl hi hz0 .i64 .i64 s s (Nat.le_refl _) (by rw [hz2]; omega) (by omega) w
  rw [hz1] at hmk
  have H0 := hide (Blk.new w 42 (madeCells (Value.agg #[.int .i64 0, .int .i64 0]).cells (s * 2)))
  have F0 := hide ((Fr.refl (fun _ => False) w).alloc (.cells (madeCells (Value.agg #[.int .i64 0, .int .i64 0]).cells (s * 2)) 42))
  have hsz : (madeCells (Value.agg #[.int .i64 0, .int .i64 0]).cells (s * 2)).size = s * 2 := by simp [madeCells]
  generalize madeCells (Value.agg #[.int .i64 0, .int .i64 0]).cells (s * 2) = cs0 at *
  by_cases h16 : (16 : Int) < (n : Int)
  · go_enter Try.func50, Try.ntmps50
    go_wp2
    go_loopw [28, 7] (fun i j wr => ∃ (k : Nat), k ≤ s ∧ i = .int .i64 k ∧ Hid (∃ cs, Blk wr w.heap.size 42 cs ∧ cs.size = s * 2 ∧ (∀ j, j < k → cs[j * 2]? = some (.int .i64 ((cut n s j : Nat) : Int)) ∧ cs[j * 2 + 1]? = some (.int .i64 ((cut n s (j + 1) : Nat) : Int))) ∧ Fr (fun _ => False) w wr)) (fun i _ _ => s - (intOf i).toNat)
    case atStart => exact ⟨0, by omega, rfl, cs0, H0.out, hsz, fun j hj => absurd hj (by omega), F0.out⟩
    case round =>
      obtain ⟨k, hk, rfl, HI⟩ := hrel
      by_cases hlt : k < s
      · obtain ⟨cs, hb, hcs, hc, hf⟩ := HI.out
        have HB := hide hb
        have HC := hide hc
        have HF := hide hf
        have q0 := cut_i64 n s k h0 (by omega) hs16 hn
        have q1 := cut_i64 n s (k + 1) h0 (by omega) hs16 hn
        have q2 : IntKind.i64.wrap ((k : Int) + 1) = ((k + 1 : Nat) : Int) := by simp only [IntKind.wrap, IntKind.bits, IntKind.signed]; simp; omega
        have b0 : (0 : Int) ≤ (k : Int) := by omega
        have b1 : (k : Int) < (s : Int) := by omega
        have b2 : ¬ ((s : Int) = 0) := by omega
        have c0 : ∃ v, wr.cell? ⟨w.heap.size, k * 2, none⟩ = some v := by rw [hb.cell]; exact ⟨cs[k * 2]'(by omega), Array.getElem?_eq_getElem (by omega)⟩
        have c1 : ∃ v, wr.cell? ⟨w.heap.size, k * 2 + 1, none⟩ = some v := by rw [hb.cell]; exact ⟨cs[k * 2 + 1]'(by omega), Array.getElem?_eq_getElem (by omega)⟩
        have f0 := hb.frozen (k * 2)
        have f1 := hb.frozen (k * 2 + 1)
        obtain ⟨v0, c0⟩ := c0
        obtain ⟨v1, c1⟩ := c1
        clear hb hc hf
        go_wp2_with fail
        go_region
        go_wp2
        go_roundw
        case rel =>
          refine ⟨k + 1, by omega, by go_num, ?_⟩
          have r0 : wrap64 ((wrap64 ((k : Int) * (n : Int))).tdiv (s : Int)) = ((cut n s k : Nat) : Int) := cut_w64 n s k h0 (by omega) hs16 hn
          have r1 : wrap64 ((wrap64 (((k : Int) + 1) * (n : Int))).tdiv (s : Int)) = ((cut n s (k + 1) : Nat) : Int) := by
            rw [show (k : Int) + 1 = ((k + 1 : Nat) : Int) by omega]; exact cut_w64 n s (k + 1) h0 (by omega) hs16 hn
          rw [r0, r1]
          refine ⟨_, (((HB.out.set_ _ _).set_ _ _).drew), by simp [hcs], fun j hj => ?_, ((HF.out.setCell (p := ⟨w.heap.size, k * 2, none⟩) (.inr (Nat.le_refl _)) _).setCell (p := ⟨w.heap.size, k * 2 + 1, none⟩) (.inr (Nat.le_refl _)) _).drew⟩
          simp only [Array.getElem?_setIfInBounds, Array.size_setIfInBounds, hcs]
          by_cases hjk : j = k
          · subst hjk
            simp
            omega
          · rw [if_neg (by omega), if_neg (by omega), if_neg (by omega), if_neg (by omega)]
            exact HC.out j (by omega)
        case measure => simp [intOf]; omega
      · obtain rfl : k = s := by omega
        obtain ⟨cs, hb, hcs, hc, hf⟩ := HI.out
        have HP := hide (show PartsAt wr w.heap.size n k from ⟨hb.lt, fun j hj => by rw [hb.cell, hb.cell]; exact hc j hj⟩)
        have HF := hide hf
        clear hb hc hf
        go_wp2
        go_ret2
        exact ⟨_, rfl, Nat.le_refl _, HP.out, HF.out⟩
  · go_enter Try.func50, Try.ntmps50
    go_wp2
    go_loopw [28, 7] (fun i j wr => ∃ (k : Nat), k ≤ s ∧ i = .int .i64 k ∧ Hid (∃ cs, Blk wr w.heap.size 42 cs ∧ cs.size = s * 2 ∧ (∀ j, j < k → cs[j * 2]? = some (.int .i64 ((cut n s j : Nat) : Int)) ∧ cs[j * 2 + 1]? = some (.int .i64 ((cut n s (j + 1) : Nat) : Int))) ∧ Fr (fun _ => False) w wr)) (fun i _ _ => s - (intOf i).toNat)
    case atStart => exact ⟨0, by omega, rfl, cs0, H0.out, hsz, fun j hj => absurd hj (by omega), F0.out⟩
    case round =>
      obtain ⟨k, hk, rfl, HI⟩ := hrel
      by_cases hlt : k < s
      · obtain ⟨cs, hb, hcs, hc, hf⟩ := HI.out
        have HB := hide hb
        have HC := hide hc
        have HF := hide hf
        have q0 := cut_i64 n s k h0 (by omega) hs16 hn
        have q1 := cut_i64 n s (k + 1) h0 (by omega) hs16 hn
        have q2 : IntKind.i64.wrap ((k : Int) + 1) = ((k + 1 : Nat) : Int) := by simp only [IntKind.wrap, IntKind.bits, IntKind.signed]; simp; omega
        have b0 : (0 : Int) ≤ (k : Int) := by omega
        have b1 : (k : Int) < (s : Int) := by omega
        have b2 : ¬ ((s : Int) = 0) := by omega
        have c0 : ∃ v, wr.cell? ⟨w.heap.size, k * 2, none⟩ = some v := by rw [hb.cell]; exact ⟨cs[k * 2]'(by omega), Array.getElem?_eq_getElem (by omega)⟩
        have c1 : ∃ v, wr.cell? ⟨w.heap.size, k * 2 + 1, none⟩ = some v := by rw [hb.cell]; exact ⟨cs[k * 2 + 1]'(by omega), Array.getElem?_eq_getElem (by omega)⟩
        have f0 := hb.frozen (k * 2)
        have f1 := hb.frozen (k * 2 + 1)
        obtain ⟨v0, c0⟩ := c0
        obtain ⟨v1, c1⟩ := c1
        clear hb hc hf
        go_wp2_with fail
        go_region
        go_wp2
        go_roundw
        case rel =>
          refine ⟨k + 1, by omega, by go_num, ?_⟩
          have r0 : wrap64 ((wrap64 ((k : Int) * (n : Int))).tdiv (s : Int)) = ((cut n s k : Nat) : Int) := cut_w64 n s k h0 (by omega) hs16 hn
          have r1 : wrap64 ((wrap64 (((k : Int) + 1) * (n : Int))).tdiv (s : Int)) = ((cut n s (k + 1) : Nat) : Int) := by
            rw [show (k : Int) + 1 = ((k + 1 : Nat) : Int) by omega]; exact cut_w64 n s (k + 1) h0 (by omega) hs16 hn
          rw [r0, r1]
          refine ⟨_, (((HB.out.set_ _ _).set_ _ _).drew), by simp [hcs], fun j hj => ?_, ((HF.out.setCell (p := ⟨w.heap.size, k * 2, none⟩) (.inr (Nat.le_refl _)) _).setCell (p := ⟨w.heap.size, k * 2 + 1, none⟩) (.inr (Nat.le_refl _)) _).drew⟩
          simp only [Array.getElem?_setIfInBounds, Array.size_setIfInBounds, hcs]
          by_cases hjk : j = k
          · subst hjk
            simp
            omega
          · rw [if_neg (by omega), if_neg (by omega), if_neg (by omega), if_neg (by omega)]
            exact HC.out j (by omega)
        case measure => simp [intOf]; omega
      · obtain rfl : k = s := by omega
        obtain ⟨cs, hb, hcs, hc, hf⟩ := HI.out
        have HP := hide (show PartsAt wr w.heap.size n k from ⟨hb.lt, fun j hj => by rw [hb.cell, hb.cell]; exact hc j hj⟩)
        have HF := hide hf
        clear hb hc hf
        go_wp2
        go_ret2
        exact ⟨_, rfl, Nat.le_refl _, HP.out, HF.out⟩
end Go.Proofs.Ytjdbjahgimlhbaa
