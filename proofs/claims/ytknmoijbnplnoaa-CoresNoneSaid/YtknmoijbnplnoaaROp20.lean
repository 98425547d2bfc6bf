/- THE REFERENCE OF CHAPTER 20: Begin, Shard, by contract. -/
import Derived.Test.YtknmoijbnplnoaaRef20
import Derived.Test.YtknmoijbnplnoaaTwo
import Derived.Test.YtknmoijbnplnoaaCCores
import Derived.Deep.Cut
set_option linter.unusedVariables false
set_option maxRecDepth 100000
namespace Go.Proofs.Ytknmoijbnplnoaa.k20
open Go.RowKit

/-- the numbers of a row that is read -/
theorem reads_u64 {w : World} {B n : Nat} {A : Option Addr} {xs : List Nat} (h : Reads w B 1 A n (xs.map u64v)) (h1 : 1 ≤ n) : ∃ b o, A = some ⟨b, o, none⟩ ∧ Hid (∀ k, k < n → w.cell? ⟨b, o + k, none⟩ = some (.int .u64 (xs.getD k 0 : Nat))) := by
  obtain ⟨b, o, e, hb, hc⟩ := h.2 h1
  have hl : xs.length = n := by have := h.1; simpa using this
  refine ⟨b, o, e, fun k hk => ?_⟩
  have := hc k (u64v (xs.getD k 0)) (by rw [List.getElem?_map, List.getElem?_eq_getElem (by omega)]; simp [List.getD, show k < xs.length by omega])
  exact this

theorem reads_u64' {w : World} {B n b o : Nat} {xs : List Nat} (h : Reads w B 1 (some ⟨b, o, none⟩) n (xs.map u64v)) (h1 : 1 ≤ n) : Hid (∀ k, k < n → w.cell? ⟨b, o + k, none⟩ = some (.int .u64 (xs.getD k 0 : Nat))) := by
  obtain ⟨b', o', e, h⟩ := reads_u64 h h1
  cases e
  exact h
theorem min_ite (a b : Nat) : (if b < a then (b : Int) else (a : Int)) = ((min a b : Nat) : Int) := by split <;> omega

theorem rbegin_ok (A A' : Option Addr) (n c m d : Nat) (xs ys : List Nat) (w : World) (ha : Reads w w.heap.size 1 A n (xs.map u64v)) (hb : Reads w w.heap.size 1 A' m (ys.map u64v))
    (hx : ∀ x ∈ xs, x < 18446744073709551616) (hy : ∀ x ∈ ys, x < 18446744073709551616) (arg : Int) (hm : mayB n m = true) (hok : cores.okArg arg = true) :
    Calls Try.prog 45 #[.agg #[.slice A n c, .slice A' m d], .int .i64 arg] w fun e w' => ∃ g c' g' d', e = .returned (.tuple #[.agg #[.slice (some ⟨g, 0, none⟩) n c', .slice (some ⟨g', 0, none⟩) n d'], .int .i64 0]) ∧ w.heap.size ≤ g ∧ w.heap.size ≤ g' ∧ RowAt w' g (cores.bX n) ∧ RowAt w' g' (cores.bY n) ∧ Fr (fun _ => False) w w' := by
  have hm' : 1 ≤ n ∧ n ≤ 256 ∧ m = n := by simpa [mayB] using hm
  have ha' : 0 ≤ arg ∧ arg ≤ 4096 := by simpa [cores.okArg] using hok
  obtain ⟨ha1, ha2⟩ := ha'
  obtain ⟨h1, h2, rfl⟩ := hm'
  have lx : xs.length = m := by have := ha.1; simpa using this
  have ly : ys.length = m := by have := hb.1; simpa using this
  obtain ⟨W2, hW2⟩ : ∃ W2, W2 = (w.alloc (.cells #[.slice A m c, .slice A' m d] 73)).alloc (.cells #[.slice none 0 0, .slice none 0 0] 73) := ⟨_, rfl⟩
  have F2 : Fr (fun _ => False) w W2 := by rw [hW2]; exact ((Fr.refl _ _).alloc _).alloc _
  have b0 : Blk W2 w.heap.size 73 #[.slice A m c, .slice A' m d] := by rw [hW2]; exact (Blk.new w 73 #[.slice A m c, .slice A' m d]).alloc _
  have b1 : Blk W2 (w.heap.size + 1) 73 #[.slice none 0 0, .slice none 0 0] := by rw [hW2]; have := Blk.new (w.alloc (.cells #[.slice A m c, .slice A' m d] 73)) 73 #[.slice none 0 0, .slice none 0 0]; simpa using this
  have HM := hide (may_any A A' m c m d W2)
  have HX := hide hx
  have HY := hide hy
  have HRA := hide (ha.up F2)
  have HRB := hide (hb.up F2)
  have LX := hide lx
  have LY := hide ly
  have HF2 := hide F2
  have B0 := hide b0
  have B1 := hide b1
  clear ha hb hx hy hok lx ly F2 b0 b1
  go_enter Try.func45, Try.ntmps45
  go_wp2_with fail
  go_at_call 78
  rw [← hW2]
  refine HM.out.mono ?_
  rintro e w1 ⟨rfl, hf⟩
  rw [hm]
  have F3 := HF2.out.then_ hf
  have B03 := hide (B0.out.fr hf id)
  have B13 := hide (B1.out.fr hf id)
  have HC := hide (copy_any A A' m c m d xs ys w1 (HRA.out.up hf) (HRB.out.up hf) h1 h1 h2 h2 HX.out HY.out)
  have HF3 := hide F3
  have k0 : w1.cell? ⟨w.heap.size, 0, none⟩ = some (.slice A m c) := (B03.out.cell 0).trans rfl
  have k1 : w1.cell? ⟨w.heap.size, 1, none⟩ = some (.slice A' m d) := (B03.out.cell 1).trans rfl
  clear hf F3 hW2 hm HM HX HY HRA HRB HF2 B0 B1
  go_wp2_with fail
  go_at_call 79
  refine HC.out.mono ?_
  rintro e w2 ⟨g, g', c', d', rfl, hg, hg', hgg, hr, hr', hf⟩
  have HR := hide hr
  have HR' := hide hr'
  have HF4 := hide (HF3.out.then_ hf)
  have B14 := hide (B13.out.fr hf id)
  have l1 := B13.out.lt
  have l2 := hr.lt
  have l3 := hr'.lt
  clear hr hr' hf HC HF3 k0 k1 B03 B13
  go_wp2_with fail
  obtain ⟨W4, hW4⟩ : ∃ W4, W4 = w2.alloc (.cells #[.slice (some ⟨g, 0, none⟩) m c', .slice (some ⟨g', 0, none⟩) m d'] 73) := ⟨_, rfl⟩
  rw [← hW4]
  have S4 := hide (show Blk W4 w2.heap.size 73 #[.slice (some ⟨g, 0, none⟩) m c', .slice (some ⟨g', 0, none⟩) m d'] by rw [hW4]; exact Blk.new _ _ _)
  have R4 := hide (show RowAt W4 g xs by rw [hW4]; exact HR.out.alloc _)
  have R4' := hide (show RowAt W4 g' ys by rw [hW4]; exact HR'.out.alloc _)
  have F4 := hide (show Fr (fun _ => False) w W4 by rw [hW4]; exact HF4.out.alloc _)
  have B4 := hide (show Blk W4 (w.heap.size + 1) 73 #[.slice none 0 0, .slice none 0 0] by rw [hW4]; exact B14.out.alloc _)
  have g1 : g ≠ w2.heap.size := by omega
  have g2 : g' ≠ w2.heap.size := by omega
  have g3 : g ≠ w.heap.size + 1 := by omega
  have g4 : g' ≠ w.heap.size + 1 := by omega
  have g5 : w.heap.size ≤ g := by omega
  have g6 : w.heap.size ≤ g' := by omega
  clear hW4 HR HR' HF4 B14 l1 l2 l3 hg hg'
  go_loopw [7] (fun i wr => ∃ k : Nat, k ≤ m ∧ i = .int .i64 k ∧ Hid (RowAt wr g (pre (fun _ => 1) k xs) ∧ RowAt wr g' (pre (fun _ => 0) k ys) ∧ Fr (fun k => k = g ∨ k = g') W4 wr)) (fun i _ => m - (intOf i).toNat)
  case atStart => exact ⟨0, by omega, rfl, hide ⟨by rw [pre_zero]; exact R4.out, by rw [pre_zero]; exact R4'.out, Fr.refl _ _⟩⟩
  case round =>
    obtain ⟨k, hk, rfl, HI⟩ := hrel
    have q0 : wr.cell? ⟨w2.heap.size, 0, none⟩ = some (.slice (some ⟨g, 0, none⟩) m c') := HI.out.2.2.cell ((S4.out.cell 0).trans rfl) (by rintro (h | h) <;> exact absurd h.symm (by assumption))
    have q1 : wr.cell? ⟨w2.heap.size, 1, none⟩ = some (.slice (some ⟨g', 0, none⟩) m d') := HI.out.2.2.cell ((S4.out.cell 1).trans rfl) (by rintro (h | h) <;> exact absurd h.symm (by assumption))
    by_cases hlt : k < m
    · have c1 := HI.out.1.cell (i := k) (by rw [pre_len _ (by rw [LX.out]; omega)]; rw [LX.out]; omega)
      have c2 := HI.out.2.1.cell (i := k) (by rw [pre_len _ (by rw [LY.out]; omega)]; rw [LY.out]; omega)
      have f1 := HI.out.1.frozen k
      have f2 := HI.out.2.1.frozen k
      generalize (((pre (fun _ => 1) k xs).getD k 0 : Nat) : Int) = z1 at c1
      generalize (((pre (fun _ => 0) k ys).getD k 0 : Nat) : Int) = z2 at c2
      have lk1 : k < (pre (fun _ => 1) k xs).length := by rw [pre_len _ (by rw [LX.out]; omega)]; rw [LX.out]; omega
      have lk2 : k < (pre (fun _ => 0) k ys).length := by rw [pre_len _ (by rw [LY.out]; omega)]; rw [LY.out]; omega
      have HN : Hid (RowAt (((wr.setCell ⟨g, k, none⟩ (.int .u64 1)).setCell ⟨g', k, none⟩ (.int .u64 0)).drew) g (pre (fun _ => 1) (k + 1) xs) ∧ RowAt (((wr.setCell ⟨g, k, none⟩ (.int .u64 1)).setCell ⟨g', k, none⟩ (.int .u64 0)).drew) g' (pre (fun _ => 0) (k + 1) ys) ∧ Fr (fun k => k = g ∨ k = g') W4 (((wr.setCell ⟨g, k, none⟩ (.int .u64 1)).setCell ⟨g', k, none⟩ (.int .u64 0)).drew)) := by
        rw [← pre_set (fun _ => 1) (by rw [LX.out]; exact hlt), ← pre_set (fun _ => 0) (by rw [LY.out]; exact hlt)]
        exact ⟨(HI.out.1.set_ (y := 1) lk1 (by omega)).far (p := ⟨g', k, none⟩) hgg _, (HI.out.2.1.far (p := ⟨g, k, none⟩) (fun e => hgg e.symm) _).set_ (y := 0) lk2 (by omega), ((HI.out.2.2.setCell (p := ⟨g, k, none⟩) (.inl (.inl rfl)) _).setCell (p := ⟨g', k, none⟩) (.inl (.inr rfl)) _).drew⟩
      clear lk1 lk2
      go_wp2_with fail
      go_region
      go_wp2
      go_roundw
      case rel => exact ⟨k + 1, by omega, by go_num, HN⟩
      case measure => simp [intOf]; omega
    · obtain rfl : k = m := by omega
      have hB := B4.out.fr HI.out.2.2 (by rintro (h | h) <;> exact absurd h.symm (by assumption))
      have r0 : wr.cell? ⟨w.heap.size + 1, 0, none⟩ = some (.slice none 0 0) := (hB.cell 0).trans rfl
      have r1 : wr.cell? ⟨w.heap.size + 1, 1, none⟩ = some (.slice none 0 0) := (hB.cell 1).trans rfl
      have r2 := hB.frozen 0
      have r3 := hB.frozen 1
      have e0 : ((wr.setCell ⟨w.heap.size + 1, 0, none⟩ (.slice (some ⟨g, 0, none⟩) k c')).setCell ⟨w.heap.size + 1, 1, none⟩ (.slice (some ⟨g', 0, none⟩) k d')).cell? ⟨w.heap.size + 1, 0, none⟩ = some (.slice (some ⟨g, 0, none⟩) k c') := (((hB.set_ 0 (.slice (some ⟨g, 0, none⟩) k c')).set_ 1 (.slice (some ⟨g', 0, none⟩) k d')).cell 0).trans rfl
      have e1 : ((wr.setCell ⟨w.heap.size + 1, 0, none⟩ (.slice (some ⟨g, 0, none⟩) k c')).setCell ⟨w.heap.size + 1, 1, none⟩ (.slice (some ⟨g', 0, none⟩) k d')).cell? ⟨w.heap.size + 1, 1, none⟩ = some (.slice (some ⟨g', 0, none⟩) k d') := (((hB.set_ 0 (.slice (some ⟨g, 0, none⟩) k c')).set_ 1 (.slice (some ⟨g', 0, none⟩) k d')).cell 1).trans rfl
      have HN : Hid (RowAt ((wr.setCell ⟨w.heap.size + 1, 0, none⟩ (.slice (some ⟨g, 0, none⟩) k c')).setCell ⟨w.heap.size + 1, 1, none⟩ (.slice (some ⟨g', 0, none⟩) k d')) g (cores.bX k) ∧ RowAt ((wr.setCell ⟨w.heap.size + 1, 0, none⟩ (.slice (some ⟨g, 0, none⟩) k c')).setCell ⟨w.heap.size + 1, 1, none⟩ (.slice (some ⟨g', 0, none⟩) k d')) g' (cores.bY k) ∧ Fr (fun _ => False) w ((wr.setCell ⟨w.heap.size + 1, 0, none⟩ (.slice (some ⟨g, 0, none⟩) k c')).setCell ⟨w.heap.size + 1, 1, none⟩ (.slice (some ⟨g', 0, none⟩) k d'))) := by
        have hi := HI.out
        rw [pre_full _ LX.out, pre_full _ LY.out] at hi
        exact ⟨(hi.1.far (p := ⟨w.heap.size + 1, 0, none⟩) g3 _).far (p := ⟨w.heap.size + 1, 1, none⟩) g3 _, (hi.2.1.far (p := ⟨w.heap.size + 1, 0, none⟩) g4 _).far (p := ⟨w.heap.size + 1, 1, none⟩) g4 _,
          ((F4.out.trans hi.2.2 (by rintro k (rfl | rfl) <;> exact .inr (by assumption))).setCell (p := ⟨w.heap.size + 1, 0, none⟩) (.inr (by simp)) _).setCell (p := ⟨w.heap.size + 1, 1, none⟩) (.inr (by simp)) _⟩
      clear hB HI S4 R4 R4' F4 B4
      go_wp2
      (try simp only [Exit.inBlock, Exit.then])
      refine bodyPost_ret (by simp [results, Try.results45, go_sem, e0, e1]; try rfl) rfl ?_
      exact ⟨_, _, _, _, rfl, g5, g6, HN.out.1, HN.out.2.1, HN.out.2.2⟩

theorem two {w : World} {t1 t2 : TypeId} {c1 c2 : Array Value} :
    Blk ((w.alloc (.cells c1 t1)).alloc (.cells c2 t2)) w.heap.size t1 c1 ∧ Blk ((w.alloc (.cells c1 t1)).alloc (.cells c2 t2)) (w.heap.size + 1) t2 c2 := by
  refine ⟨(Blk.new w t1 c1).alloc _, ?_⟩
  have := Blk.new (w.alloc (.cells c1 t1)) t2 c2
  simpa using this

theorem rbegin_bad (A A' : Option Addr) (n c m d : Nat) (w : World) (arg : Int) (hbad : (mayB n m && cores.okArg arg) = false) :
    Calls Try.prog 45 #[.agg #[.slice A n c, .slice A' m d], .int .i64 arg] w fun e w' => e = .returned (.tuple #[.agg #[.slice A n c, .slice A' m d], .int .i64 2]) ∧ Fr (fun _ => False) w w' := by
  obtain ⟨W2, hW2⟩ : ∃ W2, W2 = (w.alloc (.cells #[.slice A n c, .slice A' m d] 73)).alloc (.cells #[.slice none 0 0, .slice none 0 0] 73) := ⟨_, rfl⟩
  have F2 : Fr (fun _ => False) w W2 := by rw [hW2]; exact ((Fr.refl _ _).alloc _).alloc _
  have T := two (w := w) (t1 := 73) (t2 := 73) (c1 := #[.slice A n c, .slice A' m d]) (c2 := #[.slice none 0 0, .slice none 0 0])
  rw [← hW2] at T
  have HM := hide (may_any A A' n c m d W2)
  have HF2 := hide F2
  have HT := hide T
  have hc : mayB n m = false ∨ (mayB n m = true ∧ arg < 0) ∨ (mayB n m = true ∧ 4096 < arg) := by
    cases h : mayB n m
    · exact .inl rfl
    · simp [h, cores.okArg] at hbad
      right
      rcases Int.lt_or_le arg 0 with h1 | h1
      · exact .inl ⟨rfl, h1⟩
      · exact .inr ⟨rfl, hbad h1⟩
  clear F2 T hbad
  go_enter Try.func45, Try.ntmps45
  go_wp2_with fail
  go_at_call 78
  rw [← hW2]
  refine HM.out.mono ?_
  rintro e w1 ⟨rfl, hf⟩
  have F3 := hide (HF2.out.then_ hf)
  have hA := HT.out.1.fr hf id
  have hB := HT.out.2.fr hf id
  have k0 : w1.cell? ⟨w.heap.size, 0, none⟩ = some (.slice A n c) := (hA.cell 0).trans rfl
  have k1 : w1.cell? ⟨w.heap.size, 1, none⟩ = some (.slice A' m d) := (hA.cell 1).trans rfl
  have r0 : w1.cell? ⟨w.heap.size + 1, 0, none⟩ = some (.slice none 0 0) := (hB.cell 0).trans rfl
  have r1 : w1.cell? ⟨w.heap.size + 1, 1, none⟩ = some (.slice none 0 0) := (hB.cell 1).trans rfl
  have r2 := hB.frozen 0
  have r3 := hB.frozen 1
  have e0 : ((w1.setCell ⟨w.heap.size + 1, 0, none⟩ (.slice A n c)).setCell ⟨w.heap.size + 1, 1, none⟩ (.slice A' m d)).cell? ⟨w.heap.size + 1, 0, none⟩ = some (.slice A n c) := (((hB.set_ 0 (.slice A n c)).set_ 1 (.slice A' m d)).cell 0).trans rfl
  have e1 : ((w1.setCell ⟨w.heap.size + 1, 0, none⟩ (.slice A n c)).setCell ⟨w.heap.size + 1, 1, none⟩ (.slice A' m d)).cell? ⟨w.heap.size + 1, 1, none⟩ = some (.slice A' m d) := (((hB.set_ 0 (.slice A n c)).set_ 1 (.slice A' m d)).cell 1).trans rfl
  have HN := hide ((F3.out.setCell (p := ⟨w.heap.size + 1, 0, none⟩) (.inr (by simp)) (.slice A n c)).setCell (p := ⟨w.heap.size + 1, 1, none⟩) (.inr (by simp)) (.slice A' m d))
  clear hW2 hf F3 hA hB HT HF2 HM
  rcases hc with hm | ⟨hm, ha⟩ | ⟨hm, ha⟩
  all_goals
    rw [hm]
    clear hm
    go_wp2
  all_goals
    (try simp only [Exit.inBlock, Exit.then])
    refine bodyPost_ret (by simp [results, Try.results45, go_sem, e0, e1]; try rfl) rfl ?_
    exact ⟨rfl, HN.out⟩

set_option maxHeartbeats 4000000 in
theorem rshard_ok (A A' AL : Option Addr) (n c m d q cL : Nat) (fr to : Int) (L : List (List Int)) (xs ys : List Nat) (w : World) (ha : Reads w w.heap.size 1 A n (xs.map u64v)) (hb : Reads w w.heap.size 1 A' m (ys.map u64v))
    (hx : ∀ x ∈ xs, x < 18446744073709551616) (hy : ∀ x ∈ ys, x < 18446744073709551616) (vs : List Value) (hl : LsAt w vs AL q L) (round : Int) (hm : mayB n m = true) (hfit : fitsB fr to n L = true) (hr : 0 ≤ round) :
    Calls Try.prog 47 #[.agg #[.slice A n c, .slice A' m d], .agg #[.int .i64 fr, .int .i64 to, .slice AL q cL], .int .i64 round] w fun e w' => ∃ g c' g' d', e = .returned (.tuple #[.agg #[.slice (some ⟨g, 0, none⟩) n c', .slice (some ⟨g', 0, none⟩) n d'], .int .i64 0]) ∧ w.heap.size ≤ g ∧ w.heap.size ≤ g' ∧ RowAt w' g xs ∧ RowAt w' g' ((edgs fr L).foldl (cores.step xs) ys) ∧ Fr (fun _ => False) w w' := by
  have hm' : 1 ≤ n ∧ n ≤ 256 ∧ m = n := by simpa [mayB] using hm
  obtain ⟨h1, h2, rfl⟩ := hm'
  have hf' : (0 ≤ fr ∧ fr ≤ to ∧ to ≤ (m : Int) ∧ (L.length : Int) = to - fr) ∧ okLs m L = true := by simpa [fitsB] using hfit
  obtain ⟨fr, rfl⟩ := Int.eq_ofNat_of_zero_le hf'.1.1
  have lx : xs.length = m := by have := ha.1; simpa using this
  have ly : ys.length = m := by have := hb.1; simpa using this
  have hq := hl.1
  have hfq : fr + q ≤ m := by omega
  obtain ⟨W3, hW3⟩ : ∃ W3, W3 = ((w.alloc (.cells #[.slice A m c, .slice A' m d] 73)).alloc (.cells #[.int .i64 (fr : Int), .int .i64 to, .slice AL q cL] 41)).alloc (.cells #[.slice none 0 0, .slice none 0 0] 73) := ⟨_, rfl⟩
  have F3 : Fr (fun _ => False) w W3 := by rw [hW3]; exact (((Fr.refl _ _).alloc _).alloc _).alloc _
  have T := cores.three (w := w) (t1 := 73) (t2 := 41) (t3 := 73) (c1 := #[.slice A m c, .slice A' m d]) (c2 := #[.int .i64 (fr : Int), .int .i64 to, .slice AL q cL]) (c3 := #[.slice none 0 0, .slice none 0 0])
  rw [← hW3] at T
  have HM := hide (may_any A A' m c m d W3)
  have HFT := hide (fun w' (hf : Fr (fun _ => False) W3 w') => rfits_any fr to m q cL AL L w' ((hl.up F3).up hf).lists h2)
  have HP := hide (edgs_ok L fr hf'.2 hf'.1.1 (by omega) hl.lens)
  have HX := hide hx
  have HY := hide hy
  have HRA := hide (ha.up F3)
  have HRB := hide (hb.up F3)
  have HL := hide (hl.up F3)
  have LX := hide lx
  have LY := hide ly
  have HQ := hide hq
  have HF3 := hide F3
  have HT := hide T
  generalize hz : (edgs (fr : Int) L).foldl (cores.step xs) ys = z
  have HZ := hide hz
  clear ha hb hx hy lx ly F3 T hl hf' hq hz
  go_enter Try.func47, Try.ntmps47
  go_wp2_with fail
  go_at_call 78
  rw [← hW3]
  refine HM.out.mono ?_
  rintro e w1 ⟨rfl, hf⟩
  rw [hm]
  have HA := hide hf
  have hA := HT.out.1.fr hf id
  have hB := HT.out.2.1.fr hf id
  have k0 : w1.cell? ⟨w.heap.size, 0, none⟩ = some (.slice A m c) := (hA.cell 0).trans rfl
  have k1 : w1.cell? ⟨w.heap.size, 1, none⟩ = some (.slice A' m d) := (hA.cell 1).trans rfl
  have s0 : w1.cell? ⟨w.heap.size + 1, 0, none⟩ = some (.int .i64 (fr : Int)) := (hB.cell 0).trans rfl
  have s1 : w1.cell? ⟨w.heap.size + 1, 1, none⟩ = some (.int .i64 to) := (hB.cell 1).trans rfl
  have s2 : w1.cell? ⟨w.heap.size + 1, 2, none⟩ = some (.slice AL q cL) := (hB.cell 2).trans rfl
  clear hf hA hB hW3 hm HM
  go_wp2_with fail
  go_at_call 81
  refine (HFT.out w1 HA.out).mono ?_
  rintro e w2 ⟨rfl, hf⟩
  rw [hfit]
  have HA2 := hide (HA.out.then_ hf)
  have k0' := hf.cell k0 id
  have k1' := hf.cell k1 id
  clear hf k0 k1 s0 s1 s2 hfit HFT HA
  have HC := hide (copy_any A A' m c m d xs ys w2 (HRA.out.up HA2.out) (HRB.out.up HA2.out) h1 h1 h2 h2 HX.out HY.out)
  go_wp2_with fail
  go_at_call 79
  refine HC.out.mono ?_
  rintro e w3 ⟨g, g', c', d', rfl, hg, hg', hgg, hr1, hr1', hf⟩
  obtain ⟨W4, hW4⟩ : ∃ W4, W4 = w3.alloc (.cells #[.slice (some ⟨g, 0, none⟩) m c', .slice (some ⟨g', 0, none⟩) m d'] 73) := ⟨_, rfl⟩
  have F24 : Fr (fun _ => False) w2 W4 := by rw [hW4]; exact hf.alloc _
  have t4 : Blk W4 w3.heap.size 73 #[.slice (some ⟨g, 0, none⟩) m c', .slice (some ⟨g', 0, none⟩) m d'] := by rw [hW4]; exact Blk.new _ _ _
  have r4 : RowAt W4 g xs := by rw [hW4]; exact hr1.alloc _
  have r4' : RowAt W4 g' ys := by rw [hW4]; exact hr1'.alloc _
  have F34 := HA2.out.then_ F24
  have bR := HT.out.1.fr F34 id
  have bS := HT.out.2.1.fr F34 id
  have bE := HT.out.2.2.fr F34 id
  have l1 := (HT.out.2.2.fr HA2.out id).lt
  have l2 := hr1.lt
  have l3 := hr1'.lt
  have l4 : w2.heap.size ≤ W4.heap.size := F24.size
  obtain ⟨vs2, HN⟩ := (HL.out.up HA2.out).lists.name
  have HW : Hid (∀ wr, Fr (fun k => k = g') W4 wr → wr.cell? ⟨w3.heap.size, 0, none⟩ = some (.slice (some ⟨g, 0, none⟩) m c') ∧ wr.cell? ⟨w3.heap.size, 1, none⟩ = some (.slice (some ⟨g', 0, none⟩) m d') ∧
      wr.cell? ⟨w.heap.size, 0, none⟩ = some (.slice A m c) ∧ wr.cell? ⟨w.heap.size + 1, 0, none⟩ = some (.int .i64 (fr : Int)) ∧ wr.cell? ⟨w.heap.size + 1, 2, none⟩ = some (.slice AL q cL) ∧ LsAt wr vs2 AL q L ∧ Reads wr wr.heap.size 1 A m (xs.map u64v) ∧
      RowAt wr g xs ∧ Blk wr (w.heap.size + 2) 73 #[.slice none 0 0, .slice none 0 0] ∧ Fr (fun _ => False) w wr) := by
    intro wr hF
    have F2r : Fr (fun k => k = g') w2 wr := (F24.mono (fun _ h => h.elim)).trans hF (fun _ h => .inl h)
    refine ⟨hF.cell ((t4.cell 0).trans rfl) (by simp; omega), hF.cell ((t4.cell 1).trans rfl) (by simp; omega), hF.cell ((bR.cell 0).trans rfl) (by simp; omega), hF.cell ((bS.cell 0).trans rfl) (by simp; omega), hF.cell ((bS.cell 2).trans rfl) (by simp; omega),
      HN _ _ F2r (Nat.le_refl _) (fun k h => by omega), ((HRA.out.up HA2.out).fr F2r (Nat.le_refl _) (fun k h => by omega)).more F2r.size, r4.fr hF (fun h => hgg h), bE.fr hF (by omega), (HF3.out.then_ F34).trans hF (fun k h => .inr (by have := HF3.out.size; have := HA2.out.size; omega))⟩
  have HI0 : Hid (∃ s, RowAt W4 g' s ∧ s.length = m ∧ Togo (cores.step xs) (fun e => (0 ≤ e.1 ∧ e.1 < (m : Int)) ∧ (0 ≤ e.2.1 ∧ e.2.1 < (m : Int)) ∧ 1 ≤ e.2.2 ∧ e.2.2 ≤ 9223372036854775807) z s (edgs ((fr : Int) + (0 : Nat)) (L.drop 0)) ∧ Fr (fun k => k = g') W4 W4) :=
    ⟨ys, r4', LY.out, ⟨by rw [← HZ.out]; simp, by simpa using HP.out⟩, Fr.refl _ _⟩
  clear k0' k1' hr1 hr1' hf F24 t4 r4 r4' F34 bR bS bE HN HP HRA HRB HL HF3 HT HA2 HC HY HZ
  go_wp2_with fail
  rw [← hW4]
  clear hW4
  go_loopw [9] (fun i wr => ∃ k : Nat, k ≤ q ∧ i = .int .i64 k ∧ Hid (∃ s, RowAt wr g' s ∧ s.length = m ∧ Togo (cores.step xs) (fun e => (0 ≤ e.1 ∧ e.1 < (m : Int)) ∧ (0 ≤ e.2.1 ∧ e.2.1 < (m : Int)) ∧ 1 ≤ e.2.2 ∧ e.2.2 ≤ 9223372036854775807) z s (edgs ((fr : Int) + k) (L.drop k)) ∧ Fr (fun k => k = g') W4 wr)) (fun i _ => q - (intOf i).toNat)
  case atStart => exact ⟨0, by omega, rfl, HI0⟩
  case round =>
    obtain ⟨k, hk, rfl, HK⟩ := hrel
    obtain ⟨wo, rfl⟩ : ∃ wo : World, wo = wr := ⟨_, rfl⟩
    obtain ⟨s, hs, hsl, ht, hF⟩ := HK.out
    obtain ⟨q0, q1, q2, q3, q4, hLs, _⟩ := HW.out _ hF
    by_cases hlt : k < q
    · obtain ⟨b, o, AL', cL', l, rfl, hb, hd, hc, hrl, hmx, hvk⟩ := hLs.at_ hlt
      rw [hd] at ht
      have HI : Hid (∃ s, RowAt wo g' s ∧ s.length = m ∧ Togo (cores.step xs) (fun e => (0 ≤ e.1 ∧ e.1 < (m : Int)) ∧ (0 ≤ e.2.1 ∧ e.2.1 < (m : Int)) ∧ 1 ≤ e.2.2 ∧ e.2.2 ≤ 9223372036854775807) z s ((l.drop 0).map (fun v => ((fr : Int) + k, v, l.length)) ++ edgs ((fr : Int) + k + 1) (L.drop (k + 1))) ∧ Fr (fun k => k = g') W4 wo) := ⟨s, hs, hsl, ht, hF⟩
      have HR : Hid (∀ wr, Fr (fun k => k = g') W4 wr → Reads wr wr.heap.size 1 AL' l.length (l.map (.int .i64)) ∧ wr.cell? ⟨b, o + k, none⟩ = some (.slice AL' l.length cL')) := by
        intro w' h
        obtain ⟨b2, o2, A2, c2, l2, e0, _, hd2, hc2, hr2, _, hv2⟩ := (HW.out w' h).2.2.2.2.2.1.at_ hlt
        rw [hd] at hd2
        obtain ⟨rfl, _⟩ := List.cons.inj hd2
        injection e0 with e0
        injection e0 with e1 e2
        subst e1
        subst e2
        rw [hvk] at hv2
        injection hv2 with hv2
        injection hv2 with e1 e2 e3
        rw [e1, e3]
        exact ⟨hr2, hc2⟩
      clear ht hs hsl hF hd HK hrl hvk hLs
      generalize hql : l.length = ql at *
      go_wp2_with fail
      go_loopw [11] (fun i wr => ∃ j : Nat, j ≤ ql ∧ i = .int .i64 j ∧ Hid (∃ s, RowAt wr g' s ∧ s.length = m ∧ Togo (cores.step xs) (fun e => (0 ≤ e.1 ∧ e.1 < (m : Int)) ∧ (0 ≤ e.2.1 ∧ e.2.1 < (m : Int)) ∧ 1 ≤ e.2.2 ∧ e.2.2 ≤ 9223372036854775807) z s ((l.drop j).map (fun v => ((fr : Int) + k, v, ql)) ++ edgs ((fr : Int) + k + 1) (L.drop (k + 1))) ∧ Fr (fun k => k = g') W4 wr)) (fun i _ => ql - (intOf i).toNat)
      case atStart => exact ⟨0, by omega, rfl, HI⟩
      case round =>
        obtain ⟨j, hj, rfl, HJ⟩ := hrel
        clear q0 q1 q2 q3 q4 hc hb
        obtain ⟨s, hs, hsl, ht, hF⟩ := HJ.out
        obtain ⟨q0, q1, q2, q3, q4, _, hRX, _⟩ := HW.out _ hF
        obtain ⟨hRL, hc⟩ := HR.out _ hF
        by_cases hlt2 : j < ql
        · obtain ⟨b2, o2, v, rfl, hb2, hd2, hc2⟩ := ints_at hRL hlt2
          rw [hd2] at ht
          have hX := ht.next
          obtain ⟨⟨hu0, hu1⟩, ⟨hv0, hv1⟩, hk0, hk1⟩ := hX.2
          simp only at hu0 hu1 hv0 hv1 hk0 hk1
          obtain ⟨v, rfl⟩ := Int.eq_ofNat_of_zero_le hv0
          obtain ⟨b3, o3, rfl, HU⟩ := reads_u64 hRX h1
          have hc3 := HU.out (fr + k) (by omega)
          have hc4 := HU.out v (by omega)
          have hv2 : v < m := by omega
          have hu2 : fr + k < m := by omega
          have HX1 := hide hX.1
          have SV : Hid (cores.step xs s ((fr : Int) + k, (v : Int), ql) = if cores.both xs (fr + k) v then cores.inc (cores.inc s (fr + k)) v else s) := by
            simp [cores.step, Hid, show ((fr : Int) + (k : Int)).toNat = fr + k by omega]
          by_cases hxu : xs.getD (fr + k) 0 = 0
          · have hb : cores.both xs (fr + k) v = false := by simp only [cores.both, hxu, ne_eq, not_true_eq_false, false_and, decide_false]
            have HZ : Hid (∃ s, RowAt wr g' s ∧ s.length = m ∧ Togo (cores.step xs) (fun e => (0 ≤ e.1 ∧ e.1 < (m : Int)) ∧ (0 ≤ e.2.1 ∧ e.2.1 < (m : Int)) ∧ 1 ≤ e.2.2 ∧ e.2.2 ≤ 9223372036854775807) z s ((l.drop (j + 1)).map (fun v => ((fr : Int) + k, v, ql)) ++ edgs ((fr : Int) + k + 1) (L.drop (k + 1))) ∧ Fr (fun k => k = g') W4 wr) := by
              have h := HX1.out
              rw [SV.out, hb] at h
              exact ⟨s, hs, hsl, h, hF⟩
            rw [hxu] at hc3
            clear hX hd2 ht hs hsl HJ hRL hRX hF hxu hb HU hc4
            go_wp2
            go_roundw
            case rel => exact ⟨j + 1, by omega, by go_num, HZ⟩
            case measure => simp [intOf]; omega
          · have hbu : ((xs.getD (fr + k) 0 : Nat) : Int) ≠ 0 := by omega
            have hbe : (((xs.getD (fr + k) 0 : Nat) : Int) != 0) = true := bneT hbu
            by_cases hxv : xs.getD v 0 = 0
            · have hb : cores.both xs (fr + k) v = false := by simp only [cores.both, hxv, ne_eq, not_true_eq_false, and_false, decide_false]
              have HZ : Hid (∃ s, RowAt wr g' s ∧ s.length = m ∧ Togo (cores.step xs) (fun e => (0 ≤ e.1 ∧ e.1 < (m : Int)) ∧ (0 ≤ e.2.1 ∧ e.2.1 < (m : Int)) ∧ 1 ≤ e.2.2 ∧ e.2.2 ≤ 9223372036854775807) z s ((l.drop (j + 1)).map (fun v => ((fr : Int) + k, v, ql)) ++ edgs ((fr : Int) + k + 1) (L.drop (k + 1))) ∧ Fr (fun k => k = g') W4 wr) := by
                have h := HX1.out
                rw [SV.out, hb] at h
                exact ⟨s, hs, hsl, h, hF⟩
              rw [hxv] at hc4
              generalize xs.getD (fr + k) 0 = x1 at *
              clear hX hd2 ht hs hsl HJ hRL hRX hF hxu hxv hb HU hbu
              go_wp2
              go_roundw
              case rel => exact ⟨j + 1, by omega, by go_num, HZ⟩
              case measure => simp [intOf]; omega
            · have hbv : ((xs.getD v 0 : Nat) : Int) ≠ 0 := by omega
              have hbf : (((xs.getD v 0 : Nat) : Int) != 0) = true := bneT hbv
              have hb : cores.both xs (fr + k) v = true := decide_eq_true ⟨hxu, hxv⟩
              have hcu := hs.cell (i := fr + k) (by omega)
              have hfu := hs.frozen (fr + k)
              have hw1 := cores.add_one (s.getD (fr + k) 0)
              have H1 := hide (And.intro (hs.set_ (i := fr + k) (y := cores.up (s.getD (fr + k) 0)) (by omega) (cores.up_lt _)) (And.intro (hF.setCell (p := ⟨g', fr + k, none⟩) (.inl rfl) (.int .u64 ((cores.up (s.getD (fr + k) 0) : Nat) : Int))) ((cores.inc_len s (fr + k)).trans hsl)))
              have HT1 : Hid (Togo (cores.step xs) (fun e => (0 ≤ e.1 ∧ e.1 < (m : Int)) ∧ (0 ≤ e.2.1 ∧ e.2.1 < (m : Int)) ∧ 1 ≤ e.2.2 ∧ e.2.2 ≤ 9223372036854775807) z (cores.inc (cores.inc s (fr + k)) v) ((l.drop (j + 1)).map (fun v => ((fr : Int) + k, v, ql)) ++ edgs ((fr : Int) + k + 1) (L.drop (k + 1)))) := by
                have h := HX1.out
                rw [SV.out, hb] at h
                exact h
              change Hid (RowAt _ _ (cores.inc s (fr + k)) ∧ _ ∧ _) at H1
              generalize cores.inc s (fr + k) = s1 at *
              generalize s.getD (fr + k) 0 = y1 at *
              generalize xs.getD (fr + k) 0 = x1 at *
              generalize xs.getD v 0 = x2 at *
              clear hX hd2 ht hs hsl HJ hRL hRX hF hxu hxv hb HU hbu hbv SV HX1
              go_upto_region 14 with (fail)
              generalize wr.setCell ⟨g', fr + k, none⟩ (.int .u64 ((cores.up y1 : Nat) : Int)) = wr1 at *
              clear q0 q1 q2 q3 q4 hc hc2 hc3 hc4 hcu hfu hw1
              obtain ⟨q0, q1, q2, q3, q4, _, _, _⟩ := HW.out _ H1.out.2.1
              obtain ⟨_, hc⟩ := HR.out _ H1.out.2.1
              have hcv := H1.out.1.cell (i := v) (by have := H1.out.2.2; omega)
              have hfv := H1.out.1.frozen v
              have hw2 := cores.add_one (s1.getD v 0)
              have HZ : Hid (∃ s, RowAt (wr1.setCell ⟨g', v, none⟩ (.int .u64 ((cores.up (s1.getD v 0) : Nat) : Int))) g' s ∧ s.length = m ∧ Togo (cores.step xs) (fun e => (0 ≤ e.1 ∧ e.1 < (m : Int)) ∧ (0 ≤ e.2.1 ∧ e.2.1 < (m : Int)) ∧ 1 ≤ e.2.2 ∧ e.2.2 ≤ 9223372036854775807) z s ((l.drop (j + 1)).map (fun v => ((fr : Int) + k, v, ql)) ++ edgs ((fr : Int) + k + 1) (L.drop (k + 1))) ∧ Fr (fun k => k = g') W4 (wr1.setCell ⟨g', v, none⟩ (.int .u64 ((cores.up (s1.getD v 0) : Nat) : Int)))) :=
                ⟨cores.inc s1 v, H1.out.1.set_ (i := v) (y := cores.up (s1.getD v 0)) (by have := H1.out.2.2; omega) (cores.up_lt _), (cores.inc_len s1 v).trans H1.out.2.2, HT1.out, H1.out.2.1.setCell (p := ⟨g', v, none⟩) (.inl rfl) _⟩
              generalize s1.getD v 0 = y2 at *
              go_wp2
              go_roundw
              case rel => exact ⟨j + 1, by omega, by go_num, HZ⟩
              case measure => simp [intOf]; omega
        · have HZ : Hid (∃ s, RowAt wr g' s ∧ s.length = m ∧ Togo (cores.step xs) (fun e => (0 ≤ e.1 ∧ e.1 < (m : Int)) ∧ (0 ≤ e.2.1 ∧ e.2.1 < (m : Int)) ∧ 1 ≤ e.2.2 ∧ e.2.2 ≤ 9223372036854775807) z s (edgs ((fr : Int) + (k + 1 : Nat)) (L.drop (k + 1))) ∧ Fr (fun k => k = g') W4 wr) := by
            rw [List.drop_of_length_le (by omega)] at ht
            refine ⟨s, hs, hsl, ?_, hF⟩
            rw [show (fr : Int) + ((k + 1 : Nat) : Int) = fr + k + 1 by omega]
            exact ht
          clear ht hs hsl hF HJ hRL hRX
          go_wp2
          go_roundw
          case rel => exact ⟨k + 1, by omega, by go_num, HZ⟩
          case measure => simp [intOf]; omega
    · obtain ⟨_, _, _, _, _, _, _, hrg, hB, hFF⟩ := HW.out _ hF
      have HZ : RowAt wo g' z := by
        rw [List.drop_of_length_le (by rw [← HQ.out]; omega)] at ht
        rw [ht.1]
        exact hs
      have r0 : wo.cell? ⟨w.heap.size + 2, 0, none⟩ = some (.slice none 0 0) := (hB.cell 0).trans rfl
      have r1 : wo.cell? ⟨w.heap.size + 2, 1, none⟩ = some (.slice none 0 0) := (hB.cell 1).trans rfl
      have r2 := hB.frozen 0
      have r3 := hB.frozen 1
      have e0 := (((hB.set_ 0 (.slice (some ⟨g, 0, none⟩) m c')).set_ 1 (.slice (some ⟨g', 0, none⟩) m d')).cell 0)
      have e1 := (((hB.set_ 0 (.slice (some ⟨g, 0, none⟩) m c')).set_ 1 (.slice (some ⟨g', 0, none⟩) m d')).cell 1)
      simp at e0 e1
      have g3 : g ≠ w.heap.size + 2 := by omega
      have g4 : g' ≠ w.heap.size + 2 := by omega
      have HN := hide (show RowAt ((wo.setCell ⟨w.heap.size + 2, 0, none⟩ (.slice (some ⟨g, 0, none⟩) m c')).setCell ⟨w.heap.size + 2, 1, none⟩ (.slice (some ⟨g', 0, none⟩) m d')) g xs ∧ RowAt ((wo.setCell ⟨w.heap.size + 2, 0, none⟩ (.slice (some ⟨g, 0, none⟩) m c')).setCell ⟨w.heap.size + 2, 1, none⟩ (.slice (some ⟨g', 0, none⟩) m d')) g' z ∧ Fr (fun _ => False) w ((wo.setCell ⟨w.heap.size + 2, 0, none⟩ (.slice (some ⟨g, 0, none⟩) m c')).setCell ⟨w.heap.size + 2, 1, none⟩ (.slice (some ⟨g', 0, none⟩) m d')) from
        ⟨(hrg.far (p := ⟨w.heap.size + 2, 0, none⟩) g3 _).far (p := ⟨w.heap.size + 2, 1, none⟩) g3 _, (HZ.far (p := ⟨w.heap.size + 2, 0, none⟩) g4 _).far (p := ⟨w.heap.size + 2, 1, none⟩) g4 _, (hFF.setCell (p := ⟨w.heap.size + 2, 0, none⟩) (.inr (by simp)) _).setCell (p := ⟨w.heap.size + 2, 1, none⟩) (.inr (by simp)) _⟩)
      clear hB hrg HZ hFF hs hsl ht hF HK HW HI0
      go_wp2_with fail
      (try simp only [Exit.inBlock, Exit.then])
      refine bodyPost_ret (by simp [results, Try.results47, go_sem, e0, e1]; try rfl) rfl ?_
      exact ⟨_, _, _, _, rfl, by omega, by omega, HN.out.1, HN.out.2.1, HN.out.2.2⟩

theorem rshard_bad (A A' AL : Option Addr) (n c m d q cL : Nat) (fr to : Int) (L : List (List Int)) (w : World) (hn : n ≤ 256) (hl : ListsAt w w.heap.size AL q L) (round : Int) (hbad : (mayB n m && fitsB fr to n L && decide (0 ≤ round)) = false) :
    Calls Try.prog 47 #[.agg #[.slice A n c, .slice A' m d], .agg #[.int .i64 fr, .int .i64 to, .slice AL q cL], .int .i64 round] w fun e w' => e = .returned (.tuple #[.agg #[.slice A n c, .slice A' m d], .int .i64 2]) ∧ Fr (fun _ => False) w w' := by
  obtain ⟨W3, hW3⟩ : ∃ W3, W3 = ((w.alloc (.cells #[.slice A n c, .slice A' m d] 73)).alloc (.cells #[.int .i64 fr, .int .i64 to, .slice AL q cL] 41)).alloc (.cells #[.slice none 0 0, .slice none 0 0] 73) := ⟨_, rfl⟩
  have F3 : Fr (fun _ => False) w W3 := by rw [hW3]; exact (((Fr.refl _ _).alloc _).alloc _).alloc _
  have T := cores.three (w := w) (t1 := 73) (t2 := 41) (t3 := 73) (c1 := #[.slice A n c, .slice A' m d]) (c2 := #[.int .i64 fr, .int .i64 to, .slice AL q cL]) (c3 := #[.slice none 0 0, .slice none 0 0])
  rw [← hW3] at T
  have HM := hide (may_any A A' n c m d W3)
  have HFT := hide (fun w' (hf : Fr (fun _ => False) W3 w') => rfits_any fr to n q cL AL L w' ((hl.up F3).up hf) hn)
  have HF3 := hide F3
  have HT := hide T
  have key : Hid (∀ w1, Fr (fun _ => False) W3 w1 → w1.cell? ⟨w.heap.size, 0, none⟩ = some (.slice A n c) ∧ w1.cell? ⟨w.heap.size, 1, none⟩ = some (.slice A' m d) ∧ w1.cell? ⟨w.heap.size + 2, 0, none⟩ = some (.slice none 0 0) ∧ w1.cell? ⟨w.heap.size + 2, 1, none⟩ = some (.slice none 0 0) ∧
      w1.frozen? ⟨w.heap.size + 2, 0, none⟩ = false ∧ w1.frozen? ⟨w.heap.size + 2, 1, none⟩ = false ∧
      ((w1.setCell ⟨w.heap.size + 2, 0, none⟩ (.slice A n c)).setCell ⟨w.heap.size + 2, 1, none⟩ (.slice A' m d)).cell? ⟨w.heap.size + 2, 0, none⟩ = some (.slice A n c) ∧ ((w1.setCell ⟨w.heap.size + 2, 0, none⟩ (.slice A n c)).setCell ⟨w.heap.size + 2, 1, none⟩ (.slice A' m d)).cell? ⟨w.heap.size + 2, 1, none⟩ = some (.slice A' m d) ∧
      Hid (Fr (fun _ => False) w ((w1.setCell ⟨w.heap.size + 2, 0, none⟩ (.slice A n c)).setCell ⟨w.heap.size + 2, 1, none⟩ (.slice A' m d)))) := by
    intro w1 hf
    have hA := T.1.fr hf id
    have hB := T.2.2.fr hf id
    exact ⟨(hA.cell 0).trans rfl, (hA.cell 1).trans rfl, (hB.cell 0).trans rfl, (hB.cell 1).trans rfl, hB.frozen 0, hB.frozen 1, (((hB.set_ 0 (.slice A n c)).set_ 1 (.slice A' m d)).cell 0).trans rfl, (((hB.set_ 0 (.slice A n c)).set_ 1 (.slice A' m d)).cell 1).trans rfl,
      (((F3.then_ hf).setCell (p := ⟨w.heap.size + 2, 0, none⟩) (.inr (by simp)) (.slice A n c)).setCell (p := ⟨w.heap.size + 2, 1, none⟩) (.inr (by simp)) (.slice A' m d))⟩
  have hcs : mayB n m = false ∨ (mayB n m = true ∧ fitsB fr to n L = false) ∨ (mayB n m = true ∧ fitsB fr to n L = true ∧ round < 0) := by
    cases h : mayB n m
    · exact .inl rfl
    · cases h' : fitsB fr to n L
      · exact .inr (.inl ⟨rfl, rfl⟩)
      · simp [h, h'] at hbad
        exact .inr (.inr ⟨rfl, rfl, hbad⟩)
  clear F3 T hl hbad
  go_enter Try.func47, Try.ntmps47
  go_wp2_with fail
  go_at_call 78
  rw [← hW3]
  refine HM.out.mono ?_
  rintro e w1 ⟨rfl, hf⟩
  have HA := hide hf
  have hB := HT.out.2.1.fr hf id
  have s0 : w1.cell? ⟨w.heap.size + 1, 0, none⟩ = some (.int .i64 fr) := (hB.cell 0).trans rfl
  have s1 : w1.cell? ⟨w.heap.size + 1, 1, none⟩ = some (.int .i64 to) := (hB.cell 1).trans rfl
  have s2 : w1.cell? ⟨w.heap.size + 1, 2, none⟩ = some (.slice AL q cL) := (hB.cell 2).trans rfl
  obtain ⟨k0, k1, r0, r1, r2, r3, e0, e1, HN⟩ := key.out _ hf
  clear hf hB hW3
  rcases hcs with hm | ⟨hm, hfit⟩ | ⟨hm, hfit, hr⟩
  · rw [hm]
    clear hm
    go_wp2
    (try simp only [Exit.inBlock, Exit.then])
    refine bodyPost_ret (by simp [results, Try.results47, go_sem, e0, e1]; try rfl) rfl ?_
    exact ⟨rfl, HN.out⟩
  · rw [hm]
    clear hm
    go_wp2_with fail
    go_at_call 81
    refine (HFT.out w1 HA.out).mono ?_
    rintro e w2 ⟨rfl, hf⟩
    rw [hfit]
    clear k0 k1 r0 r1 r2 r3 e0 e1 HN s0 s1 s2
    obtain ⟨k0, k1, r0, r1, r2, r3, e0, e1, HN⟩ := key.out _ (HA.out.then_ hf)
    clear hf
    go_wp2
    (try simp only [Exit.inBlock, Exit.then])
    refine bodyPost_ret (by simp [results, Try.results47, go_sem, e0, e1]; try rfl) rfl ?_
    exact ⟨rfl, HN.out⟩
  · rw [hm]
    clear hm
    go_wp2_with fail
    go_at_call 81
    refine (HFT.out w1 HA.out).mono ?_
    rintro e w2 ⟨rfl, hf⟩
    rw [hfit]
    clear k0 k1 r0 r1 r2 r3 e0 e1 HN s0 s1 s2
    obtain ⟨k0, k1, r0, r1, r2, r3, e0, e1, HN⟩ := key.out _ (HA.out.then_ hf)
    clear hf
    go_wp2
    (try simp only [Exit.inBlock, Exit.then])
    refine bodyPost_ret (by simp [results, Try.results47, go_sem, e0, e1]; try rfl) rfl ?_
    exact ⟨rfl, HN.out⟩

end Go.Proofs.Ytknmoijbnplnoaa.k20
