/- THE REFERENCE OF CHAPTER 20: Commit, by contract. -/
import Derived.Test.YtknmoijbnplnoaaROp20
set_option linter.unusedVariables false
set_option maxRecDepth 100000
namespace Go.Proofs.Ytknmoijbnplnoaa.k20
open Go.RowKit

set_option maxHeartbeats 4000000 in
theorem rcommit_ok (A A' : Option Addr) (n c m d : Nat) (xs ys : List Nat) (w : World) (ha : Reads w w.heap.size 1 A n (xs.map u64v)) (hb : Reads w w.heap.size 1 A' m (ys.map u64v))
    (hx : ∀ x ∈ xs, x < 18446744073709551616) (hy : ∀ x ∈ ys, x < 18446744073709551616) (arg round : Int) (hm : mayB n m = true) (hmx : arg ≤ 9223372036854775807) :
    Calls Try.prog 49 #[.agg #[.slice A n c, .slice A' m d], .int .i64 arg, .int .i64 round] w fun e w' => ∃ g c' g' d', e = .returned (.tuple #[.agg #[.slice (some ⟨g, 0, none⟩) n c', .slice (some ⟨g', 0, none⟩) n d'], .bool (cores.cDone arg xs ys), .int .i64 0]) ∧ w.heap.size ≤ g ∧ w.heap.size ≤ g' ∧ RowAt w' g (cores.cXs arg xs ys) ∧ RowAt w' g' (cores.cYs arg xs ys) ∧ Fr (fun _ => False) w w' := by
  have hm' : 1 ≤ n ∧ n ≤ 256 ∧ m = n := by simpa [mayB] using hm
  obtain ⟨h1, h2, rfl⟩ := hm'
  have lx : xs.length = m := by have := ha.1; simpa using this
  have ly : ys.length = m := by have := hb.1; simpa using this
  obtain ⟨b1, o1, rfl, _⟩ := reads_u64 ha h1
  obtain ⟨b2, o2, rfl, _⟩ := reads_u64 hb h1
  obtain ⟨W2, hW2⟩ : ∃ W2, W2 = (w.alloc (.cells #[.slice (some ⟨b1, o1, none⟩) m c, .slice (some ⟨b2, o2, none⟩) m d] 73)).alloc (.cells #[.slice none 0 0, .slice none 0 0] 73) := ⟨_, rfl⟩
  have F2 : Fr (fun _ => False) w W2 := by rw [hW2]; exact ((Fr.refl _ _).alloc _).alloc _
  have T := two (w := w) (t1 := 73) (t2 := 73) (c1 := #[.slice (some ⟨b1, o1, none⟩) m c, .slice (some ⟨b2, o2, none⟩) m d]) (c2 := #[.slice none 0 0, .slice none 0 0])
  rw [← hW2] at T
  have HM := hide (may_any (some ⟨b1, o1, none⟩) (some ⟨b2, o2, none⟩) m c m d W2)
  have HX := hide hx
  have HY := hide hy
  have HRA := hide (fun w' (h : Fr (fun _ => False) w w') => ha.up h)
  have HRB := hide (fun w' (h : Fr (fun _ => False) w w') => hb.up h)
  have LX := hide lx
  have LY := hide ly
  have HF2 := hide F2
  have HT := hide T
  have HA := hide ha
  have HB := hide hb
  clear ha hb hx hy lx ly F2 T
  go_enter Try.func49, Try.ntmps49
  go_wp2_with fail
  go_at_call 78
  rw [← hW2]
  refine HM.out.mono ?_
  rintro e w1 ⟨rfl, hf⟩
  rw [hm]
  have F3 := HF2.out.then_ hf
  have B03 := hide (HT.out.1.fr hf id)
  have B13 := hide (HT.out.2.fr hf id)
  have HC := hide (copy_any (some ⟨b1, o1, none⟩) (some ⟨b2, o2, none⟩) m c m d xs ys w1 (HRA.out _ F3) (HRB.out _ F3) h1 h1 h2 h2 HX.out HY.out)
  have HF3 := hide F3
  have k0 : w1.cell? ⟨w.heap.size, 0, none⟩ = some (.slice (some ⟨b1, o1, none⟩) m c) := (B03.out.cell 0).trans rfl
  have k1 : w1.cell? ⟨w.heap.size, 1, none⟩ = some (.slice (some ⟨b2, o2, none⟩) m d) := (B03.out.cell 1).trans rfl
  clear hf F3 hW2 hm HM HF2 HT
  go_wp2_with fail
  go_at_call 79
  refine HC.out.mono ?_
  rintro e w2 ⟨g, g', c', d', rfl, hg, hg', hgg, hr, hr', hf⟩
  have HR := hide hr
  have HR' := hide hr'
  have HF4 := hide (HF3.out.then_ hf)
  have B04 := hide (B03.out.fr hf id)
  have B14 := hide (B13.out.fr hf id)
  have l0 := B03.out.lt
  have l1 := B13.out.lt
  have l2 := hr.lt
  have l3 := hr'.lt
  clear hr hr' hf HC HF3 k0 k1 B03 B13
  go_wp2_with fail
  obtain ⟨W4, hW4⟩ : ∃ W4, W4 = w2.alloc (.cells #[.slice (some ⟨g, 0, none⟩) m c', .slice (some ⟨g', 0, none⟩) m d'] 73) := ⟨_, rfl⟩
  rw [← hW4]
  have S4 := hide (show Blk W4 w2.heap.size 73 #[.slice (some ⟨g, 0, none⟩) m c', .slice (some ⟨g', 0, none⟩) m d'] by rw [hW4]; exact Blk.new _ _ _)
  have R4 := hide (show RowAt W4 g xs by rw [hW4]; exact HR.out.alloc _)
  have R4' := hide (show RowAt W4 g' ys by rw [hW4]; exact HR'.out.alloc _)
  have F4 := hide (show Fr (fun _ => False) w W4 by rw [hW4]; exact HF4.out.alloc _)
  have HW : Hid (∀ wr, Fr (fun k => k = g ∨ k = g') W4 wr → wr.cell? ⟨w2.heap.size, 0, none⟩ = some (.slice (some ⟨g, 0, none⟩) m c') ∧ wr.cell? ⟨w2.heap.size, 1, none⟩ = some (.slice (some ⟨g', 0, none⟩) m d') ∧
      wr.cell? ⟨w.heap.size, 0, none⟩ = some (.slice (some ⟨b1, o1, none⟩) m c) ∧ wr.cell? ⟨w.heap.size, 1, none⟩ = some (.slice (some ⟨b2, o2, none⟩) m d) ∧
      Hid (∀ k, k < m → wr.cell? ⟨b1, o1 + k, none⟩ = some (.int .u64 (xs.getD k 0 : Nat))) ∧ Hid (∀ k, k < m → wr.cell? ⟨b2, o2 + k, none⟩ = some (.int .u64 (ys.getD k 0 : Nat))) ∧
      Blk wr (w.heap.size + 1) 73 #[.slice none 0 0, .slice none 0 0] ∧ Fr (fun _ => False) w wr) := by
    intro wr hF
    have FF : Fr (fun k => k = g ∨ k = g') w wr := (F4.out.mono (fun _ h => h.elim)).trans hF (fun _ h => .inl h)
    have G4 : Fr (fun _ => False) w2 W4 := by rw [hW4]; exact (Fr.refl _ _).alloc _
    have bR := B04.out.fr G4 id
    have bE := B14.out.fr G4 id
    refine ⟨hF.cell ((S4.out.cell 0).trans rfl) (by simp; omega), hF.cell ((S4.out.cell 1).trans rfl) (by simp; omega), hF.cell ((bR.cell 0).trans rfl) (by simp; omega), hF.cell ((bR.cell 1).trans rfl) (by simp; omega),
      reads_u64' (HA.out.fr FF (Nat.le_refl _) (by rintro k (rfl | rfl) <;> omega)) h1, reads_u64' (HB.out.fr FF (Nat.le_refl _) (by rintro k (rfl | rfl) <;> omega)) h1, bE.fr hF (by omega), F4.out.trans hF (by rintro k (rfl | rfl) <;> exact .inr (by omega))⟩
  have g1 : g ≠ w2.heap.size := by omega
  have g2 : g' ≠ w2.heap.size := by omega
  have hgg' : g' ≠ g := fun e => hgg e.symm
  have g3 : g ≠ w.heap.size + 1 := by omega
  have g4 : g' ≠ w.heap.size + 1 := by omega
  have g5 : w.heap.size ≤ g := by omega
  have g6 : w.heap.size ≤ g' := by omega
  have HI0 : Hid (true = cores.cAll arg xs ys 0 ∧ RowAt W4 g (pre (fun i => cores.cX arg (xs.getD i 0) (ys.getD i 0)) 0 xs) ∧ RowAt W4 g' (pre (fun i => cores.cY arg (xs.getD i 0) (ys.getD i 0)) 0 ys) ∧ Fr (fun k => k = g ∨ k = g') W4 W4) := ⟨rfl, by rw [pre_zero]; exact R4.out, by rw [pre_zero]; exact R4'.out, Fr.refl _ _⟩
  clear hW4 HR HR' HF4 B14 B04 l0 l1 l2 l3 hg hg' S4 R4 R4' F4 HA HB HRA HRB
  go_loopw [10, 11] (fun dn i wr => ∃ (b : Bool) (k : Nat), k ≤ m ∧ i = .int .i64 k ∧ dn = .bool b ∧ Hid (b = cores.cAll arg xs ys k ∧ RowAt wr g (pre (fun i => cores.cX arg (xs.getD i 0) (ys.getD i 0)) k xs) ∧ RowAt wr g' (pre (fun i => cores.cY arg (xs.getD i 0) (ys.getD i 0)) k ys) ∧ Fr (fun k => k = g ∨ k = g') W4 wr)) (fun _ i _ => m - (intOf i).toNat)
  case atStart => exact ⟨true, 0, by omega, rfl, rfl, HI0⟩
  case round =>
    obtain ⟨bd, k, hk, rfl, rfl, HI⟩ := hrel
    obtain ⟨q0, q1, q2, q3, HUX, HUY, hB, hFF⟩ := HW.out _ HI.out.2.2.2
    by_cases hlt : k < m
    · have lk1 : k < xs.length := by rw [LX.out]; exact hlt
      have lk2 : k < ys.length := by rw [LY.out]; exact hlt
      have hcx := HUX.out k hlt
      have hcy := HUY.out k hlt
      have hox := HI.out.2.1.cell (i := k) (by rw [pre_len _ (by omega)]; omega)
      have hoy := HI.out.2.2.1.cell (i := k) (by rw [pre_len _ (by omega)]; omega)
      have hfx := HI.out.2.1.frozen k
      have hfy := HI.out.2.2.1.frozen k
      rw [pre_get (fun i => cores.cX arg (xs.getD i 0) (ys.getD i 0)) lk1] at hox
      rw [pre_get (fun i => cores.cY arg (xs.getD i 0) (ys.getD i 0)) lk2] at hoy
      have bx : xs.getD k 0 < 18446744073709551616 := HX.out _ (by simp [List.getD, lk1])
      have by_ : ys.getD k 0 < 18446744073709551616 := HY.out _ (by simp [List.getD, lk2])
      have HN : Hid (∀ b wr', b = (bd && !cores.cD arg (xs.getD k 0) (ys.getD k 0)) → RowAt wr' g ((pre (fun i => cores.cX arg (xs.getD i 0) (ys.getD i 0)) k xs).set k (cores.cX arg (xs.getD k 0) (ys.getD k 0))) → RowAt wr' g' ((pre (fun i => cores.cY arg (xs.getD i 0) (ys.getD i 0)) k ys).set k (cores.cY arg (xs.getD k 0) (ys.getD k 0))) → Fr (fun k => k = g ∨ k = g') W4 wr' →
          b = cores.cAll arg xs ys (k + 1) ∧ RowAt wr' g (pre (fun i => cores.cX arg (xs.getD i 0) (ys.getD i 0)) (k + 1) xs) ∧ RowAt wr' g' (pre (fun i => cores.cY arg (xs.getD i 0) (ys.getD i 0)) (k + 1) ys) ∧ Fr (fun k => k = g ∨ k = g') W4 wr') := by
        intro b wr' hb h1 h2 h3
        rw [pre_set (fun i => cores.cX arg (xs.getD i 0) (ys.getD i 0)) lk1] at h1
        rw [pre_set (fun i => cores.cY arg (xs.getD i 0) (ys.getD i 0)) lk2] at h2
        exact ⟨by rw [hb, cores.cAll_succ, HI.out.1], h1, h2, h3⟩
      have HP : Hid ((pre (fun i => cores.cX arg (xs.getD i 0) (ys.getD i 0)) k xs).getD k 0 = xs.getD k 0 ∧ (pre (fun i => cores.cY arg (xs.getD i 0) (ys.getD i 0)) k ys).getD k 0 = ys.getD k 0 ∧ k < (pre (fun i => cores.cX arg (xs.getD i 0) (ys.getD i 0)) k xs).length ∧ k < (pre (fun i => cores.cY arg (xs.getD i 0) (ys.getD i 0)) k ys).length) :=
        ⟨pre_get (fun i => cores.cX arg (xs.getD i 0) (ys.getD i 0)) lk1, pre_get (fun i => cores.cY arg (xs.getD i 0) (ys.getD i 0)) lk2, by rw [pre_len _ (by omega)]; omega, by rw [pre_len _ (by omega)]; omega⟩
      have HRW := hide HI.out.2
      clear HI lk1 lk2 HUX HUY hB hFF
      generalize pre (fun i => cores.cX arg (xs.getD i 0) (ys.getD i 0)) k xs = px at *
      generalize pre (fun i => cores.cY arg (xs.getD i 0) (ys.getD i 0)) k ys = py at *
      have eY : cores.cY arg (xs.getD k 0) (ys.getD k 0) = 0 := rfl
      by_cases hD : cores.cD arg (xs.getD k 0) (ys.getD k 0) = true
      · have hD' : xs.getD k 0 ≠ 0 ∧ 0 < arg ∧ ((ys.getD k 0 : Nat) : Int) < arg := of_decide_eq_true hD
        obtain ⟨hx0, ha0, hya⟩ := hD'
        have eX : cores.cX arg (xs.getD k 0) (ys.getD k 0) = 0 := by rw [cores.cX, hD]; rfl
        rw [eX, hD, eY] at HN
        have hbx : (((xs.getD k 0 : Nat) : Int) != 0) = true := bneT (by omega)
        have hz3 : IntKind.u64.wrap arg = arg := by simp [IntKind.wrap, IntKind.bits, IntKind.signed]; omega
        have HZ := hide (HN.out false ((wr.setCell ⟨g, k, none⟩ (.int .u64 0)).setCell ⟨g', k, none⟩ (.int .u64 0)) (by simp) ((HRW.out.1.set_ (i := k) (y := 0) HP.out.2.2.1 (by omega)).far (p := ⟨g', k, none⟩) hgg _)
          ((HRW.out.2.1.far (p := ⟨g, k, none⟩) (fun e => hgg e.symm) _).set_ (i := k) (y := 0) HP.out.2.2.2 (by omega)) ((HRW.out.2.2.setCell (p := ⟨g, k, none⟩) (.inl (.inl rfl)) _).setCell (p := ⟨g', k, none⟩) (.inl (.inr rfl)) _))
        generalize xs.getD k 0 = x at *
        generalize ys.getD k 0 = y at *
        clear hD eX eY hx0 HN
        go_wp2
        go_roundw
        case rel => exact ⟨false, k + 1, by omega, by go_num, rfl, HZ⟩
        case measure => simp [intOf]; omega
      · have hD0 : cores.cD arg (xs.getD k 0) (ys.getD k 0) = false := by simpa using hD
        have hD' : ¬ (xs.getD k 0 ≠ 0 ∧ 0 < arg ∧ ((ys.getD k 0 : Nat) : Int) < arg) := of_decide_eq_false hD0
        have eX : cores.cX arg (xs.getD k 0) (ys.getD k 0) = xs.getD k 0 := by rw [cores.cX, hD0]; rfl
        rw [eX, hD0, eY] at HN
        have hcs : xs.getD k 0 = 0 ∨ (xs.getD k 0 ≠ 0 ∧ arg ≤ 0) ∨ (xs.getD k 0 ≠ 0 ∧ 0 < arg ∧ arg ≤ (ys.getD k 0 : Nat)) := by omega
        have HZ := hide (HN.out bd (wr.setCell ⟨g', k, none⟩ (.int .u64 0)) (by simp) (by have e := set_same px k; rw [HP.out.1] at e; rw [e]; exact HRW.out.1.far (p := ⟨g', k, none⟩) hgg _)
          (HRW.out.2.1.set_ (i := k) (y := 0) HP.out.2.2.2 (by omega)) (HRW.out.2.2.setCell (p := ⟨g', k, none⟩) (.inl (.inr rfl)) _))
        generalize xs.getD k 0 = x at *
        generalize ys.getD k 0 = y at *
        clear hD hD0 hD' eX eY HN
        rcases hcs with hx0 | ⟨hx0, ha0⟩ | ⟨hx0, ha0, hya⟩
        · subst hx0
          go_wp2
          go_roundw
          case rel => exact ⟨bd, k + 1, by omega, by go_num, rfl, HZ⟩
          case measure => simp [intOf]; omega
        · have hbx : ((x : Int) != 0) = true := bneT (by omega)
          clear hx0
          go_wp2
          go_roundw
          case rel => exact ⟨bd, k + 1, by omega, by go_num, rfl, HZ⟩
          case measure => simp [intOf]; omega
        · have hbx : ((x : Int) != 0) = true := bneT (by omega)
          have hz3 : IntKind.u64.wrap arg = arg := by simp [IntKind.wrap, IntKind.bits, IntKind.signed]; omega
          clear hx0
          go_wp2
          go_roundw
          case rel => exact ⟨bd, k + 1, by omega, by go_num, rfl, HZ⟩
          case measure => simp [intOf]; omega
    · obtain rfl : k = m := by omega
      have r0 : wr.cell? ⟨w.heap.size + 1, 0, none⟩ = some (.slice none 0 0) := (hB.cell 0).trans rfl
      have r1 : wr.cell? ⟨w.heap.size + 1, 1, none⟩ = some (.slice none 0 0) := (hB.cell 1).trans rfl
      have r2 := hB.frozen 0
      have r3 := hB.frozen 1
      have e0 : ((wr.setCell ⟨w.heap.size + 1, 0, none⟩ (.slice (some ⟨g, 0, none⟩) k c')).setCell ⟨w.heap.size + 1, 1, none⟩ (.slice (some ⟨g', 0, none⟩) k d')).cell? ⟨w.heap.size + 1, 0, none⟩ = some (.slice (some ⟨g, 0, none⟩) k c') := (((hB.set_ 0 (.slice (some ⟨g, 0, none⟩) k c')).set_ 1 (.slice (some ⟨g', 0, none⟩) k d')).cell 0).trans rfl
      have e1 : ((wr.setCell ⟨w.heap.size + 1, 0, none⟩ (.slice (some ⟨g, 0, none⟩) k c')).setCell ⟨w.heap.size + 1, 1, none⟩ (.slice (some ⟨g', 0, none⟩) k d')).cell? ⟨w.heap.size + 1, 1, none⟩ = some (.slice (some ⟨g', 0, none⟩) k d') := (((hB.set_ 0 (.slice (some ⟨g, 0, none⟩) k c')).set_ 1 (.slice (some ⟨g', 0, none⟩) k d')).cell 1).trans rfl
      have HN : Hid (bd = cores.cDone arg xs ys ∧ RowAt ((wr.setCell ⟨w.heap.size + 1, 0, none⟩ (.slice (some ⟨g, 0, none⟩) k c')).setCell ⟨w.heap.size + 1, 1, none⟩ (.slice (some ⟨g', 0, none⟩) k d')) g (cores.cXs arg xs ys) ∧ RowAt ((wr.setCell ⟨w.heap.size + 1, 0, none⟩ (.slice (some ⟨g, 0, none⟩) k c')).setCell ⟨w.heap.size + 1, 1, none⟩ (.slice (some ⟨g', 0, none⟩) k d')) g' (cores.cYs arg xs ys) ∧ Fr (fun _ => False) w ((wr.setCell ⟨w.heap.size + 1, 0, none⟩ (.slice (some ⟨g, 0, none⟩) k c')).setCell ⟨w.heap.size + 1, 1, none⟩ (.slice (some ⟨g', 0, none⟩) k d'))) := by
        have hi := HI.out
        rw [pre_full _ LX.out, pre_full _ LY.out] at hi
        have eX : cores.cXs arg xs ys = (List.range k).map fun i => cores.cX arg (xs.getD i 0) (ys.getD i 0) := by rw [cores.cXs, LX.out]
        have eY : cores.cYs arg xs ys = (List.range k).map fun i => cores.cY arg (xs.getD i 0) (ys.getD i 0) := by rw [cores.cYs, LX.out]
        rw [eX, eY]
        exact ⟨by rw [cores.cDone, LX.out]; exact hi.1, (hi.2.1.far (p := ⟨w.heap.size + 1, 0, none⟩) g3 _).far (p := ⟨w.heap.size + 1, 1, none⟩) g3 _, (hi.2.2.1.far (p := ⟨w.heap.size + 1, 0, none⟩) g4 _).far (p := ⟨w.heap.size + 1, 1, none⟩) g4 _,
          (hFF.setCell (p := ⟨w.heap.size + 1, 0, none⟩) (.inr (by simp)) _).setCell (p := ⟨w.heap.size + 1, 1, none⟩) (.inr (by simp)) _⟩
      clear hB HI hFF HUX HUY
      go_wp2
      (try simp only [Exit.inBlock, Exit.then])
      refine bodyPost_ret (by simp [results, Try.results49, go_sem, e0, e1]; try rfl) rfl ?_
      exact ⟨_, _, _, _, by rw [HN.out.1], g5, g6, HN.out.2.1, HN.out.2.2.1, HN.out.2.2.2⟩

theorem rcommit_bad (A A' : Option Addr) (n c m d : Nat) (w : World) (arg round : Int) (hbad : mayB n m = false) :
    Calls Try.prog 49 #[.agg #[.slice A n c, .slice A' m d], .int .i64 arg, .int .i64 round] w fun e w' => e = .returned (.tuple #[.agg #[.slice A n c, .slice A' m d], .bool false, .int .i64 2]) ∧ Fr (fun _ => False) w w' := by
  obtain ⟨W2, hW2⟩ : ∃ W2, W2 = (w.alloc (.cells #[.slice A n c, .slice A' m d] 73)).alloc (.cells #[.slice none 0 0, .slice none 0 0] 73) := ⟨_, rfl⟩
  have F2 : Fr (fun _ => False) w W2 := by rw [hW2]; exact ((Fr.refl _ _).alloc _).alloc _
  have T := two (w := w) (t1 := 73) (t2 := 73) (c1 := #[.slice A n c, .slice A' m d]) (c2 := #[.slice none 0 0, .slice none 0 0])
  rw [← hW2] at T
  have HM := hide (may_any A A' n c m d W2)
  have HF2 := hide F2
  have HT := hide T
  clear F2 T
  go_enter Try.func49, Try.ntmps49
  go_wp2_with fail
  go_at_call 78
  rw [← hW2]
  refine HM.out.mono ?_
  rintro e w1 ⟨rfl, hf⟩
  have F3 := hide (HF2.out.then_ hf)
  have hA := HT.out.1.fr hf id
  have hB := HT.out.2.fr hf id
  have k0 : w1.cell? ⟨w.heap.size, 0, none⟩ = some (.slice A n c) := (hA.cell 0).trans rfl
  have k1 : w1.cell? ⟨w.heap.size, 1, none⟩ = some (.slice A' m d) := (hA.cell 1).trans rfl
  have r0 : w1.cell? ⟨w.heap.size + 1, 0, none⟩ = some (.slice none 0 0) := (hB.cell 0).trans rfl
  have r1 : w1.cell? ⟨w.heap.size + 1, 1, none⟩ = some (.slice none 0 0) := (hB.cell 1).trans rfl
  have r2 := hB.frozen 0
  have r3 := hB.frozen 1
  have e0 : ((w1.setCell ⟨w.heap.size + 1, 0, none⟩ (.slice A n c)).setCell ⟨w.heap.size + 1, 1, none⟩ (.slice A' m d)).cell? ⟨w.heap.size + 1, 0, none⟩ = some (.slice A n c) := (((hB.set_ 0 (.slice A n c)).set_ 1 (.slice A' m d)).cell 0).trans rfl
  have e1 : ((w1.setCell ⟨w.heap.size + 1, 0, none⟩ (.slice A n c)).setCell ⟨w.heap.size + 1, 1, none⟩ (.slice A' m d)).cell? ⟨w.heap.size + 1, 1, none⟩ = some (.slice A' m d) := (((hB.set_ 0 (.slice A n c)).set_ 1 (.slice A' m d)).cell 1).trans rfl
  have HN := hide ((F3.out.setCell (p := ⟨w.heap.size + 1, 0, none⟩) (.inr (by simp)) (.slice A n c)).setCell (p := ⟨w.heap.size + 1, 1, none⟩) (.inr (by simp)) (.slice A' m d))
  clear hW2 hf F3 hA hB HT HF2 HM
  rw [hbad]
  clear hbad
  go_wp2
  (try simp only [Exit.inBlock, Exit.then])
  refine bodyPost_ret (by simp [results, Try.results49, go_sem, e0, e1]; try rfl) rfl ?_
  exact ⟨rfl, HN.out⟩
end Go.Proofs.Ytknmoijbnplnoaa.k20
