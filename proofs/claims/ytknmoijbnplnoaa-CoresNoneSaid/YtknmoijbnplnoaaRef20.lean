/- THE REFERENCE OF CHAPTER 20: Copy, May, Fits. -/
import Derived.Test.YtknmoijbnplnoaaCp
import Derived.Test.YtknmoijbnplnoaaRwS
set_option linter.unusedVariables false
set_option maxRecDepth 100000
namespace Go.Proofs.Ytknmoijbnplnoaa.k20
open Go.RowKit

set_option maxHeartbeats 1600000 in
theorem copy_any (A A' : Option Addr) (n c m d : Nat) (xs ys : List Nat) (w : World) (ha : Reads w w.heap.size 1 A n (xs.map u64v)) (hb : Reads w w.heap.size 1 A' m (ys.map u64v)) (h1 : 1 ≤ n) (h2 : 1 ≤ m) (hn : n ≤ 256) (hm : m ≤ 256)
    (hx : ∀ x ∈ xs, x < 18446744073709551616) (hy : ∀ x ∈ ys, x < 18446744073709551616) :
    Calls Try.prog 79 #[.agg #[.slice A n c, .slice A' m d]] w fun e w' => ∃ g g' c' d', e = .returned (.agg #[.slice (some ⟨g, 0, none⟩) n c', .slice (some ⟨g', 0, none⟩) m d']) ∧ w.heap.size ≤ g ∧ w.heap.size ≤ g' ∧ g ≠ g' ∧ RowAt w' g xs ∧ RowAt w' g' ys ∧ Fr (fun _ => False) w w' := by
  obtain ⟨b, q, hA, _⟩ := ha.2 h1
  obtain ⟨b', q', hA', _⟩ := hb.2 h2
  subst hA
  subst hA'
  go_enter Try.func79, Try.ntmps79
  go_wp2
  obtain ⟨W0, hW0⟩ : ∃ W0, W0 = (w.alloc (.cells #[.slice (some ⟨b, q, none⟩) n c, .slice (some ⟨b', q', none⟩) m d] 73)).alloc (.cells #[.slice none 0 0, .slice none 0 0] 73) := ⟨_, rfl⟩
  rw [← hW0]
  have F0 : Fr (fun _ => False) w W0 := by rw [hW0]; exact ((Fr.refl _ _).alloc _).alloc _
  have hs0 : W0.heap.size = w.heap.size + 2 := by rw [hW0]; simp
  have k0 : W0.cell? ⟨w.heap.size, 0, none⟩ = some (.slice (some ⟨b, q, none⟩) n c) := by rw [hW0]; simp
  have k1 : W0.cell? ⟨w.heap.size, 1, none⟩ = some (.slice (some ⟨b', q', none⟩) m d) := by rw [hW0]; simp
  have kb : Blk W0 (w.heap.size + 1) 73 #[.slice none 0 0, .slice none 0 0] := by rw [hW0]; have := Blk.new (w.alloc (.cells #[.slice (some ⟨b, q, none⟩) n c, .slice (some ⟨b', q', none⟩) m d] 73)) 73 #[.slice none 0 0, .slice none 0 0]; simpa using this
  clear hW0
  have hS : ∀ k, k = w.heap.size + 1 → False ∨ w.heap.size ≤ k := fun k h => .inr (by omega)
  have hne : w.heap.size ≠ w.heap.size + 1 := by omega
  go_region_held3 (fun w' => w'.cell? ⟨w.heap.size, 0, none⟩ = some (.slice (some ⟨b, q, none⟩) n c) ∧ w'.cell? ⟨w.heap.size, 1, none⟩ = some (.slice (some ⟨b', q', none⟩) m d) ∧ Fr (fun k => k = w.heap.size + 1) W0 w' ∧ ∃ x y, Blk w' (w.heap.size + 1) 73 #[x, y])
    (first | exact held_step ⟨k0, k1, Fr.refl _ _, _, _, kb⟩ (held_drew _) | exact held_step (by assumption) (held_alloc _ _) | exact held_step (by assumption) (held_alloc' _ _) | exact held_store hne hne (by assumption) | exact held_step (by assumption) hf)
    (first
      | (refine step_copy rfl _ _ rfl _ rfl b q n c w.heap.size xs rfl (ha.fr (F0.trans (held_fr (by assumption)) hS) (Nat.le_refl _) (fun _ h => h.elim)) h1 hn hx ?_; intro g cap w1 hrow hf hge; obtain ⟨x, y, hB⟩ := held_blk (by assumption); have hB' := hB.fr hf id; have c0 : w1.cell? ⟨w.heap.size + 1, 0, none⟩ = some x := hB'.cell 0; have c1 : w1.cell? ⟨w.heap.size + 1, 1, none⟩ = some y := hB'.cell 1; have f0 := hB'.frozen 0; have f1 := hB'.frozen 1; have hBB := hide hB'; clear hB hB')
      | (refine step_copy rfl _ _ rfl _ rfl b' q' m d w.heap.size ys rfl (hb.fr (F0.trans (held_fr (by assumption)) hS) (Nat.le_refl _) (fun _ h => h.elim)) h2 hm hy ?_; intro g cap w1 hrow hf hge; obtain ⟨x, y, hB⟩ := held_blk (by assumption); have hB' := hB.fr hf id; have c0 : w1.cell? ⟨w.heap.size + 1, 0, none⟩ = some x := hB'.cell 0; have c1 : w1.cell? ⟨w.heap.size + 1, 1, none⟩ = some y := hB'.cell 1; have f0 := hB'.frozen 0; have f1 := hB'.frozen 1; have hBB := hide hB'; clear hB hB'))
  all_goals
    rename_i g0 cap0 w0 hr0 hf0 hge0 x0 y0 c00 c10 f00 f10 hBB0 hH
    have hz := hf0.size
    simp at hge0 hge hz
    have hl0 := hr0.lt
    have hr0' : RowAt w1 g0 xs := by first | exact hr0.fr hf id | exact (hr0.alloc _).fr hf id
    have R0 := hide hr0'
    have R1 := hide hrow
    have HFR := hide (F0.trans (held_fr hH) (fun k h => .inr (by omega)))
    have R0' := hide ((R0.out.far (p := ⟨w.heap.size + 1, 0, none⟩) (by simp; omega) (.slice (some ⟨g0, 0, none⟩) n cap0)).far (p := ⟨w.heap.size + 1, 1, none⟩) (by simp; omega) (.slice (some ⟨g, 0, none⟩) m cap))
    have R1' := hide ((R1.out.far (p := ⟨w.heap.size + 1, 0, none⟩) (by simp; omega) (.slice (some ⟨g0, 0, none⟩) n cap0)).far (p := ⟨w.heap.size + 1, 1, none⟩) (by simp; omega) (.slice (some ⟨g, 0, none⟩) m cap))
    have e0 := ((hBB.out.set_ 0 (.slice (some ⟨g0, 0, none⟩) n cap0)).set_ 1 (.slice (some ⟨g, 0, none⟩) m cap)).cell 0
    have e1 := ((hBB.out.set_ 0 (.slice (some ⟨g0, 0, none⟩) n cap0)).set_ 1 (.slice (some ⟨g, 0, none⟩) m cap)).cell 1
    simp at e0 e1
    clear hr0 hrow hr0' hf0 hf c00 c10 f00 f10 x0 y0 ha hb k0 k1 kb hH F0 R0 R1 hBB hBB0 c0 c1 f0 f1
    generalize (w1.setCell ⟨w.heap.size + 1, 0, none⟩ (.slice (some ⟨g0, 0, none⟩) n cap0)).setCell ⟨w.heap.size + 1, 1, none⟩ (.slice (some ⟨g, 0, none⟩) m cap) = W2 at *
    go_wp2
    (try simp only [Exit.inBlock, Exit.then])
    refine bodyPost_ret (by simp [results, Try.results79, go_sem, e0, e1]; try rfl) rfl ?_
    exact ⟨_, _, _, _, rfl, by omega, by omega, by omega, R0'.out, R1'.out, HFR.out⟩

theorem may_any (A A' : Option Addr) (n c m d : Nat) (w : World) :
    Calls Try.prog 78 #[.agg #[.slice A n c, .slice A' m d]] w fun e w' => e = .returned (.bool (mayB n m)) ∧ Fr (fun _ => False) w w' := by
  by_cases h1 : 1 ≤ n
  · by_cases h2 : n ≤ 256
    · by_cases h3 : m = n
      · have hr : mayB n m = true := by simp [mayB]; omega
        have hb : ((m : Int) == (n : Int)) = true := by simp [h3]
        rw [hr]
        clear hr h3
        go_enter Try.func78, Try.ntmps78
        go_wp2
        go_ret
        exact ⟨rfl, (Fr.refl _ _).alloc _⟩
      · have hr : mayB n m = false := by simp [mayB]; omega
        have hb : ((m : Int) == (n : Int)) = false := by simp; omega
        rw [hr]
        clear hr h3
        go_enter Try.func78, Try.ntmps78
        go_wp2
        go_ret
        exact ⟨rfl, (Fr.refl _ _).alloc _⟩
    · have hr : mayB n m = false := by simp [mayB]; omega
      rw [hr]
      clear hr
      go_enter Try.func78, Try.ntmps78
      go_wp2
      go_ret
      exact ⟨rfl, (Fr.refl _ _).alloc _⟩
  · have hr : mayB n m = false := by simp [mayB]; omega
    rw [hr]
    clear hr
    go_enter Try.func78, Try.ntmps78
    go_wp2
    go_ret
    exact ⟨rfl, (Fr.refl _ _).alloc _⟩

theorem rfits_any (fr to : Int) (n m c : Nat) (A : Option Addr) (L : List (List Int)) (w : World) (hl : ListsAt w w.heap.size A m L) (hn : n ≤ 256) :
    Calls Try.prog 81 #[.agg #[.int .i64 fr, .int .i64 to, .slice A m c], .int .i64 n] w fun e w' => e = .returned (.bool (fitsB fr to n L)) ∧ Fr (fun _ => False) w w' := by
  by_cases h1 : fr < 0
  · have hr : fitsB fr to n L = false := by simp [fitsB]; omega
    rw [hr]
    clear hl hr
    go_enter Try.func81, Try.ntmps81
    go_wp2
    all_goals go_ret
    all_goals exact ⟨rfl, (Fr.refl _ _).alloc _⟩
  by_cases h2 : (n : Int) < to
  · have hr : fitsB fr to n L = false := by simp [fitsB]; omega
    rw [hr]
    clear hl hr
    go_enter Try.func81, Try.ntmps81
    go_wp2
    all_goals go_ret
    all_goals exact ⟨rfl, (Fr.refl _ _).alloc _⟩
  by_cases h3 : to < fr
  · have hr : fitsB fr to n L = false := by simp [fitsB]; omega
    rw [hr]
    clear hl hr
    go_enter Try.func81, Try.ntmps81
    go_wp2
    all_goals go_ret
    all_goals exact ⟨rfl, (Fr.refl _ _).alloc _⟩
  by_cases h4 : (m : Int) = to - fr
  · have hb4 : ((m : Int) != to - fr) = false := by simp [h4]
    have hm : m = L.length := hl.1
    have hr : fitsB fr to n L = okLs n L := by
      simp only [fitsB, show (0 ≤ fr ∧ fr ≤ to ∧ to ≤ (n : Int) ∧ (L.length : Int) = to - fr) by omega, and_self, decide_true, Bool.true_and]
    rw [hr]
    have HF := (Fr.refl (fun _ => False) w).alloc (.cells #[.int .i64 fr, .int .i64 to, .slice A m c] 41)
    have hl' := hl.fr HF (Nat.le_refl _) (fun k hk => hk.elim)
    have HF' := hide HF
    have HM := hide hm
    have hm2 : m ≤ 256 := by omega
    have HL := hide hl'
    clear hl hr HF hm hl' h4
    go_enter Try.func81, Try.ntmps81
    go_wp2
    go_loopw [5] (fun i wr => ∃ k : Nat, k ≤ m ∧ i = .int .i64 k ∧ Hid (okLs n L = okLs n (L.drop k)) ∧ wr = w.alloc (.cells #[.int .i64 fr, .int .i64 to, .slice A m c] 41)) (fun i _ => m - (intOf i).toNat)
    case atStart => exact ⟨0, by omega, rfl, hide rfl, rfl⟩
    case round =>
      obtain ⟨k, hk, rfl, HK, rfl⟩ := hrel
      by_cases hlt : k < m
      · obtain ⟨b, o, A', c', l, rfl, hb, hd, hc, hr, hmx⟩ := HL.out.at_ hlt
        have HK' := hide (okLs_next (L' := L) HK.out hd)
        generalize hq : l.length = q at *
        have HQ := hide hq
        clear hd hq HK
        go_wp2
        go_loopw [6] (fun i wr => ∃ j : Nat, j ≤ q ∧ i = .int .i64 j ∧ Hid (okLs n L = ((l.drop j).all (okV n) && okLs n (L.drop (k + 1)))) ∧ wr = w.alloc (.cells #[.int .i64 fr, .int .i64 to, .slice (some ⟨b, o, none⟩) m c] 41)) (fun i _ => q - (intOf i).toNat)
        case atStart => exact ⟨0, by omega, rfl, hide HK'.out, rfl⟩
        case round =>
          obtain ⟨j, hj, rfl, HJ, rfl⟩ := hrel
          by_cases hlt2 : j < q
          · obtain ⟨b2, o2, v, rfl, hb2, hd2, hc2⟩ := ints_at hr hlt2
            by_cases hv : 0 ≤ v ∧ v < n
            · have HJ' := hide (okV_next HJ.out hd2 (by simpa [okV] using hv))
              obtain ⟨hv1, hv2⟩ := hv
              clear hd2 HJ hr
              go_wp2
              go_roundw
              case rel => exact ⟨j + 1, by omega, by go_num, HJ', by first | rfl | trivial⟩
              case measure => simp [intOf]; omega
            · have HJ' := hide (okV_bad HJ.out hd2 (by simpa [okV] using hv))
              clear hd2 HJ hr
              by_cases hv1 : v < 0
              · go_wp2
                go_ret
                exact ⟨by rw [HJ'.out]; rfl, HF'.out⟩
              · have hv2 : (n : Int) ≤ v := by omega
                clear hv
                go_wp2
                go_ret
                exact ⟨by rw [HJ'.out]; rfl, HF'.out⟩
          · have HJ' : Hid (okLs n L = okLs n (L.drop (k + 1))) := by
              have h := HJ.out
              rw [List.drop_of_length_le (by rw [HQ.out]; omega)] at h
              exact hide (by simpa using h)
            go_wp2
            go_roundw
            case rel => exact ⟨k + 1, by omega, by go_num, HJ', by first | rfl | trivial⟩
            case measure => simp [intOf]; omega
      · have HK' : Hid (okLs n L = true) := by
          have h := HK.out
          rw [List.drop_of_length_le (by rw [← HM.out]; omega)] at h
          exact h
        clear HK
        go_wp2
        go_ret
        exact ⟨by rw [HK'.out]; rfl, HF'.out⟩
  · have hb4 : ((m : Int) != to - fr) = true := by simp [h4]
    have hr : fitsB fr to n L = false := by have := hl.1; simp [fitsB]; omega
    rw [hr]
    clear hl hr h4
    go_enter Try.func81, Try.ntmps81
    go_wp2
    go_ret
    exact ⟨rfl, (Fr.refl _ _).alloc _⟩
end Go.Proofs.Ytknmoijbnplnoaa.k20
