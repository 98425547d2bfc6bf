/- The law's own helpers: are two lists the same; the chapter's examples. -/
import Derived.Test.YtneihcoepacadaaVecCode
set_option linter.unusedVariables false
namespace Go.Proofs.Ytneihcoepacadaa
open Go.RowKit

theorem same_any (A A' : Option Addr) (n c m d B : Nat) (xs ys : List Nat) (w : World) (ha : Reads w B 1 A n (xs.map u64v)) (hb : Reads w B 1 A' m (ys.map u64v)) (hn : n ≤ 9223372036854775807) :
    Calls Try.prog 18 #[.slice A n c, .slice A' m d] w fun e w' => e = .returned (.bool (decide (xs = ys))) ∧ Fr (fun _ => False) w w' := by
  have la : xs.length = n := by have := ha.1; simpa using this
  have lb : ys.length = m := by have := hb.1; simpa using this
  by_cases hnm : n = m
  · have hb1 : ((n : Int) != (m : Int)) = false := by simp [hnm]
    have LA := hide la
    have LB := hide lb
    have HNM := hide hnm
    have hle : n ≤ m := by omega
    clear la lb hnm
    go_enter Try.func18, Try.ntmps18
    go_wp2
    go_loopw [5] (fun i wr => ∃ k q : Nat, k ≤ n ∧ i = .int .i64 k ∧ wr = w.drewN q ∧ Hid (xs.take k = ys.take k)) (fun i _ => n - (intOf i).toNat)
    case atStart => exact ⟨0, 0, by omega, rfl, rfl, hide rfl⟩
    case round =>
      obtain ⟨k, q, hk, rfl, rfl, HK⟩ := hrel
      by_cases hkn : k < n
      · obtain ⟨b1, o1, u1, rfl, _, hu1, hc1⟩ := ha.at_ hkn
        obtain ⟨b2, o2, u2, rfl, _, hu2, hc2⟩ := hb.at_ (show k < m by omega)
        have lx : k < xs.length := by rw [LA.out]; omega
        have ly : k < ys.length := by rw [LB.out]; omega
        obtain rfl : u1 = u64v xs[k] := by simp [lx] at hu1; exact hu1.symm
        obtain rfl : u2 = u64v ys[k] := by simp [ly] at hu2; exact hu2.symm
        obtain ⟨x, hx⟩ : ∃ x, x = xs[k] := ⟨_, rfl⟩
        obtain ⟨y, hy⟩ : ∃ y, y = ys[k] := ⟨_, rfl⟩
        rw [← hx] at hc1
        rw [← hy] at hc2
        unfold u64v at hc1 hc2
        have HX := hide hx
        have HY := hide hy
        have hkm : k < m := by omega
        clear hx hy hu1 hu2 ha hb
        by_cases hxy : x = y
        · have hbe : ((x : Int) != (y : Int)) = false := by simp [hxy]
          have HXY := hide hxy
          clear hxy
          go_wp2
          go_quiet (fail)
          go_wp2
          go_roundw
          case rel => exact ⟨k + 1, _, by omega, by go_num, rfl, hide (by rw [List.take_succ_eq_append_getElem lx, List.take_succ_eq_append_getElem ly, HK.out, ← HX.out, ← HY.out, HXY.out])⟩
          case measure => simp [intOf]; omega
        · have hbe : ((x : Int) != (y : Int)) = true := by simp; omega
          have hne : decide (xs = ys) = false := by
            simp only [decide_eq_false_iff_not]
            rintro rfl
            exact hxy (HX.out.trans HY.out.symm)
          have HN := hide hne
          clear hne hxy
          go_wp2
          go_quiet (fail)
          go_wp2
          go_ret
          exact ⟨by rw [HN.out]; rfl, ((Fr.refl _ _).drewN _).drewN _⟩
      · have he : decide (xs = ys) = true := by
          have h := HK.out
          have hnm := HNM.out
          rw [List.take_of_length_le (by rw [LA.out]; omega), List.take_of_length_le (by rw [LB.out]; omega)] at h
          simpa using h
        have HN := hide he
        clear he ha hb
        go_wp2
        go_ret
        exact ⟨by rw [HN.out]; rfl, (Fr.refl _ _).drewN _⟩
  · have hb1 : ((n : Int) != (m : Int)) = true := by simp; omega
    have hne : decide (xs = ys) = false := by
      simp only [decide_eq_false_iff_not]
      rintro rfl
      exact hnm (la.symm.trans lb)
    rw [hne]
    clear la lb hnm hne
    go_enter Try.func18, Try.ntmps18
    go_wp2
    go_ret
    exact ⟨rfl, Fr.refl _ _⟩

theorem does_true (w : World) : Calls Try.prog 9 #[] w fun e w' => e = .returned (.bool true) ∧ Fr (fun _ => False) w w' := by
  go_enter Try.func9, Try.ntmps9
  go_wp2_with fail
  have hr : Reads (w.alloc (.cells #[.int .u64 1, .int .u64 258] 29)) (w.alloc (.cells #[.int .u64 1, .int .u64 258] 29)).heap.size 1 (some ⟨w.heap.size, 0, none⟩) 2 ([1, 258].map u64v) :=
    ⟨rfl, fun _ => ⟨_, 0, rfl, by simp, fun j u hu => by rw [Nat.zero_add, (Blk.new w 29 #[.int .u64 1, .int .u64 258]).cell]; simpa [u64v] using hu⟩⟩
  refine (encode_any (some ⟨w.heap.size, 0, none⟩) 2 2 [1, 258] _ hr (by omega)).mono ?_
  rintro e w1 ⟨rfl, hf1⟩
  obtain ⟨S, hS⟩ : ∃ S : ByteArray, S = ⟨(([1, 258] ++ List.replicate (8 - 2) 0).flatMap (encW 8)).toArray⟩ := ⟨_, rfl⟩
  rw [← hS]
  have hs1 : ((S.size : Int) != 64) = false := by rw [hS]; rfl
  have hs2 : 64 ≤ S.size := by rw [hS]; exact Nat.le_refl _
  have hs3 : ((S.extract 0 16).toList == [0, 0, 0, 0, 0, 0, 0, 1, 0, 0, 0, 0, 0, 0, 1, 2]) = true := by rw [hS]; decide +kernel
  clear hS
  have hf := ((Fr.refl (fun _ => False) w).alloc (.cells #[.int .u64 1, .int .u64 258] 29)).then_ hf1
  clear hf1 hr
  go_wp2_with fail
  refine (new_ok 2 _ (by omega)).mono ?_
  rintro e w2 ⟨p, g, rfl, hp, hg, hP, hf2⟩
  have hf3 := hf.then_ hf2
  have hw1 := hf.size
  clear hf hf2
  go_wp2_with fail
  refine (set_in hP 1 7 (by simp) (by omega)).mono ?_
  rintro e w3 ⟨rfl, hP3, hf4⟩
  have hf5 := hf3.trans hf4 (fun k hk => .inr (by omega))
  clear hf3 hf4 hP
  go_wp2_with fail
  refine (get_in hP3 1 (by simp)).mono ?_
  rintro e w4 ⟨rfl, rfl⟩
  go_wp2_with fail
  refine (get_out hP3 2 (.inr (by simp))).mono ?_
  rintro e w4 ⟨rfl, rfl⟩
  go_wp2_with fail
  refine (fill_any hP3 9 (by omega)).mono ?_
  rintro e w4 ⟨rfl, hP4, hf6⟩
  have hf7 := hf5.trans hf6 (fun k hk => .inr (by omega))
  clear hf5 hf6 hP3
  go_wp2_with fail
  refine (get_in hP4 0 (by simp)).mono ?_
  rintro e w5 ⟨rfl, rfl⟩
  go_wp2_with fail
  refine (count_lit 0 0 _ (by omega) (by omega) rfl).mono ?_
  rintro e w5 ⟨rfl, rfl⟩
  go_wp2_with fail
  refine (count_lit 1 1 _ (by omega) (by omega) rfl).mono ?_
  rintro e w5 ⟨rfl, rfl⟩
  go_wp2_with fail
  refine (count_lit 8 1 _ (by omega) (by omega) rfl).mono ?_
  rintro e w5 ⟨rfl, rfl⟩
  go_wp2_with fail
  refine (count_lit 9 2 _ (by omega) (by omega) rfl).mono ?_
  rintro e w5 ⟨rfl, rfl⟩
  go_wp2_with fail
  refine (count_lit (-5) 0 _ (by omega) (by omega) rfl).mono ?_
  rintro e w5 ⟨rfl, rfl⟩
  go_wp2
  go_ret
  exact ⟨rfl, hf7⟩
end Go.Proofs.Ytneihcoepacadaa
