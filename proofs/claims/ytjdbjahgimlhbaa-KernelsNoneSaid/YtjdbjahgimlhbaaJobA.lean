/- THE LAWS' OWN HELPERS (chapter 17's): rows made fresh, read, compared. -/
import Derived.Test.YtjdbjahgimlhbaaTwo
import Derived.Test.YtjdbjahgimlhbaaCp
import Derived.Deep.RegionHeld3
set_option linter.unusedVariables false
set_option maxRecDepth 100000
namespace Go.Proofs.Ytjdbjahgimlhbaa
open Go.RowKit

theorem fresh_any (n : Nat) (w : World) (hn : n ≤ 256) :
    Calls Try.prog 19 #[.int .i64 n] w fun e w' => ∃ pa ga pb gb, e = .returned (.tuple #[.pointer (some ⟨pa, 0, none⟩), .pointer (some ⟨pb, 0, none⟩)]) ∧ w.heap.size ≤ ga ∧ w.heap.size ≤ gb ∧ TwoAt w' pa ga pb gb (List.replicate n 0) (List.replicate n 0) ∧ Fr (fun _ => False) w w' := by
  have HN := hide (fun w => new_ok n w hn)
  go_enter Try.func19, Try.ntmps19
  go_wp2_with fail
  go_at_call 52
  refine (HN.out _).mono ?_
  rintro e w1 ⟨p, g, rfl, hp, hg, hP, hf⟩
  have HP := hide hP
  have HF := hide hf
  clear hP hf
  go_wp2_with fail
  go_at_call 52
  refine (HN.out _).mono ?_
  rintro e w2 ⟨p2, g2, rfl, hp2, hg2, hP2, hf2⟩
  have HT := hide (show TwoAt w2 p g p2 g2 (List.replicate n 0) (List.replicate n 0) from ⟨HP.out.fr hf2 id id, hP2, by have := HP.out.row.lt; omega⟩)
  have HF2 := hide (HF.out.then_ hf2)
  have hs := HF.out.size
  clear hP2 hf2
  go_wp2
  go_ret2
  exact ⟨_, _, _, _, rfl, hg, by omega, HT.out, HF2.out⟩

theorem held3 {w w1 w2 : World} {p q : Addr} {u v : Value} (h : w1.cell? p = some u ∧ w1.cell? q = some v ∧ Fr (fun _ => False) w w1) (hf : Fr (fun _ => False) w1 w2) : w2.cell? p = some u ∧ w2.cell? q = some v ∧ Fr (fun _ => False) w w2 := ⟨hf.cell h.1 id, hf.cell h.2.1 id, h.2.2.then_ hf⟩
theorem held3f {w w1 : World} {a b : Prop} (h : a ∧ b ∧ Fr (fun _ => False) w w1) : Fr (fun _ => False) w w1 := h.2.2
theorem read_any {p g : Nat} {xs : List Nat} {w : World} (h : PlainAt w p g xs) :
    Calls Try.prog 26 #[.pointer (some ⟨p, 0, none⟩)] w fun e w' => ∃ A c, e = .returned (.slice A xs.length c) ∧ Reads w' w'.heap.size 1 A xs.length (xs.map u64v) ∧ Fr (fun _ => False) w w' := by
  obtain ⟨i0, hi, hz0, hz1, hz2⟩ := info_parts u64_info
  have hl := h.len
  have H := hide h
  clear h
  go_enter Try.func26, Try.ntmps26
  go_wp2
  go_loopw [3, 4] (fun r i wr => ∃ k : Nat, k ≤ xs.length ∧ i = .int .i64 k ∧ wr.ownsRow w.heap.size 36 1 r k ((xs.take k).map u64v) ∧ Hid (Fr (fun _ => False) w wr)) (fun _ i _ => xs.length - (intOf i).toNat)
  case atStart => exact ⟨0, by omega, rfl, by simpa using World.ownsRow_nil w _ 36 1, hide (Fr.refl _ _)⟩
  case round =>
    obtain ⟨k, hk, rfl, hown, HF⟩ := hrel
    have HP := hide (H.out.fr HF.out id id)
    go_wp2_with fail
    go_at_call 61
    refine (len_any HP.out).mono ?_
    rintro e w1 ⟨rfl, rfl⟩
    by_cases hlt : k < xs.length
    · have HG := hide (get_in HP.out k hlt)
      generalize hxk : xs.getD k 0 = x at *
      go_wp2_with fail
      go_at_call 21
      refine HG.out.mono ?_
      rintro e w1 ⟨rfl, rfl⟩
      go_wp2_with (at_builtin; refine wpList_append_box wr _ _ rfl (.tmp 19) (.tmp 21) _ rfl w.heap.size 36 i0 _ 1 8 Try.underlying49 hi hz0 hz1 hz2 rfl (by decide) _ _ _ rfl hown rfl rfl ?c1 ?c2 ?c3 ?c4 ?c5)
      case c1 => simp [Value.oneCell']
      case c2 => unfold maxLen; omega
      case c3 => omega
      case c4 => exact HF.out.size
      case c5 =>
        intro v' w1 hown1 hg _
        have HF1 := hide (HF.out.grown hg (fun q hq => .inr ((hown.lt q hq).1)))
        have hM : (xs.take k).map u64v ++ [Value.int .u64 (x : Int)] = (xs.take (k + 1)).map u64v := by
          rw [List.take_succ_eq_append_getElem hlt, List.map_append, ← hxk]
          simp [u64v, List.getD, hlt]
        have hown2 : w1.ownsRow w.heap.size 36 1 v' (k + 1) ((xs.take (k + 1)).map u64v) := by rw [← hM]; simpa [List.map_take] using hown1
        clear hown hown1 hg hM
        go_wp2
        go_roundw
        case rel => exact ⟨k + 1, by omega, by go_num, hown2, HF1⟩
        case measure => simp [intOf]; omega
    · obtain rfl : k = xs.length := by omega
      rw [List.take_of_length_le (Nat.le_refl _)] at hown
      obtain ⟨A, c, rfl⟩ := Reads.own_val hown
      have HR := hide (Reads.of_own hown)
      clear hown
      go_wp2
      go_ret
      exact ⟨_, _, rfl, HR.out, HF.out⟩

theorem same_any (A A' : Option Addr) (n c m d B : Nat) (xs ys : List Nat) (w : World) (ha : Reads w B 1 A n (xs.map u64v)) (hb : Reads w B 1 A' m (ys.map u64v)) (hn : n ≤ 9223372036854775807) :
    Calls Try.prog 29 #[.slice A n c, .slice A' m d] w fun e w' => e = .returned (.bool (decide (xs = ys))) ∧ Fr (fun _ => False) w w' := by
  have la : xs.length = n := by have := ha.1; simpa using this
  have lb : ys.length = m := by have := hb.1; simpa using this
  by_cases hnm : n = m
  · have hb1 : ((n : Int) != (m : Int)) = false := by simp [hnm]
    have LA := hide la
    have LB := hide lb
    have HNM := hide hnm
    have hle : n ≤ m := by omega
    clear la lb hnm
    go_enter Try.func29, Try.ntmps29
    go_wp2
    go_loopw [5] (fun i wr => ∃ k q : Nat, k ≤ n ∧ i = .int .i64 k ∧ wr = w.drewN q ∧ Hid (xs.take k = ys.take k)) (fun i _ => n - (intOf i).toNat)
    case atStart => exact ⟨0, 0, by omega, rfl, rfl, hide rfl⟩
    case round =>
      obtain ⟨k, q, hk, rfl, rfl, HK⟩ := hrel
      by_cases hkn : k < n
      · obtain ⟨b1, o1, u1, rfl, _, hu1, hc1⟩ := ha.at_ hkn
        obtain ⟨b2, o2, u2, rfl, _, hu2, hc2⟩ := hb.at_ (show k < m by omega)
        have lx : k < xs.length := by rw [LA.out]; omega
        have ly : k < ys.length := by rw [LB.out]; omega
        obtain rfl : u1 = u64v xs[k] := by simp [lx] at hu1; exact hu1.symm
        obtain rfl : u2 = u64v ys[k] := by simp [ly] at hu2; exact hu2.symm
        obtain ⟨x, hx⟩ : ∃ x, x = xs[k] := ⟨_, rfl⟩
        obtain ⟨y, hy⟩ : ∃ y, y = ys[k] := ⟨_, rfl⟩
        rw [← hx] at hc1
        rw [← hy] at hc2
        unfold u64v at hc1 hc2
        have HX := hide hx
        have HY := hide hy
        have hkm : k < m := by omega
        clear hx hy hu1 hu2 ha hb
        by_cases hxy : x = y
        · have hbe : ((x : Int) != (y : Int)) = false := by simp [hxy]
          have HXY := hide hxy
          clear hxy
          go_wp2
          go_quiet (fail)
          go_wp2
          go_roundw
          case rel => exact ⟨k + 1, _, by omega, by go_num, rfl, hide (by rw [List.take_succ_eq_append_getElem lx, List.take_succ_eq_append_getElem ly, HK.out, ← HX.out, ← HY.out, HXY.out])⟩
          case measure => simp [intOf]; omega
        · have hbe : ((x : Int) != (y : Int)) = true := by simp; omega
          have hne : decide (xs = ys) = false := by
            simp only [decide_eq_false_iff_not]
            rintro rfl
            exact hxy (HX.out.trans HY.out.symm)
          have HN := hide hne
          clear hne hxy
          go_wp2
          go_quiet (fail)
          go_wp2
          go_ret
          exact ⟨by rw [HN.out]; rfl, ((Fr.refl _ _).drewN _).drewN _⟩
      · have he : decide (xs = ys) = true := by
          have h := HK.out
          have hnm := HNM.out
          rw [List.take_of_length_le (by rw [LA.out]; omega), List.take_of_length_le (by rw [LB.out]; omega)] at h
          simpa using h
        have HN := hide he
        clear he ha hb
        go_wp2
        go_ret
        exact ⟨by rw [HN.out]; rfl, (Fr.refl _ _).drewN _⟩
  · have hb1 : ((n : Int) != (m : Int)) = true := by simp; omega
    have hne : decide (xs = ys) = false := by
      simp only [decide_eq_false_iff_not]
      rintro rfl
      exact hnm (la.symm.trans lb)
    rw [hne]
    clear la lb hnm hne
    go_enter Try.func29, Try.ntmps29
    go_wp2
    go_ret
    exact ⟨rfl, Fr.refl _ _⟩


end Go.Proofs.Ytjdbjahgimlhbaa
