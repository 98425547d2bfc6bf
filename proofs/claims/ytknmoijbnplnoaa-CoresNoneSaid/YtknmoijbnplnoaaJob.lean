/- THE LAWS' OWN HELPERS (chapter 17's): rows made, read, compared. -/
import Derived.Test.YtknmoijbnplnoaaTwo
import Derived.Test.YtknmoijbnplnoaaCp
import Derived.Deep.RegionHeld3
set_option linter.unusedVariables false
set_option maxRecDepth 100000
namespace Go.Proofs.Ytknmoijbnplnoaa
open Go.RowKit

theorem row_any (A : Option Addr) (n c : Nat) (xs : List Nat) (w : World) (hr : Reads w w.heap.size 1 A n (xs.map u64v)) (hx : ∀ x ∈ xs, x < 18446744073709551616) (hn : n ≤ 256) :
    Calls Try.prog 52 #[.slice A n c] w fun e w' => ∃ p g, e = .returned (.pointer (some ⟨p, 0, none⟩)) ∧ w.heap.size ≤ p ∧ w.heap.size ≤ g ∧ PlainAt w' p g xs ∧ Fr (fun _ => False) w w' := by
  have hl : xs.length = n := by have := hr.1; simpa using this
  have HL := hide hl
  have HR := hide hr
  have HX := hide hx
  have HN := hide (new_ok n w hn)
  clear hl hr hx
  go_enter Try.func52, Try.ntmps52
  go_wp2_with fail
  go_at_call 29
  refine HN.out.mono ?_
  rintro e w1 ⟨p, g, rfl, hp, hg, hP, hf⟩
  have HP := hide hP
  have HF := hide hf
  clear hP hf HN
  go_wp2_with fail
  go_loopw [5] (fun i wr => ∃ k : Nat, k ≤ n ∧ i = .int .i64 k ∧ Hid (PlainAt wr p g (xs.take k ++ List.replicate (n - k) 0) ∧ Fr (fun k => k = g) w1 wr)) (fun i _ => n - (intOf i).toNat)
  case atStart => exact ⟨0, by omega, rfl, hide ⟨by simpa using HP.out, Fr.refl _ _⟩⟩
  case round =>
    obtain ⟨k, hk, rfl, HI⟩ := hrel
    by_cases hlt : k < n
    · have F1 : Fr (fun k => k = g) w wr := (HF.out.mono (fun _ h => h.elim)).trans HI.out.2 (fun _ h => .inl h)
      obtain ⟨b, o, u, rfl, hb, hu, hc⟩ := (HR.out.fr F1 (Nat.le_refl _) (fun k h => by omega)).at_ hlt
      have lx : k < xs.length := by rw [HL.out]; exact hlt
      rw [List.getElem?_map, List.getElem?_eq_getElem lx] at hu
      obtain rfl := Option.some.inj hu
      have hxk : xs[k] < 18446744073709551616 := HX.out _ (List.getElem_mem lx)
      have HS := hide (set_in HI.out.1 k xs[k] (by simp; omega) hxk)
      have he : (xs.take k ++ List.replicate (n - k) 0).set k xs[k] = xs.take (k + 1) ++ List.replicate (n - (k + 1)) 0 := by
        rw [List.set_append_right _ _ (by simp; omega)]
        simp only [List.length_take, show min k xs.length = k by omega, Nat.sub_self]
        rw [show n - k = (n - (k + 1)) + 1 by omega, List.replicate_succ, List.set_cons_zero, List.take_succ_eq_append_getElem lx, List.append_assoc]
        rfl
      rw [he] at HS
      unfold u64v at hc
      generalize xs[k] = x at *
      clear F1 hu hxk he
      go_wp2_with fail
      go_at_call 86
      refine HS.out.mono ?_
      rintro e w2 ⟨rfl, hP, hf⟩
      have H2 := hide (And.intro hP (HI.out.2.trans hf (fun _ h => .inl h)))
      clear hP hf
      go_wp2
      go_roundw
      case rel => exact ⟨k + 1, by omega, by go_num, H2⟩
      case measure => simp [intOf]; omega
    · obtain rfl : k = n := by omega
      have H2 := hide (show PlainAt wr p g xs ∧ Fr (fun _ => False) w wr from ⟨by have := HI.out.1; rw [List.take_of_length_le (by rw [HL.out]; omega)] at this; simpa using this, HF.out.trans HI.out.2 (fun k h => .inr (by omega))⟩)
      clear HI
      go_wp2
      go_ret
      exact ⟨_, _, rfl, hp, hg, H2.out.1, H2.out.2⟩

theorem fresh_any (n : Nat) (w : World) (hn : n ≤ 256) :
    Calls Try.prog 51 #[.int .i64 n] w fun e w' => ∃ pa ga pb gb, e = .returned (.tuple #[.pointer (some ⟨pa, 0, none⟩), .pointer (some ⟨pb, 0, none⟩)]) ∧ w.heap.size ≤ ga ∧ w.heap.size ≤ gb ∧ TwoAt w' pa ga pb gb (List.replicate n 0) (List.replicate n 0) ∧ Fr (fun _ => False) w w' := by
  have HN := hide (fun w => new_ok n w hn)
  go_enter Try.func51, Try.ntmps51
  go_wp2_with fail
  go_at_call 29
  refine (HN.out _).mono ?_
  rintro e w1 ⟨p, g, rfl, hp, hg, hP, hf⟩
  have HP := hide hP
  have HF := hide hf
  clear hP hf
  go_wp2_with fail
  go_at_call 29
  refine (HN.out _).mono ?_
  rintro e w2 ⟨p2, g2, rfl, hp2, hg2, hP2, hf2⟩
  have HT := hide (show TwoAt w2 p g p2 g2 (List.replicate n 0) (List.replicate n 0) from ⟨HP.out.fr hf2 id id, hP2, by have := HP.out.row.lt; omega⟩)
  have HF2 := hide (HF.out.then_ hf2)
  have hs := HF.out.size
  clear hP2 hf2
  go_wp2
  go_ret2
  exact ⟨_, _, _, _, rfl, hg, by omega, HT.out, HF2.out⟩

theorem held3 {w w1 w2 : World} {p q : Addr} {u v : Value} (h : w1.cell? p = some u ∧ w1.cell? q = some v ∧ Fr (fun _ => False) w w1) (hf : Fr (fun _ => False) w1 w2) : w2.cell? p = some u ∧ w2.cell? q = some v ∧ Fr (fun _ => False) w w2 := ⟨hf.cell h.1 id, hf.cell h.2.1 id, h.2.2.then_ hf⟩
theorem held3f {w w1 : World} {a b : Prop} (h : a ∧ b ∧ Fr (fun _ => False) w w1) : Fr (fun _ => False) w w1 := h.2.2
theorem great_any (A A' : Option Addr) (n c m d : Nat) (w : World) :
    Calls Try.prog 18 #[.agg #[.slice A n c, .slice A' m d]] w fun e w' => e = .returned (.bool (decide (256 < n ∨ 256 < m))) ∧ Fr (fun _ => False) w w' := by
  by_cases h1 : 256 < n
  · have hr : decide (256 < n ∨ 256 < m) = true := by simp [h1]
    rw [hr]
    clear hr
    go_enter Try.func18, Try.ntmps18
    go_wp2
    go_ret
    exact ⟨rfl, (Fr.refl _ _).alloc _⟩
  · by_cases h2 : 256 < m
    · have hr : decide (256 < n ∨ 256 < m) = true := by simp [h2]
      rw [hr]
      clear hr
      go_enter Try.func18, Try.ntmps18
      go_wp2
      go_ret
      exact ⟨by simp; omega, (Fr.refl _ _).alloc _⟩
    · have hr : decide (256 < n ∨ 256 < m) = false := by simp; omega
      rw [hr]
      clear hr
      go_enter Try.func18, Try.ntmps18
      go_wp2
      go_ret
      exact ⟨by simp; omega, (Fr.refl _ _).alloc _⟩

theorem read_any {p g : Nat} {xs : List Nat} {w : World} (h : PlainAt w p g xs) :
    Calls Try.prog 24 #[.pointer (some ⟨p, 0, none⟩)] w fun e w' => ∃ A c, e = .returned (.slice A xs.length c) ∧ Reads w' w'.heap.size 1 A xs.length (xs.map u64v) ∧ Fr (fun _ => False) w w' := by
  obtain ⟨i0, hi, hz0, hz1, hz2⟩ := info_parts u64_info
  have hl := h.len
  have H := hide h
  clear h
  go_enter Try.func24, Try.ntmps24
  go_wp2
  go_loopw [3, 4] (fun r i wr => ∃ k : Nat, k ≤ xs.length ∧ i = .int .i64 k ∧ wr.ownsRow w.heap.size 85 1 r k ((xs.take k).map u64v) ∧ Hid (Fr (fun _ => False) w wr)) (fun _ i _ => xs.length - (intOf i).toNat)
  case atStart => exact ⟨0, by omega, rfl, by simpa using World.ownsRow_nil w _ 85 1, hide (Fr.refl _ _)⟩
  case round =>
    obtain ⟨k, hk, rfl, hown, HF⟩ := hrel
    have HP := hide (H.out.fr HF.out id id)
    go_wp2_with fail
    go_at_call 58
    refine (len_any HP.out).mono ?_
    rintro e w1 ⟨rfl, rfl⟩
    by_cases hlt : k < xs.length
    · have HG := hide (get_in HP.out k hlt)
      generalize hxk : xs.getD k 0 = x at *
      go_wp2_with fail
      go_at_call 59
      refine HG.out.mono ?_
      rintro e w1 ⟨rfl, rfl⟩
      go_wp2_with (at_builtin; refine wpList_append_box wr _ _ rfl (.tmp 19) (.tmp 21) _ rfl w.heap.size 85 i0 _ 1 8 Try.underlying22 hi hz0 hz1 hz2 rfl (by decide) _ _ _ rfl hown rfl rfl ?c1 ?c2 ?c3 ?c4 ?c5)
      case c1 => simp [Value.oneCell']
      case c2 => unfold maxLen; omega
      case c3 => omega
      case c4 => exact HF.out.size
      case c5 =>
        intro v' w1 hown1 hg _
        have HF1 := hide (HF.out.grown hg (fun q hq => .inr ((hown.lt q hq).1)))
        have hM : (xs.take k).map u64v ++ [Value.int .u64 (x : Int)] = (xs.take (k + 1)).map u64v := by
          rw [List.take_succ_eq_append_getElem hlt, List.map_append, ← hxk]
          simp [u64v, List.getD, hlt]
        have hown2 : w1.ownsRow w.heap.size 85 1 v' (k + 1) ((xs.take (k + 1)).map u64v) := by rw [← hM]; simpa [List.map_take] using hown1
        clear hown hown1 hg hM
        go_wp2
        go_roundw
        case rel => exact ⟨k + 1, by omega, by go_num, hown2, HF1⟩
        case measure => simp [intOf]; omega
    · obtain rfl : k = xs.length := by omega
      rw [List.take_of_length_le (Nat.le_refl _)] at hown
      obtain ⟨A, c, rfl⟩ := Reads.own_val hown
      have HR := hide (Reads.of_own hown)
      clear hown
      go_wp2
      go_ret
      exact ⟨_, _, rfl, HR.out, HF.out⟩

def pairA (A A' : Option Addr) (n c m d : Nat) : Value := .agg #[.slice A n c, .slice A' m d]
theorem rows_any (A A' : Option Addr) (n c m d : Nat) (xs ys : List Nat) (w : World) (hr : Reads w w.heap.size 1 A n (xs.map u64v)) (hr' : Reads w w.heap.size 1 A' m (ys.map u64v)) (hx : ∀ x ∈ xs, x < 18446744073709551616) (hy : ∀ x ∈ ys, x < 18446744073709551616) (hn : n ≤ 256) (hm : m ≤ 256) :
    Calls Try.prog 20 #[.agg #[.slice A n c, .slice A' m d]] w fun e w' => ∃ pa ga pb gb, e = .returned (.tuple #[.pointer (some ⟨pa, 0, none⟩), .pointer (some ⟨pb, 0, none⟩)]) ∧ w.heap.size ≤ ga ∧ w.heap.size ≤ gb ∧ TwoAt w' pa ga pb gb xs ys ∧ Fr (fun _ => False) w w' := by
  obtain ⟨W1, hW1⟩ : ∃ W1, W1 = w.alloc (.cells #[.slice A n c, .slice A' m d] 24) := ⟨_, rfl⟩
  have F1 : Fr (fun _ => False) w W1 := by rw [hW1]; exact (Fr.refl _ _).alloc _
  have b1 : Blk W1 w.heap.size 24 #[.slice A n c, .slice A' m d] := by rw [hW1]; exact Blk.new _ _ _
  have k0 : W1.cell? ⟨w.heap.size, 0, none⟩ = some (.slice A n c) := (b1.cell 0).trans rfl
  have k1 : W1.cell? ⟨w.heap.size, 1, none⟩ = some (.slice A' m d) := (b1.cell 1).trans rfl
  have H1 := hide (fun w' (h : Fr (fun _ => False) w w') => row_any A n c xs w' (hr.up h) hx hn)
  have H2 := hide (fun w' (h : Fr (fun _ => False) w w') => row_any A' m d ys w' (hr'.up h) hy hm)
  have HF := hide F1
  have D1 := hide (F1.then_ (held_drew W1))
  clear hr hr' hx hy b1 F1
  go_enter Try.func20, Try.ntmps20
  go_wp2
  rw [← hW1]
  clear hW1
  go_region_held3 (fun w' => w'.cell? ⟨w.heap.size, 0, none⟩ = some (.slice A n c) ∧ w'.cell? ⟨w.heap.size, 1, none⟩ = some (.slice A' m d) ∧ Fr (fun _ => False) w w')
    (first | exact ⟨k0, k1, D1.out⟩ | exact held3 (by assumption) hf)
    (first
      | (go_at_call_of 52 (Value.slice A n c); refine (H1.out _ (held3f (by assumption))).mono ?_; rintro e w1 ⟨p, g, rfl, hp, hg, hP, hf⟩)
      | (go_at_call_of 52 (Value.slice A' m d); refine (H2.out _ (held3f (by assumption))).mono ?_; rintro e w1 ⟨p, g, rfl, hp, hg, hP, hf⟩))
  rename_i w0 p0 g0 hp0 hg0 hP0 hf0 hH
  have l0 := hP0.row.lt
  have sz := D1.out.size
  have sz2 := hf0.size
  have HR := hide (show TwoAt w1 p0 g0 p g xs ys ∧ Fr (fun _ => False) w w1 from ⟨⟨hP0.fr hf id id, hP, by omega⟩, hH.2.2⟩)
  clear hP0 hP hf0 hf hH H1 H2 HF D1 k0 k1
  go_wp2
  go_ret2
  exact ⟨_, _, _, _, rfl, by omega, by omega, HR.out.1, HR.out.2⟩

theorem same_any (A A' : Option Addr) (n c m d B : Nat) (xs ys : List Nat) (w : World) (ha : Reads w B 1 A n (xs.map u64v)) (hb : Reads w B 1 A' m (ys.map u64v)) (hn : n ≤ 9223372036854775807) :
    Calls Try.prog 23 #[.slice A n c, .slice A' m d] w fun e w' => e = .returned (.bool (decide (xs = ys))) ∧ Fr (fun _ => False) w w' := by
  have la : xs.length = n := by have := ha.1; simpa using this
  have lb : ys.length = m := by have := hb.1; simpa using this
  by_cases hnm : n = m
  · have hb1 : ((n : Int) != (m : Int)) = false := by simp [hnm]
    have LA := hide la
    have LB := hide lb
    have HNM := hide hnm
    have hle : n ≤ m := by omega
    clear la lb hnm
    go_enter Try.func23, Try.ntmps23
    go_wp2
    go_loopw [5] (fun i wr => ∃ k q : Nat, k ≤ n ∧ i = .int .i64 k ∧ wr = w.drewN q ∧ Hid (xs.take k = ys.take k)) (fun i _ => n - (intOf i).toNat)
    case atStart => exact ⟨0, 0, by omega, rfl, rfl, hide rfl⟩
    case round =>
      obtain ⟨k, q, hk, rfl, rfl, HK⟩ := hrel
      by_cases hkn : k < n
      · obtain ⟨b1, o1, u1, rfl, _, hu1, hc1⟩ := ha.at_ hkn
        obtain ⟨b2, o2, u2, rfl, _, hu2, hc2⟩ := hb.at_ (show k < m by omega)
        have lx : k < xs.length := by rw [LA.out]; omega
        have ly : k < ys.length := by rw [LB.out]; omega
        obtain rfl : u1 = u64v xs[k] := by simp [lx] at hu1; exact hu1.symm
        obtain rfl : u2 = u64v ys[k] := by simp [ly] at hu2; exact hu2.symm
        obtain ⟨x, hx⟩ : ∃ x, x = xs[k] := ⟨_, rfl⟩
        obtain ⟨y, hy⟩ : ∃ y, y = ys[k] := ⟨_, rfl⟩
        rw [← hx] at hc1
        rw [← hy] at hc2
        unfold u64v at hc1 hc2
        have HX := hide hx
        have HY := hide hy
        have hkm : k < m := by omega
        clear hx hy hu1 hu2 ha hb
        by_cases hxy : x = y
        · have hbe : ((x : Int) != (y : Int)) = false := by simp [hxy]
          have HXY := hide hxy
          clear hxy
          go_wp2
          go_quiet (fail)
          go_wp2
          go_roundw
          case rel => exact ⟨k + 1, _, by omega, by go_num, rfl, hide (by rw [List.take_succ_eq_append_getElem lx, List.take_succ_eq_append_getElem ly, HK.out, ← HX.out, ← HY.out, HXY.out])⟩
          case measure => simp [intOf]; omega
        · have hbe : ((x : Int) != (y : Int)) = true := by simp; omega
          have hne : decide (xs = ys) = false := by
            simp only [decide_eq_false_iff_not]
            rintro rfl
            exact hxy (HX.out.trans HY.out.symm)
          have HN := hide hne
          clear hne hxy
          go_wp2
          go_quiet (fail)
          go_wp2
          go_ret
          exact ⟨by rw [HN.out]; rfl, ((Fr.refl _ _).drewN _).drewN _⟩
      · have he : decide (xs = ys) = true := by
          have h := HK.out
          have hnm := HNM.out
          rw [List.take_of_length_le (by rw [LA.out]; omega), List.take_of_length_le (by rw [LB.out]; omega)] at h
          simpa using h
        have HN := hide he
        clear he ha hb
        go_wp2
        go_ret
        exact ⟨by rw [HN.out]; rfl, (Fr.refl _ _).drewN _⟩
  · have hb1 : ((n : Int) != (m : Int)) = true := by simp; omega
    have hne : decide (xs = ys) = false := by
      simp only [decide_eq_false_iff_not]
      rintro rfl
      exact hnm (la.symm.trans lb)
    rw [hne]
    clear la lb hnm hne
    go_enter Try.func23, Try.ntmps23
    go_wp2
    go_ret
    exact ⟨rfl, Fr.refl _ _⟩


theorem many_any (fr to : Int) (m c : Nat) (A : Option Addr) (L : List (List Int)) (w : World) (hl : ListsAt w w.heap.size A m L) (hm : m ≤ 9223372036854775807) :
    Calls Try.prog 25 #[.agg #[.int .i64 fr, .int .i64 to, .slice A m c]] w fun e w' => (∃ b, e = .returned (.bool b)) ∧ Fr (fun _ => False) w w' := by
  have HL := hide (hl.up ((Fr.refl (fun _ => False) w).alloc (.cells #[.int .i64 fr, .int .i64 to, .slice A m c] 41)))
  have HF := hide ((Fr.refl (fun _ => False) w).alloc (.cells #[.int .i64 fr, .int .i64 to, .slice A m c] 41))
  clear hl
  go_enter Try.func25, Try.ntmps25
  go_wp2
  go_loopw [3, 4] (fun n i wr => ∃ (k : Nat) (z : Int), k ≤ m ∧ i = .int .i64 k ∧ n = .int .i64 z ∧ wr = w.alloc (.cells #[.int .i64 fr, .int .i64 to, .slice A m c] 41)) (fun _ i _ => m - (intOf i).toNat)
  case atStart => exact ⟨0, 0, by omega, rfl, rfl, rfl⟩
  case round =>
    obtain ⟨k, z, hk, rfl, rfl, rfl⟩ := hrel
    by_cases hlt : k < m
    · obtain ⟨b, o, A', c', l, rfl, hb, hd, hc, hr1, hmx⟩ := HL.out.at_ hlt
      generalize l.length = ql at *
      clear hd hr1
      go_wp2
      · go_ret
        exact ⟨⟨_, rfl⟩, HF.out⟩
      · go_roundw
        case rel => exact ⟨k + 1, _, by omega, by go_num, rfl, by first | rfl | trivial⟩
        case measure => simp [intOf]; omega
    · go_wp2
      go_ret
      exact ⟨⟨_, rfl⟩, HF.out⟩
end Go.Proofs.Ytknmoijbnplnoaa
