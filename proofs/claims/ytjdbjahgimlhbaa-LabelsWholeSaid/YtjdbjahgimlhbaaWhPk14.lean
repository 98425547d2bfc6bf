/- Parts of the proof of several laws: no conditions of their own. -/
import Derived.Test.YtjdbjahgimlhbaaWhPk5
import Derived.Shelf.SlSortCmp.WholeK
import Derived.Shelf.SlGeneric
import Derived.Ground.SlsfProg
import Derived.Shelf.SlSortCmp.NoneTotal
import Derived.Test.YtjdbjahgimlhbaaProg
import Derived.Test.YtjdbjahgimlhbaaWhPk4
import Derived.Test.YtjdbjahgimlhbaaWhPk3
import Derived.Sort.OwnSortedInts
section
set_option linter.unusedVariables false
set_option maxRecDepth 100000
namespace Go.Proofs.Ytjdbjahgimlhbaa
open Go.RowKit

/-- a slice whose memory lies from lo on -/
def ReadsIn (w : World) (lo size : Nat) (A : Option Addr) (n : Nat) (xs : List Value) : Prop :=
  xs.length = n * size ∧ (0 < n → ∃ b o, A = some ⟨b, o, none⟩ ∧ lo ≤ b ∧ b < w.heap.size ∧ ∀ j u, xs[j]? = some u → w.cell? ⟨b, o + j, none⟩ = some u)
theorem ReadsIn.reads {w : World} {lo size n : Nat} {A : Option Addr} {xs : List Value} (h : ReadsIn w lo size A n xs) : Reads w w.heap.size size A n xs :=
  ⟨h.1, fun h0 => by obtain ⟨b, o, e, _, hb, hc⟩ := h.2 h0; exact ⟨b, o, e, hb, hc⟩⟩
theorem ReadsIn.fr {S : Nat → Prop} {w w' : World} {lo size n : Nat} {A : Option Addr} {xs : List Value} (h : ReadsIn w lo size A n xs) (hf : Fr S w w') (hs : ∀ k, S k → k < lo) : ReadsIn w' lo size A n xs :=
  ⟨h.1, fun h0 => by
    obtain ⟨b, o, e, hl, hb, hc⟩ := h.2 h0
    exact ⟨b, o, e, hl, Nat.lt_of_lt_of_le hb hf.size, fun j u hu => hf.cell (hc j u hu) (fun hS => by have := hs _ hS; simp only at this; omega)⟩⟩
theorem ReadsIn.less {w : World} {lo lo' size n : Nat} {A : Option Addr} {xs : List Value} (h : ReadsIn w lo size A n xs) (hl : lo' ≤ lo) : ReadsIn w lo' size A n xs :=
  ⟨h.1, fun h0 => by obtain ⟨b, o, e, h1, hb, hc⟩ := h.2 h0; exact ⟨b, o, e, Nat.le_trans hl h1, hb, hc⟩⟩
theorem ReadsIn.of_own {w : World} {base size n c : Nat} {A : Option Addr} {xs : List Value} {e : TypeId} (h : w.ownsRow base e size (.slice A n c) n xs) : ReadsIn w base size A n xs := by
  have hr := Reads.of_own h
  refine ⟨hr.1, fun h0 => ?_⟩
  obtain ⟨b, o, rfl, hb, hc⟩ := hr.2 h0
  refine ⟨b, o, rfl, ?_, hb, hc⟩
  rcases h.2 with ⟨h1, _⟩ | ⟨g, cap, cur, h1, hg, _⟩
  · simp at h1
  · injection h1 with h1 _ _
    injection h1 with h1
    injection h1 with h1 _ _
    rw [h1]; exact hg
theorem ReadsIn.cell {w : World} {lo n k : Nat} {A : Option Addr} {xs : List Nat} (h : ReadsIn w lo 1 A n (xs.map u64v)) (hk : k < n) : ∃ b o, A = some ⟨b, o, none⟩ ∧ w.cell? ⟨b, o + k, none⟩ = some (.int .u64 ((xs.getD k 0 : Nat) : Int)) := by
  have hl : xs.length = n := by have := h.1; simpa using this
  obtain ⟨b, o, e, _, hb, hc⟩ := h.2 (by omega)
  refine ⟨b, o, e, hc k _ ?_⟩
  rw [List.getElem?_map, List.getElem?_eq_getElem (by omega)]
  simp [u64v, List.getD, show k < xs.length by omega]
theorem read_in {p g : Nat} {xs : List Nat} {w : World} (h : PlainAt w p g xs) :
    Calls Try.prog 26 #[.pointer (some ⟨p, 0, none⟩)] w fun e w' => ∃ A c, e = .returned (.slice A xs.length c) ∧ ReadsIn w' w.heap.size 1 A xs.length (xs.map u64v) ∧ Fr (fun _ => False) w w' := by
  obtain ⟨i0, hi, hz0, hz1, hz2⟩ := info_parts u64_info
  have hl := h.len
  have H := hide h
  clear h
  go_enter Try.func26, Try.ntmps26
  go_wp2
  go_loopw [3, 4] (fun r i wr => ∃ k : Nat, k ≤ xs.length ∧ i = .int .i64 k ∧ wr.ownsRow w.heap.size 36 1 r k ((xs.take k).map u64v) ∧ Hid (Fr (fun _ => False) w wr)) (fun _ i _ => xs.length - (intOf i).toNat)
  case atStart => exact ⟨0, by omega, rfl, by simpa using World.ownsRow_nil w _ 36 1, hide (Fr.refl _ _)⟩
  case round =>
    obtain ⟨k, hk, rfl, hown, HF⟩ := hrel
    have HP := hide (H.out.fr HF.out id id)
    go_wp2_with fail
    go_at_call 61
    refine (len_any HP.out).mono ?_
    rintro e w1 ⟨rfl, rfl⟩
    by_cases hlt : k < xs.length
    · have HG := hide (get_in HP.out k hlt)
      generalize hxk : xs.getD k 0 = x at *
      go_wp2_with fail
      go_at_call 21
      refine HG.out.mono ?_
      rintro e w1 ⟨rfl, rfl⟩
      go_wp2_with (at_builtin; refine wpList_append_box wr _ _ rfl (.tmp 19) (.tmp 21) _ rfl w.heap.size 36 i0 _ 1 8 Try.underlying49 hi hz0 hz1 hz2 rfl (by decide) _ _ _ rfl hown rfl rfl ?c1 ?c2 ?c3 ?c4 ?c5)
      case c1 => simp [Value.oneCell']
      case c2 => unfold maxLen; omega
      case c3 => omega
      case c4 => exact HF.out.size
      case c5 =>
        intro v' w1 hown1 hg _
        have HF1 := hide (HF.out.grown hg (fun q hq => .inr ((hown.lt q hq).1)))
        have hM : (xs.take k).map u64v ++ [Value.int .u64 (x : Int)] = (xs.take (k + 1)).map u64v := by
          rw [List.take_succ_eq_append_getElem hlt, List.map_append, ← hxk]
          simp [u64v, List.getD, hlt]
        have hown2 : w1.ownsRow w.heap.size 36 1 v' (k + 1) ((xs.take (k + 1)).map u64v) := by rw [← hM]; simpa [List.map_take] using hown1
        clear hown hown1 hg hM
        go_wp2
        go_roundw
        case rel => exact ⟨k + 1, by omega, by go_num, hown2, HF1⟩
        case measure => simp [intOf]; omega
    · obtain rfl : k = xs.length := by omega
      rw [List.take_of_length_le (Nat.le_refl _)] at hown
      obtain ⟨A, c, rfl⟩ := Reads.own_val hown
      have HR := hide (ReadsIn.of_own hown)
      clear hown
      go_wp2
      go_ret
      exact ⟨_, _, rfl, HR.out, HF.out⟩
end Go.Proofs.Ytjdbjahgimlhbaa
end
section
namespace Go.Proofs
open Go.Shelf
def Try.sortE_ren : Go.Shelf.Ren := ⟨fun | 6 => 129 | 15 => 106 | 14 => 141 | 28 => 125 | 29 => 126 | 20 => 144 | 21 => 145 | 22 => 146 | 23 => 147 | 24 => 148 | 25 => 149 | 26 => 150 | 27 => 151 | 46 => 154 | 47 => 135 | 48 => 136 | 49 => 155 | 50 => 156 | 57 => 157 | n => n, fun | 22 => 26 | 24 => 40 | 25 => 162 | 3 => 3 | 39 => 152 | 0 => 0 | 53 => 173 | 55 => 36 | 4 => 4 | 46 => 166 | 45 => 165 | 50 => 170 | 5 => 5 | 9 => 9 | 66 => 181 | 70 => 185 | 76 => 191 | 77 => 192 | n => n, fun | n => n⟩
theorem Try.sortE : Go.Proofs.SlLaysF0.n6 Try.prog Try.sortE_ren := {
  mixed := by kernel_rfl
  f6 := ⟨Try.f129.name, by decide, Try.func129.trans (congrArg some (by kernel_rfl))⟩
  f14 := ⟨Try.f141.name, by decide, Try.func141.trans (congrArg some (by kernel_rfl))⟩
  f15 := Try.func106.trans (congrArg some (by kernel_rfl))
  f20 := ⟨Try.f144.name, by decide, Try.func144.trans (congrArg some (by kernel_rfl))⟩
  f21 := ⟨Try.f145.name, by decide, Try.func145.trans (congrArg some (by kernel_rfl))⟩
  f22 := ⟨Try.f146.name, by decide, Try.func146.trans (congrArg some (by kernel_rfl))⟩
  f23 := ⟨Try.f147.name, by decide, Try.func147.trans (congrArg some (by kernel_rfl))⟩
  f24 := ⟨Try.f148.name, by decide, Try.func148.trans (congrArg some (by kernel_rfl))⟩
  f25 := ⟨Try.f149.name, by decide, Try.func149.trans (congrArg some (by kernel_rfl))⟩
  f26 := ⟨Try.f150.name, by decide, Try.func150.trans (congrArg some (by kernel_rfl))⟩
  f27 := ⟨Try.f151.name, by decide, Try.func151.trans (congrArg some (by kernel_rfl))⟩
  f28 := Try.func125.trans (congrArg some (by kernel_rfl))
  f29 := Try.func126.trans (congrArg some (by kernel_rfl))
  f46 := ⟨Try.f154.name, by decide, Try.func154.trans (congrArg some (by kernel_rfl))⟩
  f47 := Try.func135.trans (congrArg some (by kernel_rfl))
  f48 := Try.func136.trans (congrArg some (by kernel_rfl))
  f49 := ⟨Try.f155.name, by decide, Try.func155.trans (congrArg some (by kernel_rfl))⟩
  f50 := ⟨Try.f156.name, by decide, Try.func156.trans (congrArg some (by kernel_rfl))⟩
  f57 := ⟨Try.f157.name, by decide, Try.func157.trans (congrArg some (by kernel_rfl))⟩
  t0 := Try.underlying0
  a0 := Try.isAgg0
  z0 := Try.sizeOf0
  v0 := Try.zeroValue0
  t3 := Try.underlying3
  a3 := Try.isAgg3
  z3 := Try.sizeOf3
  v3 := Try.zeroValue3
  t4 := Try.underlying4
  a4 := Try.isAgg4
  z4 := Try.sizeOf4
  v4 := Try.zeroValue4
  t5 := Try.underlying5
  a5 := Try.isAgg5
  z5 := Try.sizeOf5
  v5 := Try.zeroValue5
  t9 := Try.underlying9
  a9 := Try.isAgg9
  z9 := Try.sizeOf9
  v9 := Try.zeroValue9
  t22 := Try.underlying26
  a22 := Try.isAgg26
  z22 := Try.sizeOf26
  v22 := Try.zeroValue26
  t25 := Try.underlying162
  a25 := Try.isAgg162
  z25 := Try.sizeOf162
  v25 := Try.zeroValue162
  t39 := Try.underlying152
  a39 := Try.isAgg152
  z39 := Try.sizeOf152
  v39 := Try.zeroValue152
  t45 := Try.underlying165
  a45 := Try.isAgg165
  z45 := Try.sizeOf165
  v45 := Try.zeroValue165
  t46 := Try.underlying166
  a46 := Try.isAgg166
  z46 := Try.sizeOf166
  v46 := Try.zeroValue166
  t50 := Try.underlying170
  a50 := Try.isAgg170
  z50 := Try.sizeOf170
  v50 := Try.zeroValue170
  t53 := Try.underlying173
  a53 := Try.isAgg173
  z53 := Try.sizeOf173
  v53 := Try.zeroValue173
  t55 := Try.underlying36
  a55 := Try.isAgg36
  z55 := Try.sizeOf36
  v55 := Try.zeroValue36
  t66 := Try.underlying181
  a66 := Try.isAgg181
  z66 := Try.sizeOf181
  v66 := Try.zeroValue181
  t70 := Try.underlying185
  a70 := Try.isAgg185
  z70 := Try.sizeOf185
  v70 := Try.zeroValue185
  t76 := Try.underlying191
  a76 := Try.isAgg191
  z76 := Try.sizeOf191
  v76 := Try.zeroValue191
  t77 := Try.underlying192
  a77 := Try.isAgg192
  z77 := Try.sizeOf192
  v77 := Try.zeroValue192 }
end Go.Proofs
end
section
set_option linter.unusedVariables false
set_option maxRecDepth 100000
namespace Go.Proofs.Ytjdbjahgimlhbaa
open Go.RowKit Go.Sort
open Gr (E)

def cmpN (x y : Nat) : Int := if x < y then -1 else if y < x then 1 else 0
def cmpE (a b : E) : Int := if cmpN a.1 b.1 ≠ 0 then cmpN a.1 b.1 else cmpN a.2 b.2
theorem nan_ok (x : Int) (w : World) : Calls Try.prog 139 #[.int .i64 x] w fun e w' => e = .returned (.bool false) ∧ w = w' := by
  go_enter Try.func139, Try.ntmps139
  go_wp2
  go_ret
  exact ⟨by simp, rfl⟩
theorem cmp_ok (x y : Nat) (w : World) : Calls Try.prog 132 #[.int .i64 (x : Int), .int .i64 (y : Int)] w fun e w' => e = .returned (.int .i64 (cmpN x y)) ∧ w = w' := by
  have H := hide (fun (x : Int) w => nan_ok x w)
  rcases Nat.lt_trichotomy x y with h | h | h
  · have e1 : cmpN x y = -1 := if_pos h
    rw [e1]
    have b1 : decide ((x : Int) < (y : Int)) = true := by simp; omega
    have b2 : decide (x < y) = true := by simp; omega
    clear e1
    go_enter Try.func132, Try.ntmps132
    go_wp2_with fail
    go_at_call 139
    refine (H.out _ _).mono ?_
    rintro e w1 ⟨rfl, rfl⟩
    go_wp2_with fail
    go_at_call 139
    refine (H.out _ _).mono ?_
    rintro e w1 ⟨rfl, rfl⟩
    go_wp2
    go_ret
    exact ⟨rfl, rfl⟩
  · subst h
    have e1 : cmpN x x = 0 := by simp [cmpN]
    rw [e1]
    have b1 : decide ((x : Int) < (x : Int)) = false := by simp
    clear e1
    go_enter Try.func132, Try.ntmps132
    go_wp2_with fail
    go_at_call 139
    refine (H.out _ _).mono ?_
    rintro e w1 ⟨rfl, rfl⟩
    go_wp2_with fail
    go_at_call 139
    refine (H.out _ _).mono ?_
    rintro e w1 ⟨rfl, rfl⟩
    go_wp2
    go_ret
    exact ⟨rfl, rfl⟩
  · have e1 : cmpN x y = 1 := by unfold cmpN; rw [if_neg (by omega), if_pos h]
    rw [e1]
    have b1 : decide ((x : Int) < (y : Int)) = false := by simp; omega
    have b2 : decide (x < y) = false := by simp; omega
    have b3 : decide ((y : Int) < (x : Int)) = true := by simp; omega
    have b4 : decide (y < x) = true := by simp; omega
    clear e1
    go_enter Try.func132, Try.ntmps132
    go_wp2_with fail
    go_at_call 139
    refine (H.out _ _).mono ?_
    rintro e w1 ⟨rfl, rfl⟩
    go_wp2_with fail
    go_at_call 139
    refine (H.out _ _).mono ?_
    rintro e w1 ⟨rfl, rfl⟩
    go_wp2
    go_ret
    exact ⟨rfl, rfl⟩
theorem or_ok (a b : Int) (g : Nat) (w : World) (hB : Blk w g 3 #[.int .i64 a, .int .i64 b]) :
    Calls Try.prog 131 #[.slice (some ⟨g, 0, none⟩) 2 2] w fun e w' => e = .returned (.int .i64 (if a ≠ 0 then a else b)) ∧ w = w' := by
  have c0 : w.cell? ⟨g, 0, none⟩ = some (.int .i64 a) := (hB.cell 0).trans rfl
  have c1 : w.cell? ⟨g, 1, none⟩ = some (.int .i64 b) := (hB.cell 1).trans rfl
  clear hB
  obtain ⟨z, hz⟩ : ∃ z, (if a ≠ 0 then a else b) = z := ⟨_, rfl⟩
  rw [hz]
  have HZ := hide hz
  clear hz
  go_enter Try.func131, Try.ntmps131
  go_wp2
  go_loopw [8] (fun i wr => ∃ k : Nat, k ≤ 2 ∧ i = .int .i64 (k : Int) ∧ wr = w ∧ (0 < k → a = 0) ∧ (1 < k → b = 0)) (fun i _ => 2 - (intOf i).toNat)
  case atStart => exact ⟨0, by omega, rfl, rfl, fun h => absurd h (by omega), fun h => absurd h (by omega)⟩
  case round =>
    obtain ⟨k, hk, rfl, rfl, ha, hb⟩ := hrel
    have h3 : k = 0 ∨ k = 1 ∨ k = 2 := by omega
    rcases h3 with rfl | rfl | rfl
    · by_cases h : a = 0
      · subst h
        go_wp2
        go_roundw
        case rel => exact ⟨1, by omega, rfl, by first | rfl | trivial, fun _ => by first | rfl | trivial, fun h => absurd h (by omega)⟩
        case measure => simp [intOf]
      · have hne : (a != 0) = true := by simpa using h
        have h2 := HZ.out
        rw [if_pos h] at h2
        subst h2
        go_wp2
        go_ret
        exact ⟨rfl, rfl⟩
    · by_cases h : b = 0
      · subst h
        go_wp2
        go_roundw
        case rel => exact ⟨2, by omega, rfl, by first | rfl | trivial, fun _ => by first | exact ha (by omega) | trivial, fun _ => by first | rfl | trivial⟩
        case measure => simp [intOf]
      · have hne : (b != 0) = true := by simpa using h
        have h2 := HZ.out
        rw [if_neg (fun h => h (ha (by omega)))] at h2
        subst h2
        go_wp2
        go_ret
        exact ⟨rfl, rfl⟩
    · have h2 := HZ.out
      rw [if_neg (fun h => h (ha (by omega))), hb (by omega)] at h2
      subst h2
      go_wp2
      go_ret
      exact ⟨rfl, rfl⟩
set_option maxHeartbeats 1600000 in
theorem by_ok (x y : E) (w : World) : Calls Try.prog 114 #[ev x, ev y] w fun e w' => e = .returned (.int .i64 (cmpE x y)) ∧ ∃ q os', w' = grow (w.drewN q) os' := by
  obtain ⟨W2, hW2⟩ : ∃ W2, W2 = (w.alloc (.cells #[.int .i64 (x.1 : Int), .int .i64 (x.2 : Int)] 40)).alloc (.cells #[.int .i64 (y.1 : Int), .int .i64 (y.2 : Int)] 40) := ⟨_, rfl⟩
  have b1 : Blk W2 w.heap.size 40 #[.int .i64 (x.1 : Int), .int .i64 (x.2 : Int)] := by rw [hW2]; exact (Blk.new _ _ _).alloc _
  have b2 : Blk W2 (w.heap.size + 1) 40 #[.int .i64 (y.1 : Int), .int .i64 (y.2 : Int)] := by
    rw [hW2]
    have := Blk.new (w.alloc (.cells #[.int .i64 (x.1 : Int), .int .i64 (x.2 : Int)] 40)) 40 #[.int .i64 (y.1 : Int), .int .i64 (y.2 : Int)]
    simpa using this
  obtain ⟨C, hC⟩ : ∃ C : Obj, C = .cells #[.int .i64 (cmpN x.1 y.1), .int .i64 (cmpN x.2 y.2)] 3 := ⟨_, rfl⟩
  have HCL := hide (fun W (h : W = W2.drew ∨ W = W2.drew.alloc C) => (show W.cell? ⟨w.heap.size, 0, none⟩ = some (.int .i64 (x.1 : Int)) ∧ W.cell? ⟨w.heap.size, 1, none⟩ = some (.int .i64 (x.2 : Int)) ∧ W.cell? ⟨w.heap.size + 1, 0, none⟩ = some (.int .i64 (y.1 : Int)) ∧ W.cell? ⟨w.heap.size + 1, 1, none⟩ = some (.int .i64 (y.2 : Int)) from by
    have hf : Fr (fun _ => False) W2 W := by
      rcases h with rfl | rfl
      · exact (Fr.refl _ _).drew
      · exact (Fr.refl _ _).drew.alloc _
    exact ⟨((b1.fr hf id).cell 0).trans rfl, ((b1.fr hf id).cell 1).trans rfl, ((b2.fr hf id).cell 0).trans rfl, ((b2.fr hf id).cell 1).trans rfl⟩))
  have HC1 := hide (fun w => cmp_ok x.1 y.1 w)
  have HC2 := hide (fun w => cmp_ok x.2 y.2 w)
  have HO := hide (fun (g : Nat) (w : World) (hB : Blk w g 3 #[.int .i64 (cmpN x.1 y.1), .int .i64 (cmpN x.2 y.2)]) => or_ok (cmpN x.1 y.1) (cmpN x.2 y.2) g w hB)
  have HZ := hide hW2
  have HCC := hide hC
  have HCB := hide (show Blk (W2.drew.alloc C) W2.heap.size 3 #[.int .i64 (cmpN x.1 y.1), .int .i64 (cmpN x.2 y.2)] by rw [hC]; exact Blk.new _ _ _)
  have HEND := hide (show cmpE x y = if cmpN x.1 y.1 ≠ 0 then cmpN x.1 y.1 else cmpN x.2 y.2 from rfl)
  rw [HEND.out]
  generalize cmpN x.1 y.1 = c1 at *
  generalize cmpN x.2 y.2 = c2 at *
  generalize (if c1 ≠ 0 then c1 else c2) = z at *
  unfold ev
  clear b1 b2 hW2 hC
  go_enter Try.func114, Try.ntmps114
  go_wp2_with fail
  rw [← HZ.out]
  refine wp_region_ord [(0, true), (1, true), (2, true), (3, true), (5, true), (6, true), (7, true), (8, true), (4, false), (9, false), (10, false), (11, false), (12, true)] (fun W => W = W2.drew ∨ W = W2.drew.alloc C) (by kernel_rfl) (by kernel_rfl) (.inl rfl) ?_
  iterate 8
    refine ord_read rfl ?_ ?_ (fun W hS => ?_) ?_
    · rfl
    rotate_left
    · (obtain ⟨s0, s1, s2, s3⟩ := HCL.out _ hS; go_simp; try with_reducible rfl)
    simp only [List.getElem_toArray, List.getElem_cons_zero, List.getElem_cons_succ, Act.put, List.setIfInBounds_toArray, List.set_cons_zero, List.set_cons_succ]
  refine ord_act rfl ?_
  go_wp2_with fail
  go_at_call 132
  refine (HC1.out _).mono ?_
  rintro e w3 ⟨rfl, rfl⟩
  go_wp2
  refine midQ_ok (.inl rfl) ?_
  refine ord_act rfl ?_
  go_wp2_with fail
  go_at_call 132
  refine (HC2.out _).mono ?_
  rintro e w3 ⟨rfl, rfl⟩
  go_wp2
  refine midQ_ok (.inl rfl) ?_
  refine ord_act rfl ?_
  go_wp2
  rw [← HCC.out]
  refine midQ_ok (.inr rfl) ?_
  refine ord_act rfl ?_
  go_wp2_with fail
  go_at_call 131
  refine (HO.out _ _ HCB.out).mono ?_
  rintro e w3 ⟨rfl, rfl⟩
  go_wp2
  refine midQ_ok (.inr rfl) ?_
  iterate 1
    refine ord_read rfl ?_ ?_ (fun W hS => ?_) ?_
    · rfl
    rotate_left
    · (skip; go_simp; try with_reducible rfl)
    simp only [List.getElem_toArray, List.getElem_cons_zero, List.getElem_cons_succ, Act.put, List.setIfInBounds_toArray, List.set_cons_zero, List.set_cons_succ]
  refine ord_done ?_
  refine NoPanic.normal ?_
  go_wp2
  go_ret
  refine ⟨rfl, 1, #[.cells #[.int .i64 (x.1 : Int), .int .i64 (x.2 : Int)] 40, .cells #[.int .i64 (y.1 : Int), .int .i64 (y.2 : Int)] 40, C], ?_⟩
  rw [HZ.out]
  show ((w.drew.alloc _).alloc _).alloc C = _
  rw [alloc_eq_grow, alloc_eq_grow, alloc_eq_grow, grow_grow, grow_grow]
  rfl
end Go.Proofs.Ytjdbjahgimlhbaa
end
