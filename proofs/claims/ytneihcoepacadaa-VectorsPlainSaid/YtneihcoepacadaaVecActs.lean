/-
  VectorsPlain: a number of a plain vector is what it was set to last, alone or with all, or 0; places that are none are refused, and change nothing. No condition.
-/
import Derived.Test.YtneihcoepacadaaVecSame
import Derived.Test.YtneihcoepacadaaFrame
import Derived.Deep.Slices
import Derived.Deep.Fields
set_option linter.unusedVariables false
namespace Go.Proofs.Ytneihcoepacadaa.vectorsPlain
open Go.RowKit Go.ChangeShapes Go.WideShapes Go.ChangeAt

def ActsAt (w : World) (B : Nat) (A : Option Addr) (n : Nat) : Prop := ∀ i, i < n → ∃ (b o k : Nat) (I : Int) (v : Nat), A = some ⟨b, o, none⟩ ∧ b < B ∧
  w.cell? ⟨b, o + i * 3, none⟩ = some (.int .u8 k) ∧ w.cell? ⟨b, o + i * 3 + 1, none⟩ = some (.int .i64 I) ∧ w.cell? ⟨b, o + i * 3 + 2, none⟩ = some (.int .u64 v) ∧ k < 256 ∧ -9223372036854775808 ≤ I ∧ I ≤ 9223372036854775807 ∧ v < 18446744073709551616

set_option maxRecDepth 100000 in
theorem walk_long (n : Int) (A : Option Addr) (m c : Nat) (w : World) (hm : 200 < m) : Calls Try.prog 3 #[.int .i64 n, .slice A m c] w fun e w' => e = .returned (.bool true) ∧ Fr (fun _ => False) w w' := by
  go_enter Try.func3, Try.ntmps3
  go_wp2
  go_ret
  exact ⟨rfl, Fr.refl _ _⟩
set_option maxRecDepth 100000 in
theorem walk_out (n : Int) (A : Option Addr) (m c : Nat) (w : World) (hm : m ≤ 200) (hn : n < 0 ∨ 256 < n) : Calls Try.prog 3 #[.int .i64 n, .slice A m c] w fun e w' => e = .returned (.bool true) ∧ Fr (fun _ => False) w w' := by
  rcases hn with hn | hn
  · go_enter Try.func3, Try.ntmps3
    go_wp2_with fail
    refine (new_out n _ (.inl hn)).mono ?_
    rintro e w1 ⟨rfl, rfl⟩
    go_wp2_with (go_at_call 9; refine (does_true _).mono ?_; rintro e w9 ⟨rfl, hf9⟩)
    go_ret
    exact ⟨rfl, hf9⟩
  · go_enter Try.func3, Try.ntmps3
    go_wp2_with fail
    refine (new_out n _ (.inr hn)).mono ?_
    rintro e w1 ⟨rfl, rfl⟩
    go_wp2_with (go_at_call 9; refine (does_true _).mono ?_; rintro e w9 ⟨rfl, hf9⟩)
    go_ret
    exact ⟨rfl, hf9⟩
set_option maxHeartbeats 8000000 in
set_option maxRecDepth 100000 in
theorem walk_in (n : Nat) (A : Option Addr) (m c : Nat) (w : World) (hm : m ≤ 200) (hn : n ≤ 256) (hacts : ActsAt w w.heap.size A m) :
    Calls Try.prog 3 #[.int .i64 n, .slice A m c] w fun e w' => e = .returned (.bool true) ∧ Fr (fun _ => False) w w' := by
  obtain ⟨Z, hZ, hz⟩ : ∃ Z : Array Value, Z = ((List.replicate 256 0).map u64v).toArray ∧ ∀ w, (zeroValue 30).run Try.prog w = .ok (.agg Z) w := ⟨_, rfl, fun _ => by kernel_rfl⟩
  have HZ := hide hZ
  clear hZ
  go_enter Try.func3, Try.ntmps3
  go_wp2_with fail
  refine (new_ok n _ hn).mono ?_
  rintro e w1 ⟨p, g, rfl, hp, hg, hP, hf1⟩
  have hlen : (List.replicate n 0).length = n := by simp
  go_wp2_with fail
  refine (len_any hP).mono ?_
  rintro e w2 ⟨rfl, rfl⟩
  rw [hlen]
  have hb : w1.heap.size + 1 = w1.heap.size + 1 := rfl
  clear hb
  go_wp2
  go_loopw [8] (fun i wr => ∃ (k : Nat) (vs : List Nat), k ≤ m ∧ i = .int .i64 k ∧ PlainAt wr p g (vs.take n) ∧ Blk wr w1.heap.size 30 (vs.map u64v).toArray ∧ Hid (vs.length = 256) ∧ Fr (fun _ => False) w wr) (fun i _ => m - (intOf i).toNat)
  case atStart =>
    refine ⟨0, List.replicate 256 0, by omega, rfl, ?_, ?_, hide (by simp), hf1.alloc _⟩
    · have e : (List.replicate 256 0).take n = List.replicate n 0 := by rw [List.take_replicate, Nat.min_eq_left hn]
      rw [e]
      exact hP.fr ((Fr.refl (fun _ => False) w1).alloc _) (fun h => h) (fun h => h)
    · rw [← HZ.out]; exact Blk.new _ _ _
  case round =>
    obtain ⟨k, vs, hk, rfl, hv, hblk, HV, hfr⟩ := hrel
    have hv0 := hv
    have hnv : (vs.take n).length = n := by rw [List.length_take, HV.out]; omega
    by_cases hkm : k < m
    · obtain ⟨b, o, K, I, V, rfl, hb, c0, c1, c2, hK, hI0, hI1, hV⟩ := hacts k hkm
      have d0 := hfr.cell c0 (fun h => h)
      have d1 := hfr.cell c1 (fun h => h)
      have d2 := hfr.cell c2 (fun h => h)
      have hlt : w1.heap.size < wr.heap.size := hblk.lt
      have hgl : g < wr.heap.size := hv.row.lt
      have hpl : p < wr.heap.size := hv.head.lt
      have hag : w1.heap.size ≠ g := hblk.ne_ hv.row (by decide)
      have hap : w1.heap.size ≠ p := hblk.ne_ hv.head (by decide)
      have HA := hide hacts
      have HF := hide hfr
      clear hacts hfr c0 c1 c2 hlen hv0 hP
      rcases (show K % 4 = 0 ∨ K % 4 = 1 ∨ K % 4 = 2 ∨ K % 4 = 3 by omega) with hk4 | hk4 | hk4 | hk4
      · have k0 : ((K : Int) % 4 == 0) = true := by simp; omega
        clear hk4
        by_cases hi : 0 ≤ I ∧ I < n
        · obtain ⟨i, rfl⟩ : ∃ i : Nat, I = i := ⟨I.toNat, by omega⟩
          have hin : i < n := by omega
          have hi256 : i < 256 := by omega
          have q1 := Blk.new wr 32 #[.int .u8 (K : Int), .int .i64 (i:Int), .int .u64 (V : Int)]
          have hvA := hv.fr ((Fr.refl (fun _ => False) wr).alloc (.cells #[.int .u8 (K : Int), .int .i64 (i:Int), .int .u64 (V : Int)] 32)) (fun h => h) (fun h => h)
          have hbA := hblk.alloc (.cells #[.int .u8 (K : Int), .int .i64 (i:Int), .int .u64 (V : Int)] 32)
          have hfA := HF.out.alloc (.cells #[.int .u8 (K : Int), .int .i64 (i:Int), .int .u64 (V : Int)] 32)
          clear hv hblk
          go_wp2_with fail
          refine (set_in hvA i V (by omega) hV).mono ?_
          rintro e w2 ⟨rfl, hv2, hf2⟩
          have q2 := q1.fr hf2 (by omega)
          have r1 : w2.cell? ⟨wr.heap.size, 1, none⟩ = some (.int .i64 (i : Int)) := (q2.cell 1).trans rfl
          have r2 : w2.cell? ⟨wr.heap.size, 2, none⟩ = some (.int .u64 (V : Int)) := (q2.cell 2).trans rfl
          have b2 := hbA.fr hf2 hag
          have hF2 := hfA.trans hf2 (fun k hk => .inr (by omega))
          have b3 : w2.cell? ⟨w1.heap.size, i, none⟩ = some (.int .u64 (vs.getD i 0 : Nat)) := by
            rw [b2.cell]
            have := HV.out
            simp [show i < vs.length by omega, u64v]
          have b4 := b2.frozen i
          have hset : PlainAt (w2.setCell ⟨w1.heap.size, i, none⟩ (.int .u64 (V : Int))) p g ((vs.set i V).take n) := by
            rw [List.take_set]
            exact hv2.fr (Fr.one _ _ _ _) (by omega) (by omega)
          have hset2 : Blk (w2.setCell ⟨w1.heap.size, i, none⟩ (.int .u64 (V : Int))) w1.heap.size 30 ((vs.set i V).map u64v).toArray := by
            have := b2.set_ i (.int .u64 (V : Int))
            simpa [List.map_set, u64v] using this
          have hF3 := hF2.setCell (p := ⟨w1.heap.size, i, none⟩) (.inr hf1.size) (.int .u64 (V : Int))
          generalize ((vs.getD i 0 : Nat) : Int) = z at b3
          clear hvA hbA hfA q1 q2 hf2 b2 hF2 hv2
          go_wp2
          go_roundw
          case rel => exact ⟨k + 1, _, by omega, by go_num, hset, hset2, hide (by rw [List.length_set]; exact HV.out), hF3⟩
          case measure => simp [intOf]; omega
        · by_cases hi0 : I < 0
          · have q1 := Blk.new wr 32 #[.int .u8 (K : Int), .int .i64 I, .int .u64 (V : Int)]
            have hvA := hv.fr ((Fr.refl (fun _ => False) wr).alloc (.cells #[.int .u8 (K : Int), .int .i64 I, .int .u64 (V : Int)] 32)) (fun h => h) (fun h => h)
            have hbA := hblk.alloc (.cells #[.int .u8 (K : Int), .int .i64 I, .int .u64 (V : Int)] 32)
            have hfA := HF.out.alloc (.cells #[.int .u8 (K : Int), .int .i64 I, .int .u64 (V : Int)] 32)
            clear hv hblk
            go_wp2_with fail
            refine (set_out hvA I V (.inl hi0)).mono ?_
            rintro e w2 ⟨rfl, rfl⟩
            have r1 : (wr.alloc (.cells #[.int .u8 (K : Int), .int .i64 I, .int .u64 (V : Int)] 32)).cell? ⟨wr.heap.size, 1, none⟩ = some (.int .i64 I) := (q1.cell 1).trans rfl
            clear q1
            go_wp2
            go_roundw
            case rel => exact ⟨k + 1, _, by omega, by go_num, hvA, hbA, HV, hfA⟩
            case measure => simp [intOf]; omega
          · have hi1 : 0 ≤ I := by omega
            have hi2 : (n : Int) ≤ I := by omega
            have q1 := Blk.new wr 32 #[.int .u8 (K : Int), .int .i64 I, .int .u64 (V : Int)]
            have hvA := hv.fr ((Fr.refl (fun _ => False) wr).alloc (.cells #[.int .u8 (K : Int), .int .i64 I, .int .u64 (V : Int)] 32)) (fun h => h) (fun h => h)
            have hbA := hblk.alloc (.cells #[.int .u8 (K : Int), .int .i64 I, .int .u64 (V : Int)] 32)
            have hfA := HF.out.alloc (.cells #[.int .u8 (K : Int), .int .i64 I, .int .u64 (V : Int)] 32)
            clear hv hblk hi
            go_wp2_with fail
            refine (set_out hvA I V (.inr (by rw [hnv]; exact hi2))).mono ?_
            rintro e w2 ⟨rfl, rfl⟩
            have r1 : (wr.alloc (.cells #[.int .u8 (K : Int), .int .i64 I, .int .u64 (V : Int)] 32)).cell? ⟨wr.heap.size, 1, none⟩ = some (.int .i64 I) := (q1.cell 1).trans rfl
            clear q1
            go_wp2
            go_roundw
            case rel => exact ⟨k + 1, _, by omega, by go_num, hvA, hbA, HV, hfA⟩
            case measure => simp [intOf]; omega
      · have k0 : ((K : Int) % 4 == 0) = false := by simp; omega
        have k1 : ((K : Int) % 4 == 1) = true := by simp; omega
        clear hk4
        by_cases hi : 0 ≤ I ∧ I < n
        · obtain ⟨i, rfl⟩ : ∃ i : Nat, I = i := ⟨I.toNat, by omega⟩
          have hin : i < n := by omega
          have hi256 : i < 256 := by omega
          have q1 := Blk.new wr 32 #[.int .u8 (K : Int), .int .i64 (i:Int), .int .u64 (V : Int)]
          have hvA := hv.fr ((Fr.refl (fun _ => False) wr).alloc (.cells #[.int .u8 (K : Int), .int .i64 (i:Int), .int .u64 (V : Int)] 32)) (fun h => h) (fun h => h)
          have hbA := hblk.alloc (.cells #[.int .u8 (K : Int), .int .i64 (i:Int), .int .u64 (V : Int)] 32)
          have hfA := HF.out.alloc (.cells #[.int .u8 (K : Int), .int .i64 (i:Int), .int .u64 (V : Int)] 32)
          clear hv hblk
          go_wp2_with fail
          refine (set_in hvA i V (by omega) hV).mono ?_
          rintro e w2 ⟨rfl, hv2, hf2⟩
          have q2 := q1.fr hf2 (by omega)
          have r1 : w2.cell? ⟨wr.heap.size, 1, none⟩ = some (.int .i64 (i : Int)) := (q2.cell 1).trans rfl
          have r2 : w2.cell? ⟨wr.heap.size, 2, none⟩ = some (.int .u64 (V : Int)) := (q2.cell 2).trans rfl
          have b2 := hbA.fr hf2 hag
          have hF2 := hfA.trans hf2 (fun k hk => .inr (by omega))
          have b3 : w2.cell? ⟨w1.heap.size, i, none⟩ = some (.int .u64 (vs.getD i 0 : Nat)) := by
            rw [b2.cell]
            have := HV.out
            simp [show i < vs.length by omega, u64v]
          have b4 := b2.frozen i
          have hset : PlainAt (w2.setCell ⟨w1.heap.size, i, none⟩ (.int .u64 (V : Int))) p g ((vs.set i V).take n) := by
            rw [List.take_set]
            exact hv2.fr (Fr.one _ _ _ _) (by omega) (by omega)
          have hset2 : Blk (w2.setCell ⟨w1.heap.size, i, none⟩ (.int .u64 (V : Int))) w1.heap.size 30 ((vs.set i V).map u64v).toArray := by
            have := b2.set_ i (.int .u64 (V : Int))
            simpa [List.map_set, u64v] using this
          have hF3 := hF2.setCell (p := ⟨w1.heap.size, i, none⟩) (.inr hf1.size) (.int .u64 (V : Int))
          generalize ((vs.getD i 0 : Nat) : Int) = z at b3
          clear hvA hbA hfA q1 q2 hf2 b2 hF2 hv2
          go_wp2
          go_roundw
          case rel => exact ⟨k + 1, _, by omega, by go_num, hset, hset2, hide (by rw [List.length_set]; exact HV.out), hF3⟩
          case measure => simp [intOf]; omega
        · by_cases hi0 : I < 0
          · have q1 := Blk.new wr 32 #[.int .u8 (K : Int), .int .i64 I, .int .u64 (V : Int)]
            have hvA := hv.fr ((Fr.refl (fun _ => False) wr).alloc (.cells #[.int .u8 (K : Int), .int .i64 I, .int .u64 (V : Int)] 32)) (fun h => h) (fun h => h)
            have hbA := hblk.alloc (.cells #[.int .u8 (K : Int), .int .i64 I, .int .u64 (V : Int)] 32)
            have hfA := HF.out.alloc (.cells #[.int .u8 (K : Int), .int .i64 I, .int .u64 (V : Int)] 32)
            clear hv hblk
            go_wp2_with fail
            refine (set_out hvA I V (.inl hi0)).mono ?_
            rintro e w2 ⟨rfl, rfl⟩
            have r1 : (wr.alloc (.cells #[.int .u8 (K : Int), .int .i64 I, .int .u64 (V : Int)] 32)).cell? ⟨wr.heap.size, 1, none⟩ = some (.int .i64 I) := (q1.cell 1).trans rfl
            clear q1
            go_wp2
            go_roundw
            case rel => exact ⟨k + 1, _, by omega, by go_num, hvA, hbA, HV, hfA⟩
            case measure => simp [intOf]; omega
          · have hi1 : 0 ≤ I := by omega
            have hi2 : (n : Int) ≤ I := by omega
            have q1 := Blk.new wr 32 #[.int .u8 (K : Int), .int .i64 I, .int .u64 (V : Int)]
            have hvA := hv.fr ((Fr.refl (fun _ => False) wr).alloc (.cells #[.int .u8 (K : Int), .int .i64 I, .int .u64 (V : Int)] 32)) (fun h => h) (fun h => h)
            have hbA := hblk.alloc (.cells #[.int .u8 (K : Int), .int .i64 I, .int .u64 (V : Int)] 32)
            have hfA := HF.out.alloc (.cells #[.int .u8 (K : Int), .int .i64 I, .int .u64 (V : Int)] 32)
            clear hv hblk hi
            go_wp2_with fail
            refine (set_out hvA I V (.inr (by rw [hnv]; exact hi2))).mono ?_
            rintro e w2 ⟨rfl, rfl⟩
            have r1 : (wr.alloc (.cells #[.int .u8 (K : Int), .int .i64 I, .int .u64 (V : Int)] 32)).cell? ⟨wr.heap.size, 1, none⟩ = some (.int .i64 I) := (q1.cell 1).trans rfl
            clear q1
            go_wp2
            go_roundw
            case rel => exact ⟨k + 1, _, by omega, by go_num, hvA, hbA, HV, hfA⟩
            case measure => simp [intOf]; omega
      · have k0 : ((K : Int) % 4 == 0) = false := by simp; omega
        have k1 : ((K : Int) % 4 == 1) = false := by simp; omega
        have k2 : ((K : Int) % 4 == 2) = true := by simp; omega
        clear hk4
        by_cases hi : 0 ≤ I ∧ I < n
        · obtain ⟨i, rfl⟩ : ∃ i : Nat, I = i := ⟨I.toNat, by omega⟩
          have hin : i < n := by omega
          have hi256 : i < 256 := by omega
          have q1 := Blk.new wr 32 #[.int .u8 (K : Int), .int .i64 (i:Int), .int .u64 (V : Int)]
          have hvA := hv.fr ((Fr.refl (fun _ => False) wr).alloc (.cells #[.int .u8 (K : Int), .int .i64 (i:Int), .int .u64 (V : Int)] 32)) (fun h => h) (fun h => h)
          have hbA := hblk.alloc (.cells #[.int .u8 (K : Int), .int .i64 (i:Int), .int .u64 (V : Int)] 32)
          have hfA := HF.out.alloc (.cells #[.int .u8 (K : Int), .int .i64 (i:Int), .int .u64 (V : Int)] 32)
          clear hv hblk
          have e : (vs.take n).getD i 0 = vs.getD i 0 := by simp [List.getD, hin]
          have he := hide e
          have b3 : (wr.alloc (.cells #[.int .u8 (K : Int), .int .i64 (i:Int), .int .u64 (V : Int)] 32)).cell? ⟨w1.heap.size, i, none⟩ = some (.int .u64 (vs.getD i 0 : Nat)) := by
            rw [hbA.cell]
            have := HV.out
            simp [show i < vs.length by omega, u64v]
          clear e
          go_wp2_with fail
          refine (get_in hvA i (by omega)).mono ?_
          rw [he.out]
          rintro e w2 ⟨rfl, rfl⟩
          have r1 : (wr.alloc (.cells #[.int .u8 (K : Int), .int .i64 (i:Int), .int .u64 (V : Int)] 32)).cell? ⟨wr.heap.size, 1, none⟩ = some (.int .i64 (i:Int)) := (q1.cell 1).trans rfl
          generalize ((vs.getD i 0 : Nat) : Int) = z at *
          clear q1
          go_wp2
          go_roundw
          case rel => exact ⟨k + 1, _, by omega, by go_num, hvA, hbA, HV, hfA⟩
          case measure => simp [intOf]; omega
        · by_cases hi0 : I < 0
          · have q1 := Blk.new wr 32 #[.int .u8 (K : Int), .int .i64 I, .int .u64 (V : Int)]
            have hvA := hv.fr ((Fr.refl (fun _ => False) wr).alloc (.cells #[.int .u8 (K : Int), .int .i64 I, .int .u64 (V : Int)] 32)) (fun h => h) (fun h => h)
            have hbA := hblk.alloc (.cells #[.int .u8 (K : Int), .int .i64 I, .int .u64 (V : Int)] 32)
            have hfA := HF.out.alloc (.cells #[.int .u8 (K : Int), .int .i64 I, .int .u64 (V : Int)] 32)
            clear hv hblk
            go_wp2_with fail
            refine (get_out hvA I (.inl hi0)).mono ?_
            rintro e w2 ⟨rfl, rfl⟩
            have r1 : (wr.alloc (.cells #[.int .u8 (K : Int), .int .i64 I, .int .u64 (V : Int)] 32)).cell? ⟨wr.heap.size, 1, none⟩ = some (.int .i64 I) := (q1.cell 1).trans rfl
            clear q1
            go_wp2
            go_roundw
            case rel => exact ⟨k + 1, _, by omega, by go_num, hvA, hbA, HV, hfA⟩
            case measure => simp [intOf]; omega
          · have hi1 : 0 ≤ I := by omega
            have hi2 : (n : Int) ≤ I := by omega
            have q1 := Blk.new wr 32 #[.int .u8 (K : Int), .int .i64 I, .int .u64 (V : Int)]
            have hvA := hv.fr ((Fr.refl (fun _ => False) wr).alloc (.cells #[.int .u8 (K : Int), .int .i64 I, .int .u64 (V : Int)] 32)) (fun h => h) (fun h => h)
            have hbA := hblk.alloc (.cells #[.int .u8 (K : Int), .int .i64 I, .int .u64 (V : Int)] 32)
            have hfA := HF.out.alloc (.cells #[.int .u8 (K : Int), .int .i64 I, .int .u64 (V : Int)] 32)
            clear hv hblk hi
            go_wp2_with fail
            refine (get_out hvA I (.inr (by rw [hnv]; exact hi2))).mono ?_
            rintro e w2 ⟨rfl, rfl⟩
            have r1 : (wr.alloc (.cells #[.int .u8 (K : Int), .int .i64 I, .int .u64 (V : Int)] 32)).cell? ⟨wr.heap.size, 1, none⟩ = some (.int .i64 I) := (q1.cell 1).trans rfl
            clear q1
            go_wp2
            go_roundw
            case rel => exact ⟨k + 1, _, by omega, by go_num, hvA, hbA, HV, hfA⟩
            case measure => simp [intOf]; omega
      · have k0 : ((K : Int) % 4 == 0) = false := by simp; omega
        have k1 : ((K : Int) % 4 == 1) = false := by simp; omega
        have k2 : ((K : Int) % 4 == 2) = false := by simp; omega
        clear hk4
        by_cases hi : 0 ≤ I ∧ I < n
        · have hi1 := hi.1
          have hi2 := hi.2
          have q1 := Blk.new wr 32 #[.int .u8 (K : Int), .int .i64 I, .int .u64 (V : Int)]
          have hvA := hv.fr ((Fr.refl (fun _ => False) wr).alloc (.cells #[.int .u8 (K : Int), .int .i64 I, .int .u64 (V : Int)] 32)) (fun h => h) (fun h => h)
          have hbA := hblk.alloc (.cells #[.int .u8 (K : Int), .int .i64 I, .int .u64 (V : Int)] 32)
          have hfA := HF.out.alloc (.cells #[.int .u8 (K : Int), .int .i64 I, .int .u64 (V : Int)] 32)
          clear hv hblk hi
          go_wp2_with fail
          refine (fill_any hvA V hV).mono ?_
          rintro e w2 ⟨rfl, hv2, hf2⟩
          rw [hnv] at hv2
          have q2 := q1.fr hf2 (by omega)
          have b2 := hbA.fr hf2 hag
          have hF2 := hfA.trans hf2 (fun k hk => .inr (by omega))
          have H2 := hide (And.intro hv2 (And.intro b2 (And.intro q2 hF2)))
          clear hvA hbA hfA q1 hf2 hF2 hv2 b2 q2
          obtain ⟨wo, rfl⟩ : ∃ wo : World, wo = wr := ⟨_, rfl⟩
          go_wp2
          go_loopw [14] (fun j wr => ∃ q : Nat, q ≤ n ∧ j = .int .i64 q ∧ PlainAt wr p g (List.replicate n V) ∧ Blk wr w1.heap.size 30 ((List.replicate q V ++ vs.drop q).map u64v).toArray ∧ Blk wr wo.heap.size 32 #[.int .u8 (K : Int), .int .i64 I, .int .u64 (V : Int)] ∧ Fr (fun _ => False) w wr) (fun j _ => n - (intOf j).toNat)
          case atStart => exact ⟨0, by omega, rfl, H2.out.1, by simpa using H2.out.2.1, H2.out.2.2.1, H2.out.2.2.2⟩
          case round =>
            obtain ⟨q, hq, rfl, hvq, hbq, hxq, hfq⟩ := hrel
            have r2 : wr.cell? ⟨wo.heap.size, 2, none⟩ = some (.int .u64 (V : Int)) := (hxq.cell 2).trans rfl
            by_cases hqn : q < n
            · have hl := HV.out
              have b3 : ∃ z, wr.cell? ⟨w1.heap.size, q, none⟩ = some z := by
                rw [hbq.cell]
                simp [show q < q + (vs.length - q) by omega]
              obtain ⟨z, b3⟩ := b3
              have b4 := hbq.frozen q
              have hset : Blk (wr.setCell ⟨w1.heap.size, q, none⟩ (.int .u64 (V : Int))) w1.heap.size 30 ((List.replicate (q + 1) V ++ vs.drop (q + 1)).map u64v).toArray := by
                have h := hbq.set_ q (.int .u64 (V : Int))
                have e : (List.replicate q V ++ vs.drop q).set q V = List.replicate (q + 1) V ++ vs.drop (q + 1) := by
                  rw [List.set_append_right _ _ (by simp)]
                  simp only [List.length_replicate, Nat.sub_self]
                  rw [List.drop_eq_getElem_cons (by omega), List.set_cons_zero, List.replicate_succ', List.append_assoc]; rfl
                rw [← e, List.map_set]
                simpa [u64v] using h
              have hv3 : PlainAt (wr.setCell ⟨w1.heap.size, q, none⟩ (.int .u64 (V : Int))) p g (List.replicate n V) := hvq.fr (Fr.one _ _ _ _) (by omega) (by omega)
              have hx3 : Blk (wr.setCell ⟨w1.heap.size, q, none⟩ (.int .u64 (V : Int))) wo.heap.size 32 #[.int .u8 (K : Int), .int .i64 I, .int .u64 (V : Int)] := hxq.fr (Fr.one _ _ _ _) (by omega)
              have hF3 := hfq.setCell (p := ⟨w1.heap.size, q, none⟩) (.inr hf1.size) (.int .u64 (V : Int))
              have hq256 : q < 256 := by omega
              clear hvq hbq hxq hfq hl
              go_wp2
              go_roundw
              case rel => exact ⟨q + 1, by omega, by go_num, hv3, hset, hx3, hF3⟩
              case measure => simp [intOf]; omega
            · obtain rfl : q = n := by omega
              have hvv : PlainAt wr p g ((List.replicate q V ++ vs.drop q).take q) := by
                rw [List.take_append_of_le_length (by simp), List.take_of_length_le (by simp)]
                exact hvq
              have hln : Hid ((List.replicate q V ++ vs.drop q).length = 256) := hide (by have := HV.out; simp; omega)
              clear hvq
              go_wp2
              go_roundw
              case rel => exact ⟨k + 1, _, by omega, by go_num, hvv, hbq, hln, hfq⟩
              case measure => simp [intOf]; omega
        · by_cases hi0 : I < 0
          · have q1 := Blk.new wr 32 #[.int .u8 (K : Int), .int .i64 I, .int .u64 (V : Int)]
            have hvA := hv.fr ((Fr.refl (fun _ => False) wr).alloc (.cells #[.int .u8 (K : Int), .int .i64 I, .int .u64 (V : Int)] 32)) (fun h => h) (fun h => h)
            have hbA := hblk.alloc (.cells #[.int .u8 (K : Int), .int .i64 I, .int .u64 (V : Int)] 32)
            have hfA := HF.out.alloc (.cells #[.int .u8 (K : Int), .int .i64 I, .int .u64 (V : Int)] 32)
            clear hv hblk hi
            go_wp2_with fail
            refine (fill_any hvA V hV).mono ?_
            rintro e w2 ⟨rfl, hv2, hf2⟩
            rw [hnv] at hv2
            have q2 := q1.fr hf2 (by omega)
            have b2 := hbA.fr hf2 hag
            have hF2 := hfA.trans hf2 (fun k hk => .inr (by omega))
            have H2 := hide (And.intro hv2 (And.intro b2 (And.intro q2 hF2)))
            clear hvA hbA hfA q1 hf2 hF2 hv2 b2 q2
            obtain ⟨wo, rfl⟩ : ∃ wo : World, wo = wr := ⟨_, rfl⟩
            go_wp2
            go_loopw [14] (fun j wr => ∃ q : Nat, q ≤ n ∧ j = .int .i64 q ∧ PlainAt wr p g (List.replicate n V) ∧ Blk wr w1.heap.size 30 ((List.replicate q V ++ vs.drop q).map u64v).toArray ∧ Blk wr wo.heap.size 32 #[.int .u8 (K : Int), .int .i64 I, .int .u64 (V : Int)] ∧ Fr (fun _ => False) w wr) (fun j _ => n - (intOf j).toNat)
            case atStart => exact ⟨0, by omega, rfl, H2.out.1, by simpa using H2.out.2.1, H2.out.2.2.1, H2.out.2.2.2⟩
            case round =>
              obtain ⟨q, hq, rfl, hvq, hbq, hxq, hfq⟩ := hrel
              have r2 : wr.cell? ⟨wo.heap.size, 2, none⟩ = some (.int .u64 (V : Int)) := (hxq.cell 2).trans rfl
              by_cases hqn : q < n
              · have hl := HV.out
                have b3 : ∃ z, wr.cell? ⟨w1.heap.size, q, none⟩ = some z := by
                  rw [hbq.cell]
                  simp [show q < q + (vs.length - q) by omega]
                obtain ⟨z, b3⟩ := b3
                have b4 := hbq.frozen q
                have hset : Blk (wr.setCell ⟨w1.heap.size, q, none⟩ (.int .u64 (V : Int))) w1.heap.size 30 ((List.replicate (q + 1) V ++ vs.drop (q + 1)).map u64v).toArray := by
                  have h := hbq.set_ q (.int .u64 (V : Int))
                  have e : (List.replicate q V ++ vs.drop q).set q V = List.replicate (q + 1) V ++ vs.drop (q + 1) := by
                    rw [List.set_append_right _ _ (by simp)]
                    simp only [List.length_replicate, Nat.sub_self]
                    rw [List.drop_eq_getElem_cons (by omega), List.set_cons_zero, List.replicate_succ', List.append_assoc]; rfl
                  rw [← e, List.map_set]
                  simpa [u64v] using h
                have hv3 : PlainAt (wr.setCell ⟨w1.heap.size, q, none⟩ (.int .u64 (V : Int))) p g (List.replicate n V) := hvq.fr (Fr.one _ _ _ _) (by omega) (by omega)
                have hx3 : Blk (wr.setCell ⟨w1.heap.size, q, none⟩ (.int .u64 (V : Int))) wo.heap.size 32 #[.int .u8 (K : Int), .int .i64 I, .int .u64 (V : Int)] := hxq.fr (Fr.one _ _ _ _) (by omega)
                have hF3 := hfq.setCell (p := ⟨w1.heap.size, q, none⟩) (.inr hf1.size) (.int .u64 (V : Int))
                have hq256 : q < 256 := by omega
                clear hvq hbq hxq hfq hl
                go_wp2
                go_roundw
                case rel => exact ⟨q + 1, by omega, by go_num, hv3, hset, hx3, hF3⟩
                case measure => simp [intOf]; omega
              · obtain rfl : q = n := by omega
                have hvv : PlainAt wr p g ((List.replicate q V ++ vs.drop q).take q) := by
                  rw [List.take_append_of_le_length (by simp), List.take_of_length_le (by simp)]
                  exact hvq
                have hln : Hid ((List.replicate q V ++ vs.drop q).length = 256) := hide (by have := HV.out; simp; omega)
                clear hvq
                go_wp2
                go_roundw
                case rel => exact ⟨k + 1, _, by omega, by go_num, hvv, hbq, hln, hfq⟩
                case measure => simp [intOf]; omega
          · have hi1 : 0 ≤ I := by omega
            have hi2 : (n : Int) ≤ I := by omega
            have q1 := Blk.new wr 32 #[.int .u8 (K : Int), .int .i64 I, .int .u64 (V : Int)]
            have hvA := hv.fr ((Fr.refl (fun _ => False) wr).alloc (.cells #[.int .u8 (K : Int), .int .i64 I, .int .u64 (V : Int)] 32)) (fun h => h) (fun h => h)
            have hbA := hblk.alloc (.cells #[.int .u8 (K : Int), .int .i64 I, .int .u64 (V : Int)] 32)
            have hfA := HF.out.alloc (.cells #[.int .u8 (K : Int), .int .i64 I, .int .u64 (V : Int)] 32)
            clear hv hblk hi
            go_wp2_with fail
            refine (fill_any hvA V hV).mono ?_
            rintro e w2 ⟨rfl, hv2, hf2⟩
            rw [hnv] at hv2
            have q2 := q1.fr hf2 (by omega)
            have b2 := hbA.fr hf2 hag
            have hF2 := hfA.trans hf2 (fun k hk => .inr (by omega))
            have H2 := hide (And.intro hv2 (And.intro b2 (And.intro q2 hF2)))
            clear hvA hbA hfA q1 hf2 hF2 hv2 b2 q2
            obtain ⟨wo, rfl⟩ : ∃ wo : World, wo = wr := ⟨_, rfl⟩
            go_wp2
            go_loopw [14] (fun j wr => ∃ q : Nat, q ≤ n ∧ j = .int .i64 q ∧ PlainAt wr p g (List.replicate n V) ∧ Blk wr w1.heap.size 30 ((List.replicate q V ++ vs.drop q).map u64v).toArray ∧ Blk wr wo.heap.size 32 #[.int .u8 (K : Int), .int .i64 I, .int .u64 (V : Int)] ∧ Fr (fun _ => False) w wr) (fun j _ => n - (intOf j).toNat)
            case atStart => exact ⟨0, by omega, rfl, H2.out.1, by simpa using H2.out.2.1, H2.out.2.2.1, H2.out.2.2.2⟩
            case round =>
              obtain ⟨q, hq, rfl, hvq, hbq, hxq, hfq⟩ := hrel
              have r2 : wr.cell? ⟨wo.heap.size, 2, none⟩ = some (.int .u64 (V : Int)) := (hxq.cell 2).trans rfl
              by_cases hqn : q < n
              · have hl := HV.out
                have b3 : ∃ z, wr.cell? ⟨w1.heap.size, q, none⟩ = some z := by
                  rw [hbq.cell]
                  simp [show q < q + (vs.length - q) by omega]
                obtain ⟨z, b3⟩ := b3
                have b4 := hbq.frozen q
                have hset : Blk (wr.setCell ⟨w1.heap.size, q, none⟩ (.int .u64 (V : Int))) w1.heap.size 30 ((List.replicate (q + 1) V ++ vs.drop (q + 1)).map u64v).toArray := by
                  have h := hbq.set_ q (.int .u64 (V : Int))
                  have e : (List.replicate q V ++ vs.drop q).set q V = List.replicate (q + 1) V ++ vs.drop (q + 1) := by
                    rw [List.set_append_right _ _ (by simp)]
                    simp only [List.length_replicate, Nat.sub_self]
                    rw [List.drop_eq_getElem_cons (by omega), List.set_cons_zero, List.replicate_succ', List.append_assoc]; rfl
                  rw [← e, List.map_set]
                  simpa [u64v] using h
                have hv3 : PlainAt (wr.setCell ⟨w1.heap.size, q, none⟩ (.int .u64 (V : Int))) p g (List.replicate n V) := hvq.fr (Fr.one _ _ _ _) (by omega) (by omega)
                have hx3 : Blk (wr.setCell ⟨w1.heap.size, q, none⟩ (.int .u64 (V : Int))) wo.heap.size 32 #[.int .u8 (K : Int), .int .i64 I, .int .u64 (V : Int)] := hxq.fr (Fr.one _ _ _ _) (by omega)
                have hF3 := hfq.setCell (p := ⟨w1.heap.size, q, none⟩) (.inr hf1.size) (.int .u64 (V : Int))
                have hq256 : q < 256 := by omega
                clear hvq hbq hxq hfq hl
                go_wp2
                go_roundw
                case rel => exact ⟨q + 1, by omega, by go_num, hv3, hset, hx3, hF3⟩
                case measure => simp [intOf]; omega
              · obtain rfl : q = n := by omega
                have hvv : PlainAt wr p g ((List.replicate q V ++ vs.drop q).take q) := by
                  rw [List.take_append_of_le_length (by simp), List.take_of_length_le (by simp)]
                  exact hvq
                have hln : Hid ((List.replicate q V ++ vs.drop q).length = 256) := hide (by have := HV.out; simp; omega)
                clear hvq
                go_wp2
                go_roundw
                case rel => exact ⟨k + 1, _, by omega, by go_num, hvv, hbq, hln, hfq⟩
                case measure => simp [intOf]; omega
    · have HF := hide hfr
      have HN := hide hnv
      have H0 := hide (And.intro hv (And.intro hblk hfr))
      clear hacts hfr hlen hP hv0 hblk hv
      go_wp2
      obtain ⟨wo, rfl⟩ : ∃ wo : World, wo = wr := ⟨_, rfl⟩
      go_loopw [15] (fun j wq => ∃ q : Nat, q ≤ n ∧ j = .int .i64 q ∧ PlainAt wq p g (vs.take n) ∧ Blk wq w1.heap.size 30 (vs.map u64v).toArray ∧ Fr (fun _ => False) w wq) (fun j _ => n - (intOf j).toNat)
      case atStart => exact ⟨0, by omega, rfl, H0.out.1, H0.out.2.1, H0.out.2.2⟩
      case round =>
        obtain ⟨q, hq, rfl, hvq, hbq, hfq⟩ := hrel
        by_cases hqn : q < n
        · have e : (vs.take n).getD q 0 = vs.getD q 0 := by simp [List.getD, hqn]
          have b3 : wr.cell? ⟨w1.heap.size, q, none⟩ = some (.int .u64 (vs.getD q 0 : Nat)) := by
            rw [hbq.cell]
            have := HV.out
            simp [show q < vs.length by omega, u64v]
          have he := hide e
          have hq256 : q < 256 := by omega
          clear e
          go_wp2_with fail
          refine (get_in hvq q (by rw [HN.out]; exact hqn)).mono ?_
          rw [he.out]
          rintro e w2 ⟨rfl, rfl⟩
          generalize ((vs.getD q 0 : Nat) : Int) = z at *
          go_wp2
          go_roundw
          case rel => exact ⟨q + 1, by omega, by go_num, hvq, hbq, hfq⟩
          case measure => simp [intOf]; omega
        · have hqe : q = n := by omega
          clear hqe
          go_wp2_with fail
          refine (len_any hvq).mono ?_
          rw [HN.out]
          rintro e w2 ⟨rfl, rfl⟩
          go_wp2_with (go_at_call 9; refine (does_true _).mono ?_; rintro e w9 ⟨rfl, hf9⟩)
          go_ret
          exact ⟨rfl, hfq.then_ hf9⟩
end Go.Proofs.Ytneihcoepacadaa.vectorsPlain
