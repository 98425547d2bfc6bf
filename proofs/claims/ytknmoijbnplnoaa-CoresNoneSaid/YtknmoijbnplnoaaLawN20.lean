/- THE LAW's WALK: CoresNone. -/
import Derived.Test.YtknmoijbnplnoaaLaw20
set_option linter.unusedVariables false
set_option maxRecDepth 100000
namespace Go.Proofs.Ytknmoijbnplnoaa.k20
open Go.RowKit

set_option maxHeartbeats 16000000 in
theorem law_none (A A' : Option Addr) (n c m d : Nat) (xs ys : List Nat) (w : World) (ha : Reads w w.heap.size 1 A n (xs.map u64v)) (hb : Reads w w.heap.size 1 A' m (ys.map u64v))
    (hx : ∀ x ∈ xs, x < 18446744073709551616) (hy : ∀ x ∈ ys, x < 18446744073709551616) (arg : Int) :
    Calls Try.prog 17 #[.agg #[.slice A n c, .slice A' m d], .int .i64 arg] w fun e w' => e = .returned (.bool true) ∧ Fr (fun _ => False) w w' := by
  obtain ⟨W1, hW1⟩ : ∃ W1, W1 = w.alloc (.cells #[.slice A n c, .slice A' m d] 24) := ⟨_, rfl⟩
  have F1 : Fr (fun _ => False) w W1 := by rw [hW1]; exact (Fr.refl _ _).alloc _
  have b1 : Blk W1 w.heap.size 24 #[.slice A n c, .slice A' m d] := by rw [hW1]; exact Blk.new _ _ _
  have lx : xs.length = n := by have := ha.1; simpa using this
  have ly : ys.length = m := by have := hb.1; simpa using this
  have HA := hide (fun w' (h : Fr (fun _ => False) w w') => ha.up h)
  have HB := hide (fun w' (h : Fr (fun _ => False) w w') => hb.up h)
  have HX := hide hx
  have HY := hide hy
  have HF := hide F1
  have HB1 := hide b1
  have LX := hide lx
  have LY := hide ly
  have HG := hide (great_any A A' n c m d W1)
  clear ha hb hx hy F1 b1 lx ly
  by_cases hgt : 256 < n ∨ 256 < m
  · rw [decide_eq_true hgt] at HG
    clear hgt
    go_enter Try.func17, Try.ntmps17
    go_wp2_with fail
    go_at_call 18
    rw [← hW1]
    refine HG.out.mono ?_
    rintro e w2 ⟨rfl, hf⟩
    go_wp2_with fail
    go_at_call 44
    refine (ends_true _).mono ?_
    rintro e w3 ⟨rfl, hf3⟩
    have HE := hide ((HF.out.then_ hf).then_ hf3)
    clear hf hf3
    go_wp2
    go_ret
    exact ⟨rfl, HE.out⟩
  · rw [decide_eq_false hgt] at HG
    have hn : n ≤ 256 := by omega
    have hm : m ≤ 256 := by omega
    clear hgt
    go_enter Try.func17, Try.ntmps17
    go_wp2_with fail
    go_at_call 18
    rw [← hW1]
    refine HG.out.mono ?_
    rintro e w2 ⟨rfl, hf⟩
    have HF := hide (HF.out.then_ hf)
    have HB1 := hide (HB1.out.fr hf id)
    have k0 : w2.cell? ⟨w.heap.size, 0, none⟩ = some (.slice A n c) := (HB1.out.cell 0).trans rfl
    have k1 : w2.cell? ⟨w.heap.size, 1, none⟩ = some (.slice A' m d) := (HB1.out.cell 1).trans rfl
    clear hf hW1
    have HW := hide (rows_any A A' n c m d xs ys w2 (HA.out _ HF.out) (HB.out _ HF.out) HX.out HY.out hn hm)
    go_wp2_with fail
    go_at_call 20
    refine HW.out.mono ?_
    rintro e w3 ⟨pa, ga, pb, gb, rfl, hga, hgb, hT, hf⟩
    have HT := hide hT
    have HF := hide (HF.out.then_ hf)
    have HB1 := hide (HB1.out.fr hf id)
    clear hf hT k0 k1 HW
    have HC := hide (cores.commit_nilA (w := w3) pb arg 0)
    unfold vecv at HC
    go_wp2_with fail
    go_at_call 50
    refine HC.out.mono ?_
    rintro e w4 ⟨rfl, hf⟩
    have HT := hide (HT.out.still hf)
    have HF := hide (HF.out.then_ hf)
    have HB1 := hide (HB1.out.fr hf id)
    clear hf HC
    go_wp2_with fail
    go_at_call 29
    refine (new_ok 0 _ (by omega)).mono ?_
    rintro e W6 ⟨pe, ge, rfl, _, _, hP, hf⟩
    have HP := hide (show PlainAt W6 pe ge [] from hP)
    have HT := hide (HT.out.still hf)
    have HF := hide (HF.out.then_ hf)
    have HB1 := hide (HB1.out.fr hf id)
    have c0 : W6.cell? ⟨w.heap.size, 0, none⟩ = some (.slice A n c) := (HB1.out.cell 0).trans rfl
    have c1 : W6.cell? ⟨w.heap.size, 1, none⟩ = some (.slice A' m d) := (HB1.out.cell 1).trans rfl
    clear hf hP
    have D6 := hide (held_drew W6)
    have S1 := HT.out.a.len
    have S2 := HT.out.b.len
    have HV1 := hide (fun w' (h : Fr (fun _ => False) W6 w') => HA.out _ (HF.out.then_ h))
    have HV2 := hide (fun w' (h : Fr (fun _ => False) W6 w') => HB.out _ (HF.out.then_ h))
    have N1 := hide (fun w => cores.begin_nilA (w := w) pb arg)
    have N2 := hide (fun w => cores.begin_nilB (w := w) pa arg)
    have N3 := hide (fun w' (h : Fr (fun _ => False) W6 w') => cores.begin_empty (HP.out.fr h id id) arg)
    have N4 := hide (fun w => cores.shard_nilB (w := w) pa #[.int .i64 0, .int .i64 0, .slice none 0 0] 0 rfl)
    unfold vecv at N1 N2 N3 N4
    clear HG HX HY HP LX LY HB1 hga hgb
    go_wp2
    go_region_held3 (fun w' => w'.cell? ⟨w.heap.size, 0, none⟩ = some (.slice A n c) ∧ w'.cell? ⟨w.heap.size, 1, none⟩ = some (.slice A' m d) ∧ Fr (fun _ => False) W6 w')
      (first | exact ⟨c0, c1, D6.out⟩ | exact held3 (by assumption) hf)
      (first
        | (go_at_call_of 46 (Value.pointer (some ⟨pa, 0, none⟩)); refine (N2.out _).mono ?_; rintro e w7 ⟨rfl, hf⟩)
        | (go_at_call_of 46 (Value.pointer (some ⟨pe, 0, none⟩)); refine (N3.out _ (held3f (by assumption))).mono ?_; rintro e w7 ⟨rfl, hf⟩)
        | (go_at_call_of 46 (Value.nilIface); refine (N1.out _).mono ?_; rintro e w7 ⟨rfl, hf⟩)
        | (go_at_call 48; refine (N4.out _).mono ?_; rintro e w7 ⟨rfl, hf⟩)
        | (go_at_call_of 24 (Value.pointer (some ⟨pa, 0, none⟩)); refine (read_any (HT.out.still (held3f (by assumption))).a).mono ?_; rintro e w7 ⟨A1, q1, rfl, hr, hf⟩)
        | (go_at_call_of 24 (Value.pointer (some ⟨pb, 0, none⟩)); refine (read_any (HT.out.still (held3f (by assumption))).b).mono ?_; rintro e w7 ⟨A1, q1, rfl, hr, hf⟩)
        | (go_at_call 23; refine (same_eq A1 _ _ q1 _ _ w7.heap.size _ _ hr (by first | exact HV1.out _ (held3f (by assumption)) | exact HV2.out _ (held3f (by assumption))) (by first | exact S1 | exact S2)).mono ?_; rintro e w8 ⟨rfl, hf⟩)
        | (go_at_call 44; refine (ends_true _).mono ?_; rintro e w9 ⟨rfl, hf⟩))
    have HE := hide (HF.out.then_ (held3f (by assumption)))
    clear hf
    go_wp2
    go_ret
    exact ⟨rfl, HE.out⟩
end Go.Proofs.Ytknmoijbnplnoaa.k20
