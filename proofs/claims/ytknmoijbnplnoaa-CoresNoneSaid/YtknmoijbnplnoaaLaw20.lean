/- THE LAWS' WALKS: CoresBegin, CoresShard. -/
import Derived.Test.YtknmoijbnplnoaaEnds20
import Derived.Test.YtknmoijbnplnoaaROp20
import Derived.Test.YtknmoijbnplnoaaRC20
set_option linter.unusedVariables false
set_option maxRecDepth 100000
namespace Go.Proofs.Ytknmoijbnplnoaa.k20
open Go.RowKit

/-- reads so as long as nothing but blocks from B up to N is written -/
def Safe (w : World) (B N : Nat) (A : Option Addr) (n : Nat) (l : List Value) : Prop := ∀ w', Fr (fun k => B ≤ k ∧ k < N) w w' → Reads w' w'.heap.size 1 A n l
theorem rbegin_any (A A' : Option Addr) (n c m d B : Nat) (xs ys : List Nat) (w : World) (ha : Reads w B 1 A n (xs.map u64v)) (hb : Reads w B 1 A' m (ys.map u64v)) (hB : B ≤ w.heap.size)
    (hx : ∀ x ∈ xs, x < 18446744073709551616) (hy : ∀ x ∈ ys, x < 18446744073709551616) (arg : Int) (ok : Bool) (hok : (mayB n m && cores.okArg arg) = ok) :
    Calls Try.prog 45 #[.agg #[.slice A n c, .slice A' m d], .int .i64 arg] w fun e w' => ∃ V1 n1 d1 V2 n2 d2, e = .returned (.tuple #[.agg #[.slice V1 n1 d1, .slice V2 n2 d2], .int .i64 (errB ok)]) ∧
      Safe w' B w.heap.size V1 n1 ((sel ok (cores.bX n) xs).map u64v) ∧ Safe w' B w.heap.size V2 n2 ((sel ok (cores.bY n) ys).map u64v) ∧ Fr (fun _ => False) w w' := by
  cases ok
  · refine (rbegin_bad A A' n c m d w arg hok).mono ?_
    rintro e w' ⟨rfl, hf⟩
    have h (A : Option Addr) (n : Nat) (xs : List Nat) (ha : Reads w B 1 A n (xs.map u64v)) : Safe w' B w.heap.size A n (xs.map u64v) := fun w'' h =>
      have F : Fr (fun k => B ≤ k ∧ k < w.heap.size) w w'' := (hf.mono (fun _ h => h.elim)).trans h (fun _ h => .inl h)
      (ha.fr F hB (fun k h => h.1)).more (Nat.le_trans hB F.size)
    exact ⟨_, _, _, _, _, _, rfl, h _ _ _ ha, h _ _ _ hb, hf⟩
  · have h : mayB n m = true ∧ cores.okArg arg = true := by simpa using hok
    refine (rbegin_ok A A' n c m d xs ys w (ha.more hB) (hb.more hB) hx hy arg h.1 h.2).mono ?_
    rintro e w' ⟨g, c', g', d', rfl, hg, hg', h1, h2, hf⟩
    refine ⟨_, _, _, _, _, _, rfl, fun w'' h => ?_, fun w'' h => ?_, hf⟩
    · have r1 := (h1.fr h (by omega)).reads
      rw [show (cores.bX n).length = n by simp [cores.bX]] at r1
      exact r1
    · have r1 := (h2.fr h (by omega)).reads
      rw [show (cores.bY n).length = n by simp [cores.bY]] at r1
      exact r1
theorem begin_any {w : World} {pa ga pb gb : Nat} {xs ys : List Nat} (h : TwoAt w pa ga pb gb xs ys) (arg : Int) (ok : Bool) (hok : (mayB xs.length ys.length && cores.okArg arg) = ok) :
    Calls Try.prog 46 #[vecv pa, vecv pb, .int .i64 arg] w fun e w' => e = .returned (.int .i64 (errB ok)) ∧ TwoAt w' pa ga pb gb (sel ok (cores.bX xs.length) xs) (sel ok (cores.bY xs.length) ys) ∧ Fr (fun k => k = ga ∨ k = gb) w w' := by
  cases ok
  · refine (cores.begin_bad h arg hok).mono ?_
    rintro e w' ⟨rfl, hf⟩
    exact ⟨rfl, h.still hf, hf.mono (fun _ h => h.elim)⟩
  · have h' : mayB xs.length ys.length = true ∧ cores.okArg arg = true := by simpa using hok
    exact cores.begin_ok h h'.1 arg h'.2

set_option maxHeartbeats 8000000 in
theorem law_begin (A A' : Option Addr) (n c m d : Nat) (xs ys : List Nat) (w : World) (ha : Reads w w.heap.size 1 A n (xs.map u64v)) (hb : Reads w w.heap.size 1 A' m (ys.map u64v))
    (hx : ∀ x ∈ xs, x < 18446744073709551616) (hy : ∀ x ∈ ys, x < 18446744073709551616) (arg : Int) :
    Calls Try.prog 14 #[.agg #[.slice A n c, .slice A' m d], .int .i64 arg] w fun e w' => e = .returned (.bool true) ∧ Fr (fun _ => False) w w' := by
  obtain ⟨W1, hW1⟩ : ∃ W1, W1 = w.alloc (.cells #[.slice A n c, .slice A' m d] 24) := ⟨_, rfl⟩
  have F1 : Fr (fun _ => False) w W1 := by rw [hW1]; exact (Fr.refl _ _).alloc _
  have b1 : Blk W1 w.heap.size 24 #[.slice A n c, .slice A' m d] := by rw [hW1]; exact Blk.new _ _ _
  have lx : xs.length = n := by have := ha.1; simpa using this
  have ly : ys.length = m := by have := hb.1; simpa using this
  have HA := hide (fun w' (h : Fr (fun _ => False) w w') => ha.fr h (Nat.le_refl _) (fun _ h => h.elim))
  have HB := hide (fun w' (h : Fr (fun _ => False) w w') => hb.fr h (Nat.le_refl _) (fun _ h => h.elim))
  have HX := hide hx
  have HY := hide hy
  have HF := hide F1
  have HB1 := hide b1
  have LX := hide lx
  have LY := hide ly
  obtain ⟨ok, hok⟩ : ∃ ok, (mayB n m && cores.okArg arg) = ok := ⟨_, rfl⟩
  have HOK := hide hok
  have HG := hide (great_any A A' n c m d W1)
  clear ha hb hx hy F1 b1 lx ly hok
  by_cases hgt : 256 < n ∨ 256 < m
  · rw [decide_eq_true hgt] at HG
    clear hgt
    go_enter Try.func14, Try.ntmps14
    go_wp2_with fail
    go_at_call 18
    rw [← hW1]
    refine HG.out.mono ?_
    rintro e w2 ⟨rfl, hf⟩
    go_wp2_with fail
    go_at_call 44
    refine (ends_true _).mono ?_
    rintro e w3 ⟨rfl, hf3⟩
    have HE := hide ((HF.out.then_ hf).then_ hf3)
    clear hf hf3
    go_wp2
    go_ret
    exact ⟨rfl, HE.out⟩
  · rw [decide_eq_false hgt] at HG
    have hn : n ≤ 256 := by omega
    have hm : m ≤ 256 := by omega
    clear hgt
    go_enter Try.func14, Try.ntmps14
    go_wp2_with fail
    go_at_call 18
    rw [← hW1]
    refine HG.out.mono ?_
    rintro e w2 ⟨rfl, hf⟩
    have HF := hide (HF.out.then_ hf)
    have HB1 := hide (HB1.out.fr hf id)
    have k0 : w2.cell? ⟨w.heap.size, 0, none⟩ = some (.slice A n c) := (HB1.out.cell 0).trans rfl
    have k1 : w2.cell? ⟨w.heap.size, 1, none⟩ = some (.slice A' m d) := (HB1.out.cell 1).trans rfl
    clear hf hW1
    have HW := hide (rows_any A A' n c m d xs ys w2 ((HA.out _ HF.out).more HF.out.size) ((HB.out _ HF.out).more HF.out.size) HX.out HY.out hn hm)
    go_wp2_with fail
    go_at_call 20
    refine HW.out.mono ?_
    rintro e w3 ⟨pa, ga, pb, gb, rfl, hga, hgb, hT, hf⟩
    have HT := hide hT
    have hs := HF.out.size
    have HF := hide (HF.out.then_ hf)
    have k0' := hf.cell k0 id
    have k1' := hf.cell k1 id
    clear hf hT k0 k1 HW
    have HR := hide (rbegin_any A A' n c m d w.heap.size xs ys w3 (HA.out _ HF.out) (HB.out _ HF.out) HF.out.size HX.out HY.out arg ok HOK.out)
    go_wp2_with fail
    go_at_call 45
    refine HR.out.mono ?_
    rintro e w4 ⟨V1, n1, d1, V2, n2, d2, rfl, hv1, hv2, hf⟩
    have lga := HT.out.a.row.lt
    have lgb := HT.out.b.row.lt
    have hs4 := hf.size
    have HT := hide (HT.out.still hf)
    have HF := hide (HF.out.then_ hf)
    have HV1 := hide hv1
    have HV2 := hide hv2
    clear hf hv1 hv2 k0' k1' HR
    go_wp2_with fail
    obtain ⟨W5, hW5⟩ : ∃ W5, W5 = w4.alloc (.cells #[.slice V1 n1 d1, .slice V2 n2 d2] 73) := ⟨_, rfl⟩
    rw [← hW5]
    have F5 : Fr (fun _ => False) w4 W5 := by rw [hW5]; exact (Fr.refl _ _).alloc _
    have b5 : Blk W5 w4.heap.size 73 #[.slice V1 n1 d1, .slice V2 n2 d2] := by rw [hW5]; exact Blk.new _ _ _
    have HT := hide (HT.out.still F5)
    have HBA := hide (begin_any HT.out arg ok (by rw [LX.out, LY.out]; exact HOK.out))
    have F5' := hide F5
    have HB5 := hide b5
    clear hW5 F5 b5
    go_at_call 46
    refine HBA.out.mono ?_
    rintro e W6 ⟨rfl, hT, hf⟩
    have HB6 := hide (HB5.out.fr hf (by omega))
    have F46 : Fr (fun k => k = ga ∨ k = gb) w4 W6 := (F5'.out.mono (fun _ h => h.elim)).trans hf (fun _ h => .inl h)
    have F46' : Fr (fun k => w.heap.size ≤ k ∧ k < w3.heap.size) w4 W6 := F46.mono (by rintro k (rfl | rfl) <;> omega)
    have HV1 := hide (fun w' (h : Fr (fun _ => False) W6 w') => HV1.out w' (F46'.then_ h))
    have HV2 := hide (fun w' (h : Fr (fun _ => False) W6 w') => HV2.out w' (F46'.then_ h))
    have HFW := hide (fun w' (h : Fr (fun _ => False) W6 w') => (HF.out.trans F46 (by rintro k (rfl | rfl) <;> exact .inr (by omega))).then_ h)
    rw [← LX.out] at HV1 HV2
    have HT := hide hT
    clear hT hf F46 F46' HBA
    have S1 := HT.out.a.len
    have S2 := HT.out.b.len
    have c0 : W6.cell? ⟨w4.heap.size, 0, none⟩ = some (.slice V1 n1 d1) := (HB6.out.cell 0).trans rfl
    have c1 : W6.cell? ⟨w4.heap.size, 1, none⟩ = some (.slice V2 n2 d2) := (HB6.out.cell 1).trans rfl
    have D6 := hide (held_drew W6)
    go_wp2
    go_region_held3 (fun w' => w'.cell? ⟨w4.heap.size, 0, none⟩ = some (.slice V1 n1 d1) ∧ w'.cell? ⟨w4.heap.size, 1, none⟩ = some (.slice V2 n2 d2) ∧ Fr (fun _ => False) W6 w')
      (first | exact ⟨c0, c1, D6.out⟩ | exact held3 (by assumption) hf)
      (first
        | (go_at_call_of 24 (Value.pointer (some ⟨pa, 0, none⟩)); refine (read_any (HT.out.still (held3f (by assumption))).a).mono ?_; rintro e w7 ⟨A1, q1, rfl, hr, hf⟩)
        | (go_at_call_of 24 (Value.pointer (some ⟨pb, 0, none⟩)); refine (read_any (HT.out.still (held3f (by assumption))).b).mono ?_; rintro e w7 ⟨A1, q1, rfl, hr, hf⟩)
        | (go_at_call 23; refine (same_eq A1 _ _ q1 _ _ w7.heap.size _ _ hr (by first | exact HV1.out _ (held3f (by assumption)) | exact HV2.out _ (held3f (by assumption))) (by first | exact S1 | exact S2)).mono ?_; rintro e w8 ⟨rfl, hf⟩)
        | (go_at_call 44; refine (ends_true _).mono ?_; rintro e w9 ⟨rfl, hf⟩))
    have HE := hide (HFW.out _ (held3f (by assumption)))
    clear hf
    go_wp2
    go_ret
    exact ⟨rfl, HE.out⟩
end Go.Proofs.Ytknmoijbnplnoaa.k20
