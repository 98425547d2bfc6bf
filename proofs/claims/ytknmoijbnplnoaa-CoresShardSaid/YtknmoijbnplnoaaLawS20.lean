/- THE LAW's WALK: CoresShard. -/
import Derived.Test.YtknmoijbnplnoaaLaw20
set_option linter.unusedVariables false
set_option maxRecDepth 100000
namespace Go.Proofs.Ytknmoijbnplnoaa.k20
open Go.RowKit

def stX (round : Int) (xs ys : List Nat) (fr : Int) (L : List (List Int)) : List Nat := (edgs fr L).foldl (cores.step xs) ys
theorem stX_len (round : Int) (xs : List Nat) (fr : Int) (L : List (List Int)) (ys : List Nat) : (stX round xs ys fr L).length = ys.length := by
  unfold stX
  generalize edgs fr L = E
  induction E generalizing ys with
  | nil => rfl
  | cons e E ih => rw [List.foldl_cons, ih, cores.step_len]
theorem rshard_any (A A' AL : Option Addr) (n c m d q cL B : Nat) (fr to : Int) (L : List (List Int)) (xs ys : List Nat) (w : World) (ha : Reads w B 1 A n (xs.map u64v)) (hb : Reads w B 1 A' m (ys.map u64v)) (hB : B ≤ w.heap.size) (hn : n ≤ 256)
    (hx : ∀ x ∈ xs, x < 18446744073709551616) (hy : ∀ x ∈ ys, x < 18446744073709551616) (hl : ListsAt w B AL q L) (round : Int) (ok : Bool) (hok : (mayB n m && fitsB fr to n L && decide (0 ≤ round)) = ok) :
    Calls Try.prog 47 #[.agg #[.slice A n c, .slice A' m d], .agg #[.int .i64 fr, .int .i64 to, .slice AL q cL], .int .i64 round] w fun e w' => ∃ V1 n1 d1 V2 n2 d2, e = .returned (.tuple #[.agg #[.slice V1 n1 d1, .slice V2 n2 d2], .int .i64 (errB ok)]) ∧
      Safe w' B w.heap.size V1 n1 (xs.map u64v) ∧ Safe w' B w.heap.size V2 n2 ((sel ok (stX round xs ys fr L) ys).map u64v) ∧ Fr (fun _ => False) w w' := by
  have lx : xs.length = n := by have := ha.1; simpa using this
  have ly : ys.length = m := by have := hb.1; simpa using this
  cases ok
  · refine (rshard_bad A A' AL n c m d q cL fr to L w hn (hl.more hB) round hok).mono ?_
    rintro e w' ⟨rfl, hf⟩
    have h (A : Option Addr) (n : Nat) (xs : List Nat) (ha : Reads w B 1 A n (xs.map u64v)) : Safe w' B w.heap.size A n (xs.map u64v) := fun w'' h =>
      have F : Fr (fun k => B ≤ k ∧ k < w.heap.size) w w'' := (hf.mono (fun _ h => h.elim)).trans h (fun _ h => .inl h)
      (ha.fr F hB (fun k h => h.1)).more (Nat.le_trans hB F.size)
    exact ⟨_, _, _, _, _, _, rfl, h _ _ _ ha, h _ _ _ hb, hf⟩
  · have h : (mayB n m = true ∧ fitsB fr to n L = true) ∧ 0 ≤ round := by simpa using hok
    obtain ⟨vs, hv⟩ := hl.name
    refine (rshard_ok A A' AL n c m d q cL fr to L xs ys w (ha.more hB) (hb.more hB) hx hy vs (hv (fun _ => False) w (Fr.refl _ _) hB (fun _ h => h.elim)) round h.1.1 h.1.2 h.2).mono ?_
    rintro e w' ⟨g, c', g', d', rfl, hg, hg', h1, h2, hf⟩
    have hmn : m = n := by have := h.1.1; simp [mayB] at this; omega
    refine ⟨_, _, _, _, _, _, rfl, fun w'' h => ?_, fun w'' h => ?_, hf⟩
    · have r1 := (h1.fr h (by omega)).reads
      rw [lx] at r1
      exact r1
    · have r1 := (h2.fr h (by omega)).reads
      rw [show ((edgs fr L).foldl (cores.step xs) ys).length = n from (stX_len round xs fr L ys).trans (ly.trans hmn)] at r1
      exact r1
theorem shard_any {w : World} {pa ga pb gb : Nat} {xs ys : List Nat} (h : TwoAt w pa ga pb gb xs ys) (A : Option Addr) (m c B : Nat) (fr to : Int) (L : List (List Int)) (hl : ListsAt w B A m L) (hB : B ≤ w.heap.size) (hg : B ≤ gb) (round : Int) (ok : Bool) (hok : (mayB xs.length ys.length && fitsB fr to xs.length L && decide (0 ≤ round)) = ok) :
    Calls Try.prog 48 #[vecv pa, vecv pb, .agg #[.int .i64 fr, .int .i64 to, .slice A m c], .int .i64 round] w fun e w' => e = .returned (.int .i64 (errB ok)) ∧ TwoAt w' pa ga pb gb xs (sel ok (stX round xs ys fr L) ys) ∧ Fr (fun k => k = ga ∨ k = gb) w w' := by
  cases ok
  · refine (cores.shard_bad h (hl.more hB) round hok).mono ?_
    rintro e w' ⟨rfl, hf⟩
    exact ⟨rfl, h.still hf, hf.mono (fun _ h => h.elim)⟩
  · have h' : (mayB xs.length ys.length = true ∧ fitsB fr to xs.length L = true) ∧ 0 ≤ round := by simpa using hok
    obtain ⟨vs, hv⟩ := hl.name
    refine (cores.shard_ok h h'.1.1 (fun w' hf => hv _ w' hf hB (by rintro k rfl; exact hg)) h'.1.2 round h'.2).mono ?_
    rintro e w' ⟨rfl, hT, hf⟩
    exact ⟨rfl, hT, hf.mono (fun _ h => .inr h)⟩

set_option maxHeartbeats 8000000 in
theorem law_shard (A A' AL : Option Addr) (n c m d q cL : Nat) (fr to : Int) (L : List (List Int)) (xs ys : List Nat) (w : World) (ha : Reads w w.heap.size 1 A n (xs.map u64v)) (hb : Reads w w.heap.size 1 A' m (ys.map u64v))
    (hx : ∀ x ∈ xs, x < 18446744073709551616) (hy : ∀ x ∈ ys, x < 18446744073709551616) (hl : ListsAt w w.heap.size AL q L) (hq : q ≤ 9223372036854775807) (round : Int) :
    Calls Try.prog 15 #[.agg #[.slice A n c, .slice A' m d], .agg #[.int .i64 fr, .int .i64 to, .slice AL q cL], .int .i64 round] w fun e w' => e = .returned (.bool true) ∧ Fr (fun _ => False) w w' := by
  obtain ⟨W1, hW1⟩ : ∃ W1, W1 = (w.alloc (.cells #[.slice A n c, .slice A' m d] 24)).alloc (.cells #[.int .i64 fr, .int .i64 to, .slice AL q cL] 41) := ⟨_, rfl⟩
  have F1 : Fr (fun _ => False) w W1 := by rw [hW1]; exact ((Fr.refl _ _).alloc _).alloc _
  have T2 := two (w := w) (t1 := 24) (t2 := 41) (c1 := #[.slice A n c, .slice A' m d]) (c2 := #[.int .i64 fr, .int .i64 to, .slice AL q cL])
  rw [← hW1] at T2
  have lx : xs.length = n := by have := ha.1; simpa using this
  have ly : ys.length = m := by have := hb.1; simpa using this
  have HA := hide (fun w' (h : Fr (fun _ => False) w w') => ha.fr h (Nat.le_refl _) (fun _ h => h.elim))
  have HB := hide (fun w' (h : Fr (fun _ => False) w w') => hb.fr h (Nat.le_refl _) (fun _ h => h.elim))
  have HL := hide (fun w' (h : Fr (fun _ => False) w w') => hl.fr h (Nat.le_refl _) (fun _ h => h.elim))
  have HX := hide hx
  have HY := hide hy
  have HF := hide F1
  have HB1 := hide T2
  have LX := hide lx
  have LY := hide ly
  obtain ⟨ok, hok⟩ : ∃ ok, (mayB n m && fitsB fr to n L && decide (0 ≤ round)) = ok := ⟨_, rfl⟩
  have HOK := hide hok
  have HG := hide (great_any A A' n c m d W1)
  clear ha hb hx hy F1 T2 lx ly hok hl
  by_cases hgt : 256 < n ∨ 256 < m
  · rw [decide_eq_true hgt] at HG
    clear hgt
    go_enter Try.func15, Try.ntmps15
    go_wp2_with fail
    go_at_call 18
    rw [← hW1]
    refine HG.out.mono ?_
    rintro e w2 ⟨rfl, hf⟩
    go_wp2_with fail
    go_at_call 44
    refine (ends_true _).mono ?_
    rintro e w3 ⟨rfl, hf3⟩
    have HE := hide ((HF.out.then_ hf).then_ hf3)
    clear hf hf3
    go_wp2
    go_ret
    exact ⟨rfl, HE.out⟩
  · rw [decide_eq_false hgt] at HG
    have hn : n ≤ 256 := by omega
    have hm : m ≤ 256 := by omega
    clear hgt
    go_enter Try.func15, Try.ntmps15
    go_wp2_with fail
    go_at_call 18
    rw [← hW1]
    refine HG.out.mono ?_
    rintro e w2 ⟨rfl, hf⟩
    have HF := hide (HF.out.then_ hf)
    have HB1 := hide (And.intro (HB1.out.1.fr hf id) (HB1.out.2.fr hf id))
    have s0 : w2.cell? ⟨w.heap.size + 1, 0, none⟩ = some (.int .i64 fr) := (HB1.out.2.cell 0).trans rfl
    have s1 : w2.cell? ⟨w.heap.size + 1, 1, none⟩ = some (.int .i64 to) := (HB1.out.2.cell 1).trans rfl
    have s2 : w2.cell? ⟨w.heap.size + 1, 2, none⟩ = some (.slice AL q cL) := (HB1.out.2.cell 2).trans rfl
    clear hf hW1
    have HM := hide (many_any fr to q cL AL L w2 ((HL.out _ HF.out).more HF.out.size) hq)
    go_wp2_with fail
    go_at_call 25
    refine HM.out.mono ?_
    rintro e w2' ⟨⟨bm, rfl⟩, hf⟩
    have HF := hide (HF.out.then_ hf)
    have HB1 := hide (And.intro (HB1.out.1.fr hf id) (HB1.out.2.fr hf id))
    clear hf s0 s1 s2 HM
    cases bm
    · have k0 : w2'.cell? ⟨w.heap.size, 0, none⟩ = some (.slice A n c) := (HB1.out.1.cell 0).trans rfl
      have k1 : w2'.cell? ⟨w.heap.size, 1, none⟩ = some (.slice A' m d) := (HB1.out.1.cell 1).trans rfl
      have HW := hide (rows_any A A' n c m d xs ys w2' ((HA.out _ HF.out).more HF.out.size) ((HB.out _ HF.out).more HF.out.size) HX.out HY.out hn hm)
      go_wp2_with fail
      go_at_call 20
      refine HW.out.mono ?_
      rintro e w3 ⟨pa, ga, pb, gb, rfl, hga, hgb, hT, hf⟩
      have HT := hide hT
      have hs := HF.out.size
      have HF := hide (HF.out.then_ hf)
      have HB1 := hide (And.intro (HB1.out.1.fr hf id) (HB1.out.2.fr hf id))
      have k0' := hf.cell k0 id
      have k1' := hf.cell k1 id
      have s0 : w3.cell? ⟨w.heap.size + 1, 0, none⟩ = some (.int .i64 fr) := (HB1.out.2.cell 0).trans rfl
      have s1 : w3.cell? ⟨w.heap.size + 1, 1, none⟩ = some (.int .i64 to) := (HB1.out.2.cell 1).trans rfl
      have s2 : w3.cell? ⟨w.heap.size + 1, 2, none⟩ = some (.slice AL q cL) := (HB1.out.2.cell 2).trans rfl
      clear hf hT k0 k1 HW
      have HR := hide (rshard_any A A' AL n c m d q cL w.heap.size fr to L xs ys w3 (HA.out _ HF.out) (HB.out _ HF.out) HF.out.size hn HX.out HY.out (HL.out _ HF.out) round ok HOK.out)
      go_wp2_with fail
      go_at_call 47
      refine HR.out.mono ?_
      rintro e w4 ⟨V1, n1, d1, V2, n2, d2, rfl, hv1, hv2, hf⟩
      have lga := HT.out.a.row.lt
      have lgb := HT.out.b.row.lt
      have hs4 := hf.size
      have HT := hide (HT.out.still hf)
      have HF := hide (HF.out.then_ hf)
      have HB1 := hide (And.intro (HB1.out.1.fr hf id) (HB1.out.2.fr hf id))
      have HV1 := hide hv1
      have HV2 := hide hv2
      clear hf hv1 hv2 k0' k1' HR s0 s1 s2
      have s0 : ∀ o, (w4.alloc o).cell? ⟨w.heap.size + 1, 0, none⟩ = some (.int .i64 fr) := fun o => ((HB1.out.2.alloc o).cell 0).trans rfl
      have s1 : ∀ o, (w4.alloc o).cell? ⟨w.heap.size + 1, 1, none⟩ = some (.int .i64 to) := fun o => ((HB1.out.2.alloc o).cell 1).trans rfl
      have s2 : ∀ o, (w4.alloc o).cell? ⟨w.heap.size + 1, 2, none⟩ = some (.slice AL q cL) := fun o => ((HB1.out.2.alloc o).cell 2).trans rfl
      go_wp2_with fail
      obtain ⟨W5, hW5⟩ : ∃ W5, W5 = w4.alloc (.cells #[.slice V1 n1 d1, .slice V2 n2 d2] 73) := ⟨_, rfl⟩
      rw [← hW5]
      have F5 : Fr (fun _ => False) w4 W5 := by rw [hW5]; exact (Fr.refl _ _).alloc _
      have b5 : Blk W5 w4.heap.size 73 #[.slice V1 n1 d1, .slice V2 n2 d2] := by rw [hW5]; exact Blk.new _ _ _
      have HT := hide (HT.out.still F5)
      have F5' := hide F5
      have HB5 := hide b5
      have HBA := hide (shard_any HT.out AL q cL w.heap.size fr to L (HL.out _ (HF.out.then_ F5)) (by have := HF.out.size; have := F5.size; omega) (by omega) round ok (by rw [LX.out, LY.out]; exact HOK.out))
      clear hW5 F5 b5
      go_at_call 48
      refine HBA.out.mono ?_
      rintro e W6 ⟨rfl, hT, hf⟩
      have HB6 := hide (HB5.out.fr hf (by omega))
      have F46 : Fr (fun k => k = ga ∨ k = gb) w4 W6 := (F5'.out.mono (fun _ h => h.elim)).trans hf (fun _ h => .inl h)
      have F46' : Fr (fun k => w.heap.size ≤ k ∧ k < w3.heap.size) w4 W6 := F46.mono (by rintro k (rfl | rfl) <;> omega)
      have HV1 := hide (fun w' (h : Fr (fun _ => False) W6 w') => HV1.out w' (F46'.then_ h))
      have HV2 := hide (fun w' (h : Fr (fun _ => False) W6 w') => HV2.out w' (F46'.then_ h))
      have HFW := hide (fun w' (h : Fr (fun _ => False) W6 w') => (HF.out.trans F46 (by rintro k (rfl | rfl) <;> exact .inr (by omega))).then_ h)
      have HT := hide hT
      clear hT hf F46 F46' HBA s0 s1 s2
      have S1 := HT.out.a.len
      have S2 := HT.out.b.len
      have c0 : W6.cell? ⟨w4.heap.size, 0, none⟩ = some (.slice V1 n1 d1) := (HB6.out.cell 0).trans rfl
      have c1 : W6.cell? ⟨w4.heap.size, 1, none⟩ = some (.slice V2 n2 d2) := (HB6.out.cell 1).trans rfl
      have D6 := hide (held_drew W6)
      go_wp2
      go_region_held3 (fun w' => w'.cell? ⟨w4.heap.size, 0, none⟩ = some (.slice V1 n1 d1) ∧ w'.cell? ⟨w4.heap.size, 1, none⟩ = some (.slice V2 n2 d2) ∧ Fr (fun _ => False) W6 w')
        (first | exact ⟨c0, c1, D6.out⟩ | exact held3 (by assumption) hf)
        (first
          | (go_at_call_of 24 (Value.pointer (some ⟨pa, 0, none⟩)); refine (read_any (HT.out.still (held3f (by assumption))).a).mono ?_; rintro e w7 ⟨A1, q1, rfl, hr, hf⟩)
          | (go_at_call_of 24 (Value.pointer (some ⟨pb, 0, none⟩)); refine (read_any (HT.out.still (held3f (by assumption))).b).mono ?_; rintro e w7 ⟨A1, q1, rfl, hr, hf⟩)
          | (go_at_call 23; refine (same_eq A1 _ _ q1 _ _ w7.heap.size _ _ hr (by first | exact HV1.out _ (held3f (by assumption)) | exact HV2.out _ (held3f (by assumption))) (by first | exact S1 | exact S2)).mono ?_; rintro e w8 ⟨rfl, hf⟩)
          | (go_at_call 44; refine (ends_true _).mono ?_; rintro e w9 ⟨rfl, hf⟩))
      have HE := hide (HFW.out _ (held3f (by assumption)))
      clear hf
      go_wp2
      go_ret
      exact ⟨rfl, HE.out⟩
    · go_wp2_with fail
      go_at_call 44
      refine (ends_true _).mono ?_
      rintro e w3 ⟨rfl, hf3⟩
      have HE := hide (HF.out.then_ hf3)
      clear hf3
      go_wp2
      go_ret
      exact ⟨rfl, HE.out⟩
end Go.Proofs.Ytknmoijbnplnoaa.k20
