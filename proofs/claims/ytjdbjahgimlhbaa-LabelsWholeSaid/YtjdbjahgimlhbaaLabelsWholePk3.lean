/- Parts of the proof of LabelsWhole: no conditions of their own. -/
import Derived.Test.YtjdbjahgimlhbaaWhPk6
import Derived.Test.YtjdbjahgimlhbaaWhPk7
import Derived.Test.YtjdbjahgimlhbaaWhPk11
import Derived.Test.YtjdbjahgimlhbaaWhPk16
import Derived.Test.YtjdbjahgimlhbaaLabelsWholePk2
import Derived.Test.YtjdbjahgimlhbaaWhPk17
import Derived.Test.YtjdbjahgimlhbaaWhPk14
section
set_option linter.unusedVariables false
set_option maxRecDepth 100000
namespace Go.Proofs.Ytjdbjahgimlhbaa.k19
open Go.RowKit

set_option maxHeartbeats 8000000 in
theorem ends_true (w : World) : Calls Try.prog 25 #[] w fun e w' => e = .returned (.bool true) ∧ Fr (fun _ => False) w w' := by
  go_enter Try.func25, Try.ntmps25
  go_wp2_with fail
  go_at_call 19
  refine (fresh_any 3 _ (by omega)).mono ?_
  rintro e w1 ⟨pa, ga, pb, gb, rfl, hga, hgb, hT, hf⟩
  have HT := hide hT
  have HF := hide hf
  have la := hT.a.row.lt
  have lb := hT.b.row.lt
  clear hT hf
  go_wp2_with fail
  obtain ⟨W2, hW2⟩ : ∃ W2, W2 = ((w1.alloc (.cells #[.int .i64 1] 3)).alloc (.cells #[.slice none 0 0, .slice none 0 0, .slice (some ⟨w1.heap.size, 0, none⟩) 1 1] 64)).alloc (.cells #[.int .i64 0, .int .i64 3, .slice (some ⟨w1.heap.size + 1, 0, none⟩) 3 3] 45) := ⟨_, rfl⟩
  rw [← hW2]
  have F2 : Fr (fun _ => False) w1 W2 := by rw [hW2]; exact (((Fr.refl _ _).alloc _).alloc _).alloc _
  have h4 := labels.three (w := w1) (t1 := 3) (t2 := 64) (t3 := 45) (c1 := #[.int .i64 1]) (c2 := #[.slice none 0 0, .slice none 0 0, .slice (some ⟨w1.heap.size, 0, none⟩) 1 1]) (c3 := #[.int .i64 0, .int .i64 3, .slice (some ⟨w1.heap.size + 1, 0, none⟩) 3 3])
  rw [← hW2] at h4
  have HT := hide (HT.out.still F2)
  have HF0 := hide (HF.out.then_ F2)
  have stay : Hid (∀ w', Fr (fun k => k = ga ∨ k = gb) W2 w' → LsAt w' [.slice none 0 0, .slice none 0 0, .slice (some ⟨w1.heap.size, 0, none⟩) 1 1] (some ⟨w1.heap.size + 1, 0, none⟩) 3 [[], [], [1]]) := by
    intro w' hF
    exact ls_any (h4.2.1.fr hF (by omega)) rfl (by
      intro i l hl
      match i, hl with
      | 0, hl => obtain rfl := Option.some.inj hl; exact ⟨_, _, rfl, Reads.none_, by simp⟩
      | 1, hl => obtain rfl := Option.some.inj hl; exact ⟨_, _, rfl, Reads.none_, by simp⟩
      | 2, hl => obtain rfl := Option.some.inj hl; exact ⟨_, _, rfl, reads_one (h4.1.fr hF (by omega)), by simp⟩)
  have cells : Hid (∀ w', Fr (fun k => k = ga ∨ k = gb) W2 w' → w'.cell? ⟨w1.heap.size + 1 + 1, 0, none⟩ = some (.int .i64 0) ∧ w'.cell? ⟨w1.heap.size + 1 + 1, 1, none⟩ = some (.int .i64 3) ∧ w'.cell? ⟨w1.heap.size + 1 + 1, 2, none⟩ = some (.slice (some ⟨w1.heap.size + 1, 0, none⟩) 3 3)) := by
    intro w' hF
    have h := h4.2.2.fr hF (by omega)
    exact ⟨(h.cell 0).trans rfl, (h.cell 1).trans rfl, (h.cell 2).trans rfl⟩
  clear hW2 h4 HF F2
  have HF : Hid (Fr (fun k => k = ga ∨ k = gb) W2 W2) := Fr.refl _ _
  go_at_call 30
  refine (labels.begin_ok HT.out rfl 0 rfl).mono ?_
  rintro e w3 ⟨rfl, hT, hf⟩
  have HT := hide (show TwoAt w3 pa ga pb gb [0, 1, 2] [0, 1, 2] from hT)
  have HF := hide (HF.out.trans hf (fun _ h => .inl h))
  obtain ⟨s0, s1, s2⟩ := cells.out _ HF.out
  clear hT hf
  go_wp2_with fail
  go_at_call 27
  refine (labels.shard_ok HT.out rfl (fun w' hf => stay.out w' (HF.out.trans hf (fun _ h => .inl (.inr h)))) (by decide +kernel) 0 (by omega)).mono ?_
  rintro e w4 ⟨rfl, hT, hf⟩
  have HT := hide (show TwoAt w4 pa ga pb gb [0, 1, 2] [0, 1, 1] from hT)
  have HF := hide (HF.out.trans hf (fun _ h => .inl (.inr h)))
  clear hT hf s0 s1 s2
  go_wp2_with fail
  go_at_call 26
  refine (read_any HT.out.b).mono ?_
  rintro e wR ⟨A1, c1, rfl, hr, hf⟩
  have HR := hide hr
  have HT := hide (HT.out.still hf)
  have HF := hide (HF.out.then_ hf)
  clear hr hf
  go_wp2_with fail
  go_at_call 29
  refine (same_lit A1 _ c1 _ _ _ [0,1,1] _ _ _ rfl HR.out rfl (by simp)).mono ?_
  rintro e wS ⟨rfl, hf⟩
  have HT := hide (HT.out.still hf)
  have HF := hide (HF.out.then_ hf)
  clear hf HR
  simp only [decide_true]
  go_wp2_with fail
  go_at_call 28
  refine (labels.commit_ok HT.out rfl 0 0).mono ?_
  rintro e w5 ⟨rfl, hT, hf⟩
  have HT := hide (show TwoAt w5 pa ga pb gb [0, 1, 1] [0, 1, 1] from hT)
  have HF := hide (HF.out.trans hf (fun _ h => .inl h))
  obtain ⟨s0, s1, s2⟩ := cells.out _ HF.out
  clear hT hf
  rw [show labels.cDone 0 [0, 1, 2] [0, 1, 1] = false from rfl]
  go_wp2_with fail
  go_at_call 26
  refine (read_any HT.out.a).mono ?_
  rintro e wR ⟨A1, c1, rfl, hr, hf⟩
  have HR := hide hr
  have HT := hide (HT.out.still hf)
  have HF := hide (HF.out.then_ hf)
  clear hr hf
  go_wp2_with fail
  go_at_call 29
  refine (same_lit A1 _ c1 _ _ _ [0,1,1] _ _ _ rfl HR.out rfl (by simp)).mono ?_
  rintro e wS ⟨rfl, hf⟩
  have HT := hide (HT.out.still hf)
  have HF := hide (HF.out.then_ hf)
  clear hf HR
  simp only [decide_true]
  clear s0 s1 s2
  obtain ⟨s0, s1, s2⟩ := cells.out _ HF.out
  go_wp2_with fail
  go_at_call 27
  refine (labels.shard_ok HT.out rfl (fun w' hf => stay.out w' (HF.out.trans hf (fun _ h => .inl (.inr h)))) (by decide +kernel) 1 (by omega)).mono ?_
  rintro e w6 ⟨rfl, hT, hf⟩
  have HT := hide (show TwoAt w6 pa ga pb gb [0, 1, 1] [0, 1, 1] from hT)
  have HF := hide (HF.out.trans hf (fun _ h => .inl (.inr h)))
  clear hT hf s0 s1 s2
  go_wp2_with fail
  go_at_call 28
  refine (labels.commit_ok HT.out rfl 0 1).mono ?_
  rintro e w7 ⟨rfl, hT, hf⟩
  have HT := hide (show TwoAt w7 pa ga pb gb [0, 1, 1] [0, 1, 1] from hT)
  have HF := hide (HF.out.trans hf (fun _ h => .inl h))
  clear hT hf
  rw [show labels.cDone 0 [0, 1, 1] [0, 1, 1] = true from rfl]
  go_wp2_with fail
  go_at_call 30
  refine (labels.begin_bad HT.out 1 rfl).mono ?_
  rintro e w8 ⟨rfl, hf⟩
  have HF := hide (HF0.out.trans (HF.out.then_ hf) (by rintro k (rfl | rfl) <;> exact .inr (by assumption)))
  clear hf
  go_wp2
  go_ret
  exact ⟨rfl, HF.out⟩
end Go.Proofs.Ytjdbjahgimlhbaa.k19
end
section
set_option linter.unusedVariables false
namespace Go.Proofs.Ytjdbjahgimlhbaa.Gr
open Go.RowKit

theorem oftenL (xs : List Nat) (l : List E) (n s : Nat) (ys o : List Nat) (ho : o.Perm (List.range s)) :
    accL (labels.step xs) l n s ys (o ++ o) = accL (labels.step xs) l n s ys o := by
  rw [accL_flat, accL_flat]
  refine foldl_same _ (fun t x y => labels_comm xs t x y) (fun t x => labels_same xs t x) _ _ ys (fun e => ?_)
  rw [List.mem_flatMap, List.mem_flatMap]
  constructor
  · rintro ⟨k, hk, he⟩
    rcases List.mem_append.1 hk with h | h
    · exact ⟨k, h, he⟩
    · exact ⟨k, h, he⟩
  · rintro ⟨k, hk, he⟩
    exact ⟨k, List.mem_append.2 (.inl hk), he⟩
theorem twice_at (o : List Nat) {s j : Nat} (hs : o.length = s) (hj : j < 2 * s) : ∃ h : j < (o ++ o).length, ∃ h2 : j % s < o.length, (o ++ o)[j] = o[j % s] := by
  have h1 : j < (o ++ o).length := by rw [List.length_append]; omega
  have h2 : j % s < o.length := by rw [hs]; exact Nat.mod_lt _ (by omega)
  refine ⟨h1, h2, ?_⟩
  by_cases h : j < s
  · have : j % s = j := Nat.mod_eq_of_lt h
    rw [List.getElem_append_left (by omega)]
    simp [this]
  · have : j % s = j - s := by
      rw [Nat.mod_eq_sub_mod (by omega), Nat.mod_eq_of_lt (by omega)]
    rw [List.getElem_append_right (by omega)]
    simp [this, hs]
end Go.Proofs.Ytjdbjahgimlhbaa.Gr
end
section
set_option linter.unusedVariables false
set_option maxRecDepth 100000
namespace Go.Proofs.Ytjdbjahgimlhbaa.lwhole
open Go.RowKit
open Gr (E T)

open whole in
set_option maxHeartbeats 8000000 in
theorem walk (A : Option Addr) (G m c : Nat) (l : List E) (many argt : Nat) (AB : Option Addr) (nB cB : Nat) (AM : Option Addr) (nM cM : Nat) (yb zm : List Nat) (w : World) (h : Reads w w.heap.size 2 A m (gcells l)) (hm : l.length = m) (hm63 : m ≤ 9223372036854775807) (hG : G < 256) (hl : ∀ e ∈ l, e.1 < 256 ∧ e.2 < 256) (hmany : many < 256) (hargt : argt < 256)
    (hrb : Reads w w.heap.size 1 AB nB (yb.map fun x : Nat => .int .u8 (x : Int))) (hyb : ∀ x ∈ yb, x < 256) (hnb : nB ≤ 9223372036854775807) (hrm : Reads w w.heap.size 1 AM nM (zm.map fun x : Nat => .int .u8 (x : Int))) (hzm : ∀ x ∈ zm, x < 256) (hnm : nM ≤ 9223372036854775807) :
    Calls Try.prog 13 #[.agg #[.int .u8 (G : Int), .slice A m c], .agg #[.int .u8 (many : Int), .int .u8 (argt : Int), .slice AB nB cB, .slice AM nM cM]] w fun e w' => e = .returned (.bool true) ∧ Fr (fun _ => False) w w' := by
  have H := hide h
  have HM := hide hm
  have HL := hide hl
  have HRB := hide hrb
  have HYB := hide hyb
  have LB := hide (show yb.length = nB by have := hrb.1; simpa using this)
  clear h hm hl hrb hrm hyb hzm
  have F0 := hide (((Fr.refl (fun _ => False) w).alloc (.cells #[.int .u8 (G : Int), .slice A m c] 24)).alloc (.cells #[.int .u8 (many : Int), .int .u8 (argt : Int), .slice AB nB cB, .slice AM nM cM] 62))
  have BK : Hid (Blk ((w.alloc (.cells #[.int .u8 (G : Int), .slice A m c] 24)).alloc (.cells #[.int .u8 (many : Int), .int .u8 (argt : Int), .slice AB nB cB, .slice AM nM cM] 62)) (w.heap.size + 1) 62 #[.int .u8 (many : Int), .int .u8 (argt : Int), .slice AB nB cB, .slice AM nM cM]) := by
    have := Blk.new (w.alloc (.cells #[.int .u8 (G : Int), .slice A m c] 24)) 62 #[.int .u8 (many : Int), .int .u8 (argt : Int), .slice AB nB cB, .slice AM nM cM]
    unfold Hid
    simpa using this
  have BG := hide ((Blk.new w 24 #[.int .u8 (G : Int), .slice A m c]).alloc (.cells #[.int .u8 (many : Int), .int .u8 (argt : Int), .slice AB nB cB, .slice AM nM cM] 62))
  have hcase : 300 < m ∨ (m ≤ 300 ∧ (decide (50 < nB) || decide (20 < nM)) = true) ∨ (m ≤ 300 ∧ (decide (50 < nB) || decide (20 < nM)) = false) := by
    rcases Nat.lt_or_ge 300 m with h | h
    · exact .inl h
    · cases hd : (decide (50 < nB) || decide (20 < nM))
      · exact .inr (.inr ⟨h, rfl⟩)
      · exact .inr (.inl ⟨h, rfl⟩)
  rcases hcase with hb | ⟨hb, hb2⟩ | ⟨hb, hb2⟩
  · go_enter Try.func13, Try.ntmps13
    go_wp2_with fail
    go_at_call 25
    refine (k19.ends_true _).mono ?_
    rintro e w1 ⟨rfl, hf⟩
    have HF := hide (F0.out.then_ hf)
    clear hf
    go_wp2
    go_ret
    exact ⟨rfl, HF.out⟩
  · go_enter Try.func13, Try.ntmps13
    go_wp2_with fail
    go_at_call 31
    refine (great_any many argt AB nB cB AM nM cM _).mono ?_
    rintro e wg ⟨rfl, hf⟩
    have FG := hide (F0.out.then_ hf)
    have BKg := hide (BK.out.fr hf (fun h => h))
    rw [hb2]
    clear hf
    go_wp2_with fail
    go_at_call 25
    refine (k19.ends_true _).mono ?_
    rintro e w1 ⟨rfl, hf⟩
    have HF := hide (FG.out.then_ hf)
    clear hf
    go_wp2
    go_ret
    exact ⟨rfl, HF.out⟩
  · go_enter Try.func13, Try.ntmps13
    go_wp2_with fail
    go_at_call 31
    refine (great_any many argt AB nB cB AM nM cM _).mono ?_
    rintro e wg ⟨rfl, hf⟩
    have FG := hide (F0.out.then_ hf)
    have BKg := hide (BK.out.fr hf (fun h => h))
    rw [hb2]
    have BGg := hide (BG.out.fr hf (fun h => h))
    have gg0 : wg.cell? ⟨w.heap.size, 0, none⟩ = some (.int .u8 (G : Int)) := (BGg.out.cell 0).trans rfl
    have gg1 : wg.cell? ⟨w.heap.size, 1, none⟩ = some (.slice A m c) := (BGg.out.cell 1).trans rfl
    clear hf
    go_wp2_with fail
    go_at_call 17
    refine (made_any A m c G l _ (H.out.up FG.out) HM.out (by omega) hG HL.out).mono ?_
    rintro e w1 ⟨A1, c1, rfl, hc1, hE, hf⟩
    have HF1 := hide (FG.out.then_ hf)
    have BK1 := hide (BKg.out.fr hf (fun h => h))
    have z0 : w1.cell? ⟨w.heap.size + 1, 0, none⟩ = some (.int .u8 (many : Int)) := (BK1.out.cell 0).trans rfl
    clear gg0 gg1
    have HE := hide hE
    obtain ⟨ok1, ok2, ok3⟩ := madeE_ok G l
    have hn1 : 1 ≤ madeN G := by unfold madeN; omega
    have hn2 : madeN G ≤ 60 := by unfold madeN; omega
    rw [HM.out] at ok3
    clear hf hE
    generalize hNN : madeN G = n at *
    generalize hEE : madeE G l = El at *
    have OK1 := hide ok1
    have OK2 := hide ok2
    obtain ⟨q, hq⟩ : ∃ q, El.length = q := ⟨_, rfl⟩
    have HQ := hide hq
    rw [hq] at ok3 hc1
    rw [hq]
    clear ok1 ok2 hq
    go_wp2_with fail

    go_at_call 18
    refine (shards_any A1 n q c1 many El _ HE.out HQ.out (by omega) OK1.out hn1 hn2 hmany OK2.out).mono ?_
    rintro e w2 ⟨AS, cS, rfl, hS, hf⟩
    obtain ⟨hs1, hs2, hs3⟩ := shN_ok hn1 many
    generalize shN n many = s at *
    obtain ⟨b, o, rfl, hbK⟩ := hS.addr
    have HS := hide hS
    have HF2 := hide (HF1.out.then_ hf)
    have BK2 := hide (BK1.out.fr hf (fun h => h))
    have HE3 := hide (HE.out.up hf)
    have z1 : w2.cell? ⟨w.heap.size + 1, 1, none⟩ = some (.int .u8 (argt : Int)) := (BK2.out.cell 1).trans rfl
    clear z0
    have hs0 : ((s : Int) == 0) = false := by simp; omega
    clear hS hf
    go_wp2_with fail
    obtain ⟨W3, hW3⟩ : ∃ W3, W3 = w2.alloc (.cells #[.int .i64 3, .int .i64 0, .int .i64 0, .int .i64 0] 76) := ⟨_, rfl⟩
    have F3 : Fr (fun _ => False) w2 W3 := by rw [hW3]; exact (Fr.refl _ _).alloc _
    have b3 : Blk W3 w2.heap.size 76 #[.int .i64 3, .int .i64 0, .int .i64 0, .int .i64 0] := by rw [hW3]; exact Blk.new _ _ _
    have sz3 : W3.heap.size = w2.heap.size + 1 := by rw [hW3]; simp
    have HTO : Hid (Calls Try.prog 47 #[.int .i64 (n : Int), .slice A1 q c1, .agg #[.int .i64 3, .int .i64 0, .int .i64 0, .int .i64 0]] W3 fun e w' => ∃ g, e = .returned (.tuple #[.slice (some ⟨g, 0, none⟩) n n, .int .i64 0]) ∧ W3.heap.size ≤ g ∧ RowU w' g (kout 3 0 n El) ∧ Fr (fun _ => False) W3 w' ∧ KEnd 3 0 n El) :=
      tof3 A1 n q c1 0 0 0 El W3 ((HE3.out.up F3)) HQ.out (by omega) OK1.out hn1 hn2 OK2.out (by omega) (.inr (.inr (.inl ⟨rfl, rfl⟩)))
    have HTR : Hid (∀ W, Fr (fun _ => False) W3 W → Calls Try.prog 48 #[.int .i64 (n : Int), .slice A1 q c1, .agg #[.int .i64 3, .int .i64 0, .int .i64 0, .int .i64 0]] W fun e w' => ∃ g, e = .returned (.tuple #[.int .i64 ((kruns 3 0 n El : Nat) : Int), .int .i64 0]) ∧ W.heap.size ≤ g ∧ RowU w' g (kout 3 0 n El) ∧ Fr (fun _ => False) W w' ∧ KEnd 3 0 n El) :=
      fun W hf => trounds3 A1 n q c1 0 0 0 El W ((HE3.out.up F3).up hf) HQ.out (by omega) OK1.out hn1 hn2 OK2.out (by omega) (.inr (.inr (.inl ⟨rfl, rfl⟩)))
    have HRB1 := hide (kruns_le 3 0 n El)
    have BR3 := hide b3
    have HFx3 := hide (HF2.out.then_ F3)
    have HS3 := hide (HS.out.fr F3 (fun k h => h.elim))
    have BK3 := hide (BK2.out.fr F3 id)
    have HZ3 := hide hW3
    clear F3 b3 hW3 HS
    rw [← HZ3.out]
    go_at_call 47
    refine HTO.out.mono ?_
    rintro e w4 ⟨gw, rfl, hgw, hrw, hf, hke⟩
    have HRW := hide hrw
    have HKE := hide hke
    have lgw := hrw.lt
    have BR4 := hide (BR3.out.fr hf id)
    have HS4 := hide (HS3.out.fr hf (fun k h => h.elim))
    have BK4 := hide (BK3.out.fr hf id)
    have HF4 := hide (HFx3.out.then_ hf)
    have HTR4 := hide (HTR.out w4 hf)
    have sz4 := hf.size
    have x0 := (BR4.out.cell 0).trans rfl
    have x1 := (BR4.out.cell 1).trans rfl
    have x2 := (BR4.out.cell 2).trans rfl
    have x3 := (BR4.out.cell 3).trans rfl
    clear hrw hf HTO hke HTR
    go_wp2_with fail
    go_at_call 48
    refine HTR4.out.mono ?_
    rintro e w4b ⟨gw2, rfl, hgw2, hrw2, hf, hke⟩
    have HRW4 := hide (HRW.out.fr hf id)
    have BR4b := hide (BR4.out.fr hf id)
    have HS4b := hide (HS4.out.fr hf (fun k h => h.elim))
    have BK4b := hide (BK4.out.fr hf id)
    have HF4b := hide (HF4.out.then_ hf)
    have sz4b := hf.size
    obtain ⟨rr, hrr⟩ : ∃ rr, kruns 3 0 n El = rr := ⟨_, rfl⟩
    have HDN := hide (fun r (hr : r < rr) => (show kdn (kdOf 3 0) n [Gr.flat El] r = decide (r + 1 = rr) from by
      have := HKE.out.at (r := r) (by omega)
      rw [hrr] at this
      exact this))
    have HKO := hide (show kout 3 0 n El = (kst (kdOf 3 0) n [Gr.flat El] rr).1 from by unfold kout; rw [hrr])
    have hrb1 : kruns 3 0 n El ≤ n + 1 := HRB1.out
    rw [hrr] at hrb1 ⊢
    clear hrw2 hf hke hrr x0 x1 x2 x3
    go_wp2_with fail
    go_at_call 19
    refine (fresh_any n _ (by omega)).mono ?_
    rintro e w5 ⟨pa, ga, pb, gb, rfl, hga5, hgb5, hT, hf⟩
    have HT5 := hide hT
    have la := hT.a.row.lt
    have lb := hT.b.row.lt
    have BR5 := hide (BR4b.out.fr hf id)
    have HS5 := hide (HS4b.out.fr hf (fun k h => h.elim))
    have BK5 := hide (BK4b.out.fr hf id)
    have HRW5 := hide (HRW4.out.fr hf id)
    have HF5 := hide (HF4b.out.then_ hf)
    have sz5 := hf.size
    have r1 : w5.cell? ⟨w2.heap.size, 1, none⟩ = some (.int .i64 0) := (BR5.out.cell 1).trans rfl
    clear hT hf
    go_wp2_with fail
    go_at_call 30
    refine (labels.begin_ok HT5.out (may_n hn1 (by omega) (by simp) (by simp)) (0 : Int) (by decide)).mono ?_
    rintro e w6 ⟨rfl, hT, hf⟩
    rw [List.length_replicate] at hT
    have HT6 := hide (show TwoAt w6 pa ga pb gb (kst (kdOf 3 0) n [Gr.flat El] 0).1 (kst (kdOf 3 0) n [Gr.flat El] 0).2 from hT)
    have HG6 := hide hf
    have BR6 := hide (BR5.out.fr hf (by omega))
    have HS6 := hide (HS5.out.fr hf (fun k h => by omega))
    have BK6 := hide (BK5.out.fr hf (by have := BK2.out.lt; omega))
    have HRW6 := hide (HRW5.out.fr hf (by omega))
    have HF6 := hide (HF5.out.trans hf (fun k h => .inr (by have := HF5.out.size; have := HF4.out.size; omega)))
    have sz6 := hf.size
    have z2 : w6.cell? ⟨w.heap.size + 1, 2, none⟩ = some (.slice AB nB cB) := (BK6.out.cell 2).trans rfl
    clear hT hf r1
    go_wp2_with fail
    go_at_call 34
    refine (order_any AB s nB cB yb _ (HRB.out.up HF6.out) LB.out hs3 HYB.out hnb).mono ?_
    rintro e w7 ⟨Ao, co, rfl, hro, hf⟩
    have HOP := hide (Gr.order_perm s yb)
    have HOL := Gr.order_len s yb
    have HOlt := hide (Gr.order_lt s yb)
    generalize Gr.order s yb = OL at *
    have HT7 := hide (HT6.out.still hf)
    have HRO := hide hro
    have BR7 := hide (BR6.out.fr hf id)
    have HS7 := hide (HS6.out.fr hf (fun k h => h.elim))
    have HRW7 := hide (HRW6.out.fr hf id)
    have HF7 := hide (HF6.out.then_ hf)
    have sz7 := hf.size
    clear hro hf z2 BK6 BK5 BK4b BK4 BK3 HT6 HT5
    obtain ⟨bo, oo, rfl, _⟩ := HRO.out.2 (by omega)
    have HCO := hide (fun j (hj : j < s) (S : Nat → Prop) W (hf : Fr S w7 W) (hS : ∀ k, S k → k < w6.heap.size) => (show W.cell? ⟨bo, oo + j, none⟩ = some (.int .i64 ((OL.getD j 0 : Nat) : Int)) by
      obtain ⟨b', o', e, hlo, hb', hc⟩ := (HRO.out.fr hf hS).2 (by omega)
      injection e with e
      injection e with e1 e2
      subst e1
      subst e2
      refine hc j _ ?_
      simp [ivals, List.getD, show j < OL.length by omega]))
    go_wp2_with fail
    go_loopw [16] (fun i wr => ∃ r : Nat, r ≤ rr ∧ i = .int .i64 (r : Int) ∧ Hid (TwoAt wr pa ga pb gb (kst (kdOf 3 0) n [Gr.flat El] r).1 (kst (kdOf 3 0) n [Gr.flat El] r).2 ∧ Fr (fun k => k = ga ∨ k = gb) w7 wr)) (fun i _ => rr - (intOf i).toNat)
    case atStart => exact ⟨0, by omega, rfl, HT7.out, Fr.refl _ _⟩
    case round =>
      obtain ⟨r, hr, rfl, HI⟩ := hrel
      have cr1 : wr.cell? ⟨w2.heap.size, 1, none⟩ = some (.int .i64 0) := ((BR7.out.fr HI.out.2 (by omega)).cell 1).trans rfl
      obtain ⟨lx, ly⟩ := kst_len (kd_good 3 0) n [Gr.flat El] r
      by_cases hlt : r < rr
      · have HNX := hide (show kst (kdOf 3 0) n [Gr.flat El] (r + 1) = (labels.cXs 0 (kst (kdOf 3 0) n [Gr.flat El] r).1 ((Gr.flat El).foldl (labels.step (kst (kdOf 3 0) n [Gr.flat El] r).1) (kst (kdOf 3 0) n [Gr.flat El] r).2), labels.cYs 0 (kst (kdOf 3 0) n [Gr.flat El] r).1 ((Gr.flat El).foldl (labels.step (kst (kdOf 3 0) n [Gr.flat El] r).1) (kst (kdOf 3 0) n [Gr.flat El] r).2)) from rfl)
        have HDR := hide (show labels.cDone 0 (kst (kdOf 3 0) n [Gr.flat El] r).1 ((Gr.flat El).foldl (labels.step (kst (kdOf 3 0) n [Gr.flat El] r).1) (kst (kdOf 3 0) n [Gr.flat El] r).2) = decide (r + 1 = rr) from HDN.out r hlt)
        generalize (kst (kdOf 3 0) n [Gr.flat El] r).1 = xs at *
        generalize (kst (kdOf 3 0) n [Gr.flat El] r).2 = ys at *
        generalize hwo : wr = wo at *
        have hd4 : decide ((r : Int) < (rr : Int)) = true := by simp; omega
        have hd5 : decide (r < rr) = true := by simp; omega
        go_wp2_with fail
        try simp only [hd4, hd5]
        go_loopw [17] (fun i wr => ∃ j : Nat, j ≤ 2 * s ∧ i = .int .i64 j ∧ Hid (TwoAt wr pa ga pb gb xs (accL (labels.step xs) El n s ys ((OL ++ OL).take j)) ∧ Fr (fun k => k = gb) wo wr)) (fun i _ => 2 * s - (intOf i).toNat)
        case atStart => exact ⟨0, by omega, rfl, by simpa [accL] using HI.out.1, Fr.refl _ _⟩
        case round =>
          obtain ⟨j, hj, rfl, HJ⟩ := hrel
          have HFw := hide (HI.out.2.trans HJ.out.2 (fun k h => .inl (.inr h)))
          have hw2 : IntKind.i64.wrap (2 * (s : Int)) = 2 * (s : Int) := by simp only [IntKind.wrap, IntKind.bits, IntKind.signed]; simp; omega
          by_cases hjs : j < 2 * s
          · have HSr := hide (HS7.out.fr HFw.out (fun k h => by omega))
            have HFT := hide (fun i (hi : i < s) => Gr.shard_fits El n s i (by omega) hi (fun e he => (OK2.out e he).2.1))
            have lA : (accL (labels.step xs) El n s ys ((OL ++ OL).take j)).length = n := by rw [accL_len _ (labels.step_len xs)]; exact ly
            obtain ⟨lj2, lj, he2⟩ := Gr.twice_at OL HOL hjs
            have HTK := hide (accL_take (labels.step xs) El n s ys (OL ++ OL) lj2)
            obtain ⟨jj, hjj⟩ : ∃ jj, j % s = jj := ⟨_, rfl⟩
            have hjjs : jj < s := by rw [← hjj]; exact Nat.mod_lt _ (by omega)
            have hmod : (j : Int) % (s : Int) = (jj : Int) := by rw [← hjj]; rfl
            have hjz : ¬ ((s : Int) = 0) := by omega
            have hb0 : (0 : Int) ≤ (jj : Int) := by omega
            have hb1 : (jj : Int) < (s : Int) := by omega
            have hgd : OL.getD jj 0 = (OL ++ OL)[j] := by
              rw [he2]
              subst hjj
              simp [List.getD, lj]
            have holt := HOlt.out ((OL ++ OL)[j]'lj2) (by rw [he2]; exact List.getElem_mem lj)
            have c8 := HCO.out jj hjjs _ wr HFw.out (fun k h => by omega)
            rw [hgd] at c8
            clear hgd hjj he2
            generalize (OL ++ OL)[j]'lj2 = oj at *
            obtain ⟨Aj, vs2, q0, q1, q2, hst2⟩ := HSr.out.at holt
            have HST2 := hide hst2
            have bo0 : (0 : Int) ≤ (oj : Int) := by omega
            have bo1 : (oj : Int) < (s : Int) := by omega
            have hcut := Gr.cut_le (n := n) (s := s) (k := oj + 1) (by omega) (by omega)
            clear hst2
            go_wp2_with fail
            go_at_call 27
            refine (labels.shard_ok HJ.out.1 (may_n hn1 (by omega) lx lA) (fun w' hf => HST2.out _ w' hf (fun k h => by omega)) (by rw [lx]; exact HFT.out oj holt) (r : Int) (by omega)).mono ?_
            rintro e w8 ⟨rfl, hT, hf⟩
            have H8 := hide (show TwoAt w8 pa ga pb gb xs (accL (labels.step xs) El n s ys ((OL ++ OL).take (j + 1))) by rw [HTK.out]; exact hT)
            have HF8 := hide (HJ.out.2.trans hf (fun k h => .inl h))
            clear hT hf q0 q1 q2 c8
            go_wp2
            try simp only [hd4, hd5]
            go_roundw
            case rel => exact ⟨j + 1, by omega, by go_num, H8.out, HF8.out⟩
            case measure => simp [intOf]; omega
          · obtain rfl : j = 2 * s := by omega
            have hto : (OL ++ OL).take (2 * s) = OL ++ OL := List.take_of_length_le (by rw [List.length_append]; omega)
            have hAl := (Gr.oftenL xs El n s ys OL HOP.out).trans (accL_all (labels.step xs) (Gr.labels_comm xs) El n s (by omega) (fun e he => (OK2.out e he).1) ys OL HOP.out)
            have HK := HJ.out.1
            rw [hto, hAl] at HK
            have HT6 := hide HK
            have lA : ((Gr.flat El).foldl (labels.step xs) ys).length = n := by rw [foldl_len (labels.step_len xs)]; exact ly
            have cr2 : wr.cell? ⟨w2.heap.size, 1, none⟩ = some (.int .i64 0) := ((BR7.out.fr HFw.out (by omega)).cell 1).trans rfl
            generalize (Gr.flat El).foldl (labels.step xs) ys = ac at *
            clear hto hAl HK HJ
            have HCM := hide (labels.commit_ok HT6.out (may_n hn1 (by omega) lx lA) 0 (r : Int))
            obtain ⟨dv, hdv⟩ : ∃ dv, decide (r + 1 = rr) = dv := ⟨_, rfl⟩
            rw [HDR.out, hdv] at HCM
            have hd1 : decide ((rr : Int) ≤ (r : Int) + 1) = dv := by rw [← hdv, decide_eq_decide]; omega
            have hd2 : ((r : Int) == (rr : Int) - 1) = dv := by
              rw [← hdv, Bool.eq_iff_iff]; simp; omega
            have hd3 : decide ((r : Int) + 1 = (rr : Int)) = dv := by rw [← hdv, decide_eq_decide]; omega
            have hd6 : decide ((r : Int) = (rr : Int) - 1) = dv := by rw [← hdv, decide_eq_decide]; omega
            have hdd : (dv != dv) = false := by simp
            have hw1 : IntKind.i64.wrap ((rr : Int) - 1) = (rr : Int) - 1 := by simp only [IntKind.wrap, IntKind.bits, IntKind.signed]; simp; omega
            clear hdv hd1
            go_wp2_with fail
            go_at_call 28
            refine HCM.out.mono ?_
            rintro e w8 ⟨rfl, hT, hf⟩
            have HT8 := hide hT
            have HF8 := hide (HFw.out.trans hf (fun k h => .inl h))
            have cr3 : w8.cell? ⟨w2.heap.size, 1, none⟩ = some (.int .i64 0) := ((BR7.out.fr HF8.out (by omega)).cell 1).trans rfl
            clear hT hf HCM cr2 cr1
            go_wp2
            try simp only [hd4, hd5]
            go_roundw
            case rel => exact ⟨r + 1, by omega, by go_num, by rw [HNX.out]; exact HT8.out, HF8.out⟩
            case measure => simp [intOf]; omega
      · obtain rfl : r = rr := by omega
        have HRW9 := hide (show RowU wr gw (kst (kdOf 3 0) n [Gr.flat El] r).1 by rw [← HKO.out]; exact HRW7.out.fr HI.out.2 (by omega))
        have HF9 := hide (HF7.out.trans HI.out.2 (fun k h => .inr (by have := HF4.out.size; omega)))
        have hd4 : decide ((r : Int) < (r : Int)) = false := by simp
        generalize (kst (kdOf 3 0) n [Gr.flat El] r).1 = xs at *
        go_wp2_with fail
        go_at_call 26
        refine (read_in HI.out.1.a).mono ?_
        rintro e wa ⟨Aw, cw, rfl, hrd, hf⟩
        rw [lx] at hrd ⊢
        have HRDa := hide hrd
        have HRWa := hide (HRW9.out.fr hf id)
        have HFa := hide (HF9.out.then_ hf)
        clear hrd hf
        go_wp2_with fail
        go_at_call 29
        refine (same_eq Aw (some ⟨gw, 0, none⟩) n cw n n wa.heap.size xs wa HRDa.out.reads (Reads.blk HRWa.out (by simp [lx])) (by omega)).mono ?_
        rintro e wb ⟨rfl, hf⟩
        have HFb := hide (HFa.out.then_ hf)
        clear hf
        go_wp2_with fail
        go_at_call 25
        refine (k19.ends_true _).mono ?_
        rintro e wc ⟨rfl, hf⟩
        have HFc := hide (HFb.out.then_ hf)
        clear hf
        go_wp2
        go_ret
        exact ⟨rfl, HFc.out⟩
end Go.Proofs.Ytjdbjahgimlhbaa.lwhole
end
