/- KernelsParts, walked. -/
import Derived.Test.YtjdbjahgimlhbaaKGraph
import Derived.Test.YtjdbjahgimlhbaaEdMade
import Derived.Test.YtjdbjahgimlhbaaTurns
import Derived.Test.YtjdbjahgimlhbaaAsk
set_option linter.unusedVariables false
set_option maxRecDepth 100000
namespace Go.Proofs.Ytjdbjahgimlhbaa.parts
open Go.RowKit
open Gr (E T)

set_option maxHeartbeats 4000000 in
theorem walk (A : Option Addr) (G m c : Nat) (l : List E) (K a p d m0 m1 : Nat) (w : World) (h : Reads w w.heap.size 2 A m (gcells l)) (hm : l.length = m) (hm63 : m ≤ 9223372036854775807) (hG : G < 256) (hl : ∀ e ∈ l, e.1 < 256 ∧ e.2 < 256) (hK : K < 256) (ha : a < 256) (hp : p < 256) (hd : d < 65536) (hm0 : m0 < 256) (hm1 : m1 < 256) :
    Calls Try.prog 11 #[.agg #[.int .u8 (G : Int), .slice A m c], .agg #[.int .u8 (K : Int), .int .u8 (a : Int), .int .u8 (p : Int), .int .u16 (d : Int)], .agg #[.int .u8 (m0 : Int), .int .u8 (m1 : Int)]] w fun e w' => e = .returned (.bool true) ∧ Fr (fun _ => False) w w' := by
  have H := hide h
  have HM := hide hm
  have HL := hide hl
  clear h hm hl
  have F0 := hide ((((Fr.refl (fun _ => False) w).alloc (.cells #[.int .u8 (G : Int), .slice A m c] 24)).alloc (.cells #[.int .u8 (K : Int), .int .u8 (a : Int), .int .u8 (p : Int), .int .u16 (d : Int)] 85)).alloc (.cells #[.int .u8 (m0 : Int), .int .u8 (m1 : Int)] 58))
  have B2 := hide (show Blk (((w.alloc (.cells #[.int .u8 (G : Int), .slice A m c] 24)).alloc (.cells #[.int .u8 (K : Int), .int .u8 (a : Int), .int .u8 (p : Int), .int .u16 (d : Int)] 85)).alloc (.cells #[.int .u8 (m0 : Int), .int .u8 (m1 : Int)] 58)) (w.heap.size + 1) 85 #[.int .u8 (K : Int), .int .u8 (a : Int), .int .u8 (p : Int), .int .u16 (d : Int)] from by
    have := (Blk.new (w.alloc (.cells #[.int .u8 (G : Int), .slice A m c] 24)) 85 #[.int .u8 (K : Int), .int .u8 (a : Int), .int .u8 (p : Int), .int .u16 (d : Int)]).alloc (.cells #[.int .u8 (m0 : Int), .int .u8 (m1 : Int)] 58)
    simpa using this)
  have B3 := hide (show Blk (((w.alloc (.cells #[.int .u8 (G : Int), .slice A m c] 24)).alloc (.cells #[.int .u8 (K : Int), .int .u8 (a : Int), .int .u8 (p : Int), .int .u16 (d : Int)] 85)).alloc (.cells #[.int .u8 (m0 : Int), .int .u8 (m1 : Int)] 58)) (w.heap.size + 1 + 1) 58 #[.int .u8 (m0 : Int), .int .u8 (m1 : Int)] from by
    have := Blk.new ((w.alloc (.cells #[.int .u8 (G : Int), .slice A m c] 24)).alloc (.cells #[.int .u8 (K : Int), .int .u8 (a : Int), .int .u8 (p : Int), .int .u16 (d : Int)] 85)) 58 #[.int .u8 (m0 : Int), .int .u8 (m1 : Int)]
    simpa using this)
  by_cases hb : 300 < m
  · go_enter Try.func11, Try.ntmps11
    go_wp2_with fail
    go_at_call 44
    refine (k21.turns_true _).mono ?_
    rintro e w1 ⟨rfl, hf⟩
    have HF := hide (F0.out.then_ hf)
    clear hf
    go_wp2
    go_ret
    exact ⟨rfl, HF.out⟩
  · go_enter Try.func11, Try.ntmps11
    go_wp2_with fail
    go_at_call 17
    refine (made_any A m c G l _ (H.out.up F0.out) HM.out (by omega) hG HL.out).mono ?_
    rintro e w1 ⟨A1, c1, rfl, hc1, hE, hf⟩
    have HF1 := hide (F0.out.then_ hf)
    have HB3 := hide (B3.out.fr hf id)
    have x0 := ((B2.out.fr hf id).cell 0).trans rfl
    have x1 := ((B2.out.fr hf id).cell 1).trans rfl
    have x2 := ((B2.out.fr hf id).cell 2).trans rfl
    have x3 := ((B2.out.fr hf id).cell 3).trans rfl
    have HE := hide hE
    obtain ⟨ok1, ok2, ok3⟩ := madeE_ok G l
    have hn1 : 1 ≤ madeN G := by unfold madeN; omega
    have hn2 : madeN G ≤ 60 := by unfold madeN; omega
    rw [HM.out] at ok3
    clear hf hE
    generalize hNN : madeN G = n at *
    generalize hEE : madeE G l = El at *
    have OK1 := hide ok1
    have OK2 := hide ok2
    obtain ⟨q, hq⟩ : ∃ q, El.length = q := ⟨_, rfl⟩
    have HQ := hide hq
    rw [hq] at ok3 hc1
    rw [hq]
    clear ok1 ok2 hq
    go_wp2_with fail
    go_at_call 45
    refine (ask_made K a p d n hK ha hp hd hn1 (by omega) _).mono ?_
    rintro e w2 ⟨rfl, hf⟩
    have hk := ask_ok K a hn1
    have hpr : p % 8 ≤ 7 := by omega
    unfold reqv
    generalize askK K = k at *
    generalize askA K a n = arg at *
    generalize p % 8 = pr at *
    generalize ((256 + d % 1000 : Nat) : Int) = nd at *
    obtain ⟨W5, hW5⟩ : ∃ W5, W5 = w2.alloc (.cells #[.int .i64 (k : Int), .int .i64 (arg : Int), .int .i64 (pr : Int), .int .i64 nd] 76) := ⟨_, rfl⟩
    have F5 : Fr (fun _ => False) w2 W5 := by rw [hW5]; exact (Fr.refl _ _).alloc _
    have b5 : Blk W5 w2.heap.size 76 #[.int .i64 (k : Int), .int .i64 (arg : Int), .int .i64 (pr : Int), .int .i64 nd] := by rw [hW5]; exact Blk.new _ _ _
    have b3 := (HB3.out.fr hf id).fr F5 id
    have HE5 := hide (HE.out.up (hf.then_ F5))
    have HF5 := hide ((HF1.out.then_ hf).then_ F5)
    have HCL := hide (fun W (hf : Fr (fun _ => False) W5 W) => (⟨((b5.fr hf id).cell 0).trans rfl, ((b5.fr hf id).cell 1).trans rfl, ((b5.fr hf id).cell 2).trans rfl, ((b5.fr hf id).cell 3).trans rfl, ((b3.fr hf id).cell 0).trans rfl, ((b3.fr hf id).cell 1).trans rfl⟩ :
      W.cell? ⟨w2.heap.size, 0, none⟩ = some (.int .i64 (k : Int)) ∧ W.cell? ⟨w2.heap.size, 1, none⟩ = some (.int .i64 (arg : Int)) ∧ W.cell? ⟨w2.heap.size, 2, none⟩ = some (.int .i64 (pr : Int)) ∧ W.cell? ⟨w2.heap.size, 3, none⟩ = some (.int .i64 nd) ∧ W.cell? ⟨w.heap.size + 1 + 1, 0, none⟩ = some (.int .u8 (m0 : Int)) ∧ W.cell? ⟨w.heap.size + 1 + 1, 1, none⟩ = some (.int .u8 (m1 : Int))))
    have HZ := hide hW5
    clear hf x0 x1 x2 x3 hW5 F5 b5 b3 HE HB3 HF1

    go_wp2_with fail
    rw [← HZ.out]
    refine wp_region_ord [(0, true), (1, true), (2, true), (3, true), (4, true), (5, true), (6, false), (7, false), (8, true), (9, true), (10, true), (11, true), (12, true), (13, true), (14, true)] (fun W => Fr (fun _ => False) W5 W) (by kernel_rfl) (by kernel_rfl) (Fr.refl (fun _ => False) W5).drew ?_
    iterate 6
      refine ord_read rfl ?_ ?_ (fun W hS => ?_) ?_
      · rfl
      rotate_left
      · (obtain ⟨s0, s1, s2, s3, s4, s5⟩ := HCL.out _ hS; go_simp; try with_reducible rfl)
      simp only [List.getElem_toArray, List.getElem_cons_zero, List.getElem_cons_succ, Act.put, List.setIfInBounds_toArray, List.set_cons_zero, List.set_cons_succ]

    refine ord_act rfl ?_
    go_wp2_with fail
    go_at_call 18
    refine (shards_any A1 n q c1 m0 El _ (HE5.out.up (Fr.refl (fun _ => False) W5).drew) HQ.out (by omega) OK1.out hn1 hn2 hm0 OK2.out).mono ?_
    rintro e w6 ⟨AS, cS, rfl, hS, hf⟩
    obtain ⟨hs1, hs2, hs3⟩ := shN_ok hn1 m0
    generalize shN n m0 = sa at *
    have HRUN := hide (run_graph k arg pr n sa cS nd AS El w6 hpr hk hn1 (by omega) (by omega) (by omega) OK2.out hS)
    unfold reqv at HRUN
    have HF6 := hide ((Fr.refl (fun _ => False) W5).drew.then_ hf)
    clear hS hf
    go_wp2
    refine midQ_ok HF6.out ?_
    refine ord_act rfl ?_
    go_wp2_with fail
    go_at_call 46
    refine HRUN.out.mono ?_
    rintro e w7 ⟨Ba, da, rfl, hR, hf⟩
    have HRa := hide hR
    have HGa := hide (HF6.out.then_ hf)
    clear hR hf HRUN HF6
    go_wp2
    refine midQ_ok HGa.out ?_
    iterate 7
      refine ord_read rfl ?_ ?_ (fun W hS => ?_) ?_
      · rfl
      rotate_left
      · (skip; go_simp; try with_reducible rfl)
      simp only [List.getElem_toArray, List.getElem_cons_zero, List.getElem_cons_succ, Act.put, List.setIfInBounds_toArray, List.set_cons_zero, List.set_cons_succ]

    refine ord_done ?_
    refine NoPanic.normal ?_

    go_wp2_with fail
    refine wp_region_ord [(0, true), (1, true), (2, true), (3, true), (4, true), (5, true), (6, false), (7, false), (8, true), (9, true), (10, true), (11, true), (12, true), (13, true), (14, true)] (fun W => Fr (fun _ => False) W5 W) (by kernel_rfl) (by kernel_rfl) HGa.out.drew ?_
    iterate 6
      refine ord_read rfl ?_ ?_ (fun W hS => ?_) ?_
      · rfl
      rotate_left
      · (obtain ⟨s0, s1, s2, s3, s4, s5⟩ := HCL.out _ hS; go_simp; try with_reducible rfl)
      simp only [List.getElem_toArray, List.getElem_cons_zero, List.getElem_cons_succ, Act.put, List.setIfInBounds_toArray, List.set_cons_zero, List.set_cons_succ]

    refine ord_act rfl ?_
    go_wp2_with fail
    go_at_call 18
    refine (shards_any A1 n q c1 m1 El _ (HE5.out.up HGa.out.drew) HQ.out (by omega) OK1.out hn1 hn2 hm1 OK2.out).mono ?_
    rintro e w6 ⟨AS, cS, rfl, hS, hf⟩
    obtain ⟨hs1, hs2, hs3⟩ := shN_ok hn1 m1
    generalize shN n m1 = sb at *
    have HRUN := hide (run_graph k arg pr n sb cS nd AS El w6 hpr hk hn1 (by omega) (by omega) (by omega) OK2.out hS)
    unfold reqv at HRUN
    have HF6 := hide (HGa.out.drew.then_ hf)
    have HRa := hide (HRa.out.fr ((Fr.refl (fun _ => False) _).drew.then_ hf) (fun k h => h.elim))
    clear hS hf
    go_wp2
    refine midQ_ok HF6.out ?_
    refine ord_act rfl ?_
    go_wp2_with fail
    go_at_call 46
    refine HRUN.out.mono ?_
    rintro e w7 ⟨Bb, db, rfl, hR, hf⟩
    have HRb := hide hR
    have HGb := hide (HF6.out.then_ hf)
    have HRa := hide (HRa.out.fr (hf) (fun k h => h.elim))
    clear hR hf HRUN HF6
    go_wp2
    refine midQ_ok HGb.out ?_
    iterate 7
      refine ord_read rfl ?_ ?_ (fun W hS => ?_) ?_
      · rfl
      rotate_left
      · (skip; go_simp; try with_reducible rfl)
      simp only [List.getElem_toArray, List.getElem_cons_zero, List.getElem_cons_succ, Act.put, List.setIfInBounds_toArray, List.set_cons_zero, List.set_cons_succ]

    refine ord_done ?_
    refine NoPanic.normal ?_

    generalize kruns k arg n El = R at *
    have hbe : ((R : Int) == (R : Int)) = true := by simp
    go_wp2_with fail
    go_at_call 29
    refine (same_eq Ba Bb n da n db _ _ _ HRa.out.reads HRb.out.reads (by omega)).mono ?_
    rintro e w8 ⟨rfl, hf⟩
    have HF8 := hide (HGb.out.then_ hf)
    clear hf
    go_wp2_with fail
    go_at_call 44
    refine (k21.turns_true _).mono ?_
    rintro e w9 ⟨rfl, hf⟩
    have HF9 := hide (HF5.out.trans (HF8.out.then_ hf) (fun k h => h.elim))
    clear hf
    go_wp2
    go_ret
    exact ⟨rfl, HF9.out⟩
end Go.Proofs.Ytjdbjahgimlhbaa.parts
