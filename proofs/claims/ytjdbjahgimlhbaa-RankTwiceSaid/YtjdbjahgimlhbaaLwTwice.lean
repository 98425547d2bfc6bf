/- RankTwice, walked. -/
import Derived.Test.YtjdbjahgimlhbaaFour
import Derived.Test.YtjdbjahgimlhbaaGrTwice
import Derived.Test.YtjdbjahgimlhbaaEdMade
import Derived.Test.YtjdbjahgimlhbaaEnds18
set_option linter.unusedVariables false
set_option maxRecDepth 100000
namespace Go.Proofs.Ytjdbjahgimlhbaa.twice
open Go.RowKit
open Gr (E T)

set_option maxHeartbeats 2000000 in
theorem walk (A : Option Addr) (G m c : Nat) (l : List E) (A0 A1' : Option Addr) (n0 d0 n1 d1 : Nat) (x0 x1 : List Nat) (w : World) (h : Reads w w.heap.size 2 A m (gcells l)) (hm : l.length = m) (hm63 : m ≤ 9223372036854775807) (hG : G < 256) (hl : ∀ e ∈ l, e.1 < 256 ∧ e.2 < 256)
    (hr0 : Reads w w.heap.size 1 A0 n0 (x0.map u64v)) (hr1 : Reads w w.heap.size 1 A1' n1 (x1.map u64v)) (hx0 : ∀ x ∈ x0, x < 18446744073709551616) (hx1 : ∀ x ∈ x1, x < 18446744073709551616) (h63a : n0 ≤ 9223372036854775807) (h63b : n1 ≤ 9223372036854775807) :
    Calls Try.prog 4 #[.agg #[.int .u8 (G : Int), .slice A m c], .agg #[.slice A0 n0 d0, .slice A1' n1 d1]] w fun e w' => e = .returned (.bool true) ∧ Fr (fun _ => False) w w' := by
  have H := hide h
  have HM := hide hm
  have HL := hide hl
  have HR0 := hide hr0
  have HR1 := hide hr1
  have HX0 := hide hx0
  have HX1 := hide hx1
  have L0 := hide (show x0.length = n0 by have := hr0.1; simpa using this)
  have L1 := hide (show x1.length = n1 by have := hr1.1; simpa using this)
  clear h hm hl hr0 hr1 hx0 hx1
  have F0 := hide (((Fr.refl (fun _ => False) w).alloc (.cells #[.int .u8 (G : Int), .slice A m c] 24)).alloc (.cells #[.slice A0 n0 d0, .slice A1' n1 d1] 50))
  have BK : Hid (Blk ((w.alloc (.cells #[.int .u8 (G : Int), .slice A m c] 24)).alloc (.cells #[.slice A0 n0 d0, .slice A1' n1 d1] 50)) (w.heap.size + 1) 50 #[.slice A0 n0 d0, .slice A1' n1 d1]) := by
    have := Blk.new (w.alloc (.cells #[.int .u8 (G : Int), .slice A m c] 24)) 50 #[.slice A0 n0 d0, .slice A1' n1 d1]
    unfold Hid
    simpa using this
  have hcase : 300 < m ∨ (m ≤ 300 ∧ 256 < n0) ∨ (m ≤ 300 ∧ n0 ≤ 256 ∧ 256 < n1) ∨ (m ≤ 300 ∧ n0 ≤ 256 ∧ n1 ≤ 256) := by omega
  rcases hcase with hb | ⟨hb, hb2⟩ | ⟨hb, hb2, hb3⟩ | ⟨hb, hb2, hb3⟩
  · go_enter Try.func4, Try.ntmps4
    go_wp2_with fail
    go_at_call 16
    refine (k18.ends_true _).mono ?_
    rintro e w1 ⟨rfl, hf⟩
    have HF := hide (F0.out.then_ hf)
    clear hf
    go_wp2
    go_ret
    exact ⟨rfl, HF.out⟩
  · go_enter Try.func4, Try.ntmps4
    go_wp2_with fail
    go_at_call 16
    refine (k18.ends_true _).mono ?_
    rintro e w1 ⟨rfl, hf⟩
    have HF := hide (F0.out.then_ hf)
    clear hf
    go_wp2
    go_ret
    exact ⟨rfl, HF.out⟩
  · go_enter Try.func4, Try.ntmps4
    go_wp2_with fail
    go_at_call 16
    refine (k18.ends_true _).mono ?_
    rintro e w1 ⟨rfl, hf⟩
    have HF := hide (F0.out.then_ hf)
    clear hf
    go_wp2
    go_ret
    exact ⟨rfl, HF.out⟩
  · go_enter Try.func4, Try.ntmps4
    go_wp2_with fail
    go_at_call 17
    refine (made_any A m c G l _ (H.out.up F0.out) HM.out (by omega) hG HL.out).mono ?_
    rintro e w1 ⟨A1, c1, rfl, hc1, hE, hf⟩
    have HF1 := hide (F0.out.then_ hf)
    have BK1 := hide (BK.out.fr hf (fun h => h))
    have HE := hide hE
    obtain ⟨ok1, ok2, ok3⟩ := madeE_ok G l
    have hn1 : 1 ≤ madeN G := by unfold madeN; omega
    have hn2 : madeN G ≤ 60 := by unfold madeN; omega
    rw [HM.out] at ok3
    clear hf hE
    generalize hNN : madeN G = n at *
    generalize hEE : madeE G l = El at *
    have OK1 := hide ok1
    have OK2 := hide ok2
    obtain ⟨q, hq⟩ : ∃ q, El.length = q := ⟨_, rfl⟩
    have HQ := hide hq
    rw [hq] at ok3 hc1
    rw [hq]
    clear ok1 ok2 hq
    go_wp2_with fail
    go_at_call 18
    refine (shards_any A1 n q c1 0 El _ HE.out HQ.out (by omega) OK1.out hn1 hn2 (by omega) OK2.out).mono ?_
    rintro e w2 ⟨AS, cS, rfl, hS, hf⟩
    rw [show shN n 0 = 1 by simp [shN]] at hS ⊢
    obtain ⟨b, o, rfl, hbK⟩ := hS.addr
    have HS := hide hS
    have HF2 := hide (HF1.out.then_ hf)
    have BK2 := hide (BK1.out.fr hf (fun h => h))
    clear hS hf
    go_wp2_with fail
    go_at_call 19
    refine (fresh_any n _ (by omega)).mono ?_
    rintro e w3 ⟨pa, ga, pb, gb, rfl, hga, hgb, hT, hf⟩
    have HT := hide hT
    have HF3 := hide hf
    have la := hT.a.row.lt
    have lb := hT.b.row.lt
    clear hT hf
    go_wp2_with fail
    go_at_call 19
    refine (fresh_any n _ (by omega)).mono ?_
    rintro e w4 ⟨pc, gc, pd, gd, rfl, hgc, hgd, hT2, hf⟩
    have H4 := hide (show FourAt w4 pa ga pb gb pc gc pd gd (List.replicate n 0) (List.replicate n 0) (List.replicate n 0) (List.replicate n 0) from ⟨HT.out.still hf, hT2, by omega, by omega, by omega, by omega⟩)
    have HF4 := hide (HF3.out.then_ hf)
    have lc := hT2.a.row.lt
    have ld := hT2.b.row.lt
    have h43 := HF4.out.size
    clear hT2 hf HT HF3
    go_wp2_with fail
    obtain ⟨fx, hfx⟩ : ∃ f, Gr.orv x0 (fun v => v) = f := ⟨_, rfl⟩
    obtain ⟨fy, hfy⟩ : ∃ f, Gr.orv x1 (fun _ => 0) = f := ⟨_, rfl⟩
    have HFX := hide (fun v (hv : v < 256) => (show fx v < 18446744073709551616 by rw [← hfx]; exact Gr.orv_lt HX0.out (fun v h => by omega) hv))
    have HFY := hide (fun v (hv : v < 256) => (show fy v < 18446744073709551616 by rw [← hfy]; exact Gr.orv_lt HX1.out (fun v h => by omega) hv))
    have HF4w := hide (HF2.out.then_ HF4.out)
    have BK4 := hide (BK2.out.fr HF4.out (fun h => h))
    have HS4 := hide (HS.out.fr HF4.out (fun k h => h.elim))
    have h24 := HF2.out.size
    have hbk := BK2.out.lt
    go_wp2_with fail
    go_loopw [12] (fun i wr => ∃ v : Nat, v ≤ n ∧ i = .int .i64 v ∧ Hid (FourAt wr pa ga pb gb pc gc pd gd (pre fx v (List.replicate n 0)) (pre fy v (List.replicate n 0)) (pre fx v (List.replicate n 0)) (List.replicate n 0) ∧ Fr (fun k => k = ga ∨ k = gb ∨ k = gc ∨ k = gd) w4 wr)) (fun i _ => n - (intOf i).toNat)
    case atStart => exact ⟨0, by omega, rfl, by rw [pre_zero, pre_zero]; exact H4.out, Fr.refl _ _⟩
    case round =>
      obtain ⟨v, hv, rfl, HI⟩ := hrel
      by_cases hvn : v < n
      · have hv60 : v < 256 := by omega
        have BKr := hide (BK4.out.fr HI.out.2 (by omega))
        have y0 : wr.cell? ⟨w.heap.size + 1, 0, none⟩ = some (.slice A0 n0 d0) := (BKr.out.cell 0).trans rfl
        have y1 : wr.cell? ⟨w.heap.size + 1, 1, none⟩ = some (.slice A1' n1 d1) := (BKr.out.cell 1).trans rfl
        have HFwr := hide (HF4w.out.trans HI.out.2 (fun k h => .inr (by omega)))
        have lp1 : (pre fx v (List.replicate n 0)).length = n := by rw [pre_len fx (by simp; omega)]; simp
        have lp2 : (pre fy v (List.replicate n 0)).length = n := by rw [pre_len fy (by simp; omega)]; simp
        have ex : fx v = if v < n0 then x0.getD v 0 else v := by rw [← hfx, ← L0.out]; rfl
        have ey : fy v = if v < n1 then x1.getD v 0 else 0 := by rw [← hfy, ← L1.out]; rfl
        by_cases hva : v < n0
        · rw [if_pos hva] at ex
          obtain ⟨b1, o1, u1, rfl, _, hu1, hc1⟩ := (HR0.out.up HFwr.out).at_ hva
          have hu2 : u1 = u64v (x0.getD v 0) := by
            rw [List.getElem?_map, List.getElem?_eq_getElem (by rw [L0.out]; exact hva)] at hu1
            simpa [List.getD, show v < x0.length by rw [L0.out]; exact hva] using (Option.some.inj hu1).symm
          subst hu2
          rw [← ex] at hc1
          unfold u64v at hc1
          have hz1 : (fx v) < 18446744073709551616 := HFX.out v hv60
          clear ex hu1
          by_cases hvb : v < n1
          · rw [if_pos hvb] at ey
            obtain ⟨b2, o2, u2, rfl, _, hu3, hc2⟩ := (HR1.out.up HFwr.out).at_ hvb
            have hu4 : u2 = u64v (x1.getD v 0) := by
              rw [List.getElem?_map, List.getElem?_eq_getElem (by rw [L1.out]; exact hvb)] at hu3
              simpa [List.getD, show v < x1.length by rw [L1.out]; exact hvb] using (Option.some.inj hu3).symm
            subst hu4
            rw [← ey] at hc2
            unfold u64v at hc2
            clear ey hu3
            go_wp2_with fail
            go_at_call 24
            refine (set_z HI.out.1.a.a v (fx v) _ rfl (by omega) (HFX.out v hv60)).mono ?_
            rintro e w8 ⟨rfl, hp, hf⟩
            rw [show (pre fx v (List.replicate n 0)).set v (fx v) = pre fx (v + 1) (List.replicate n 0) from pre_set fx (by simpa using hvn)] at hp
            have H8 := hide (HI.out.1.stepA (HI.out.1.a.setA hp hf) (hf.mono (fun k h => .inl h)))
            have HF8 := hide (HI.out.2.trans hf (fun k h => .inl (by omega)))
            clear hp hf
            go_wp2_with fail
            go_at_call 24
            refine (set_z H8.out.a.b v (fy v) _ rfl (by omega) (HFY.out v hv60)).mono ?_
            rintro e w9 ⟨rfl, hp, hf⟩
            rw [show (pre fy v (List.replicate n 0)).set v (fy v) = pre fy (v + 1) (List.replicate n 0) from pre_set fy (by simpa using hvn)] at hp
            have H9 := hide (H8.out.stepA (H8.out.a.setB hp hf) (hf.mono (fun k h => .inr h)))
            have HF9 := hide (HF8.out.trans hf (fun k h => .inl (by omega)))
            clear hp hf
            go_wp2_with fail
            go_at_call 24
            refine (set_z H9.out.c.a v (fx v) _ rfl (by omega) (HFX.out v hv60)).mono ?_
            rintro e wa ⟨rfl, hp, hf⟩
            rw [show (pre fx v (List.replicate n 0)).set v (fx v) = pre fx (v + 1) (List.replicate n 0) from pre_set fx (by simpa using hvn)] at hp
            have HA := hide (H9.out.stepC (H9.out.c.setA hp hf) (hf.mono (fun k h => .inl h)))
            have HFa := hide (HF9.out.trans hf (fun k h => .inl (by omega)))
            clear hp hf
            go_wp2
            go_roundw
            case rel => exact ⟨v + 1, by omega, by go_num, HA.out, HFa.out⟩
            case measure => simp [intOf]; omega
          · rw [if_neg hvb] at ey
            have EY := hide ey
            clear ey
            go_wp2_with fail
            go_at_call 24
            refine (set_z HI.out.1.a.a v (fx v) _ rfl (by omega) (HFX.out v hv60)).mono ?_
            rintro e w8 ⟨rfl, hp, hf⟩
            rw [show (pre fx v (List.replicate n 0)).set v (fx v) = pre fx (v + 1) (List.replicate n 0) from pre_set fx (by simpa using hvn)] at hp
            have H8 := hide (HI.out.1.stepA (HI.out.1.a.setA hp hf) (hf.mono (fun k h => .inl h)))
            have HF8 := hide (HI.out.2.trans hf (fun k h => .inl (by omega)))
            clear hp hf
            go_wp2_with fail
            go_at_call 24
            refine (set_z H8.out.a.b v (fy v) _ (by rw [EY.out]; rfl) (by omega) (HFY.out v hv60)).mono ?_
            rintro e w9 ⟨rfl, hp, hf⟩
            rw [show (pre fy v (List.replicate n 0)).set v (fy v) = pre fy (v + 1) (List.replicate n 0) from pre_set fy (by simpa using hvn)] at hp
            have H9 := hide (H8.out.stepA (H8.out.a.setB hp hf) (hf.mono (fun k h => .inr h)))
            have HF9 := hide (HF8.out.trans hf (fun k h => .inl (by omega)))
            clear hp hf
            go_wp2_with fail
            go_at_call 24
            refine (set_z H9.out.c.a v (fx v) _ rfl (by omega) (HFX.out v hv60)).mono ?_
            rintro e wa ⟨rfl, hp, hf⟩
            rw [show (pre fx v (List.replicate n 0)).set v (fx v) = pre fx (v + 1) (List.replicate n 0) from pre_set fx (by simpa using hvn)] at hp
            have HA := hide (H9.out.stepC (H9.out.c.setA hp hf) (hf.mono (fun k h => .inl h)))
            have HFa := hide (HF9.out.trans hf (fun k h => .inl (by omega)))
            clear hp hf
            go_wp2
            go_roundw
            case rel => exact ⟨v + 1, by omega, by go_num, HA.out, HFa.out⟩
            case measure => simp [intOf]; omega
        · rw [if_neg hva] at ex
          have EX := hide ex
          clear ex
          by_cases hvb : v < n1
          · rw [if_pos hvb] at ey
            obtain ⟨b2, o2, u2, rfl, _, hu3, hc2⟩ := (HR1.out.up HFwr.out).at_ hvb
            have hu4 : u2 = u64v (x1.getD v 0) := by
              rw [List.getElem?_map, List.getElem?_eq_getElem (by rw [L1.out]; exact hvb)] at hu3
              simpa [List.getD, show v < x1.length by rw [L1.out]; exact hvb] using (Option.some.inj hu3).symm
            subst hu4
            rw [← ey] at hc2
            unfold u64v at hc2
            clear ey hu3
            go_wp2_with fail
            go_at_call 24
            refine (set_z HI.out.1.a.a v (fx v) _ (by rw [EX.out]) (by omega) (HFX.out v hv60)).mono ?_
            rintro e w8 ⟨rfl, hp, hf⟩
            rw [show (pre fx v (List.replicate n 0)).set v (fx v) = pre fx (v + 1) (List.replicate n 0) from pre_set fx (by simpa using hvn)] at hp
            have H8 := hide (HI.out.1.stepA (HI.out.1.a.setA hp hf) (hf.mono (fun k h => .inl h)))
            have HF8 := hide (HI.out.2.trans hf (fun k h => .inl (by omega)))
            clear hp hf
            go_wp2_with fail
            go_at_call 24
            refine (set_z H8.out.a.b v (fy v) _ rfl (by omega) (HFY.out v hv60)).mono ?_
            rintro e w9 ⟨rfl, hp, hf⟩
            rw [show (pre fy v (List.replicate n 0)).set v (fy v) = pre fy (v + 1) (List.replicate n 0) from pre_set fy (by simpa using hvn)] at hp
            have H9 := hide (H8.out.stepA (H8.out.a.setB hp hf) (hf.mono (fun k h => .inr h)))
            have HF9 := hide (HF8.out.trans hf (fun k h => .inl (by omega)))
            clear hp hf
            go_wp2_with fail
            go_at_call 24
            refine (set_z H9.out.c.a v (fx v) _ (by rw [EX.out]) (by omega) (HFX.out v hv60)).mono ?_
            rintro e wa ⟨rfl, hp, hf⟩
            rw [show (pre fx v (List.replicate n 0)).set v (fx v) = pre fx (v + 1) (List.replicate n 0) from pre_set fx (by simpa using hvn)] at hp
            have HA := hide (H9.out.stepC (H9.out.c.setA hp hf) (hf.mono (fun k h => .inl h)))
            have HFa := hide (HF9.out.trans hf (fun k h => .inl (by omega)))
            clear hp hf
            go_wp2
            go_roundw
            case rel => exact ⟨v + 1, by omega, by go_num, HA.out, HFa.out⟩
            case measure => simp [intOf]; omega
          · rw [if_neg hvb] at ey
            have EY := hide ey
            clear ey
            go_wp2_with fail
            go_at_call 24
            refine (set_z HI.out.1.a.a v (fx v) _ (by rw [EX.out]) (by omega) (HFX.out v hv60)).mono ?_
            rintro e w8 ⟨rfl, hp, hf⟩
            rw [show (pre fx v (List.replicate n 0)).set v (fx v) = pre fx (v + 1) (List.replicate n 0) from pre_set fx (by simpa using hvn)] at hp
            have H8 := hide (HI.out.1.stepA (HI.out.1.a.setA hp hf) (hf.mono (fun k h => .inl h)))
            have HF8 := hide (HI.out.2.trans hf (fun k h => .inl (by omega)))
            clear hp hf
            go_wp2_with fail
            go_at_call 24
            refine (set_z H8.out.a.b v (fy v) _ (by rw [EY.out]; rfl) (by omega) (HFY.out v hv60)).mono ?_
            rintro e w9 ⟨rfl, hp, hf⟩
            rw [show (pre fy v (List.replicate n 0)).set v (fy v) = pre fy (v + 1) (List.replicate n 0) from pre_set fy (by simpa using hvn)] at hp
            have H9 := hide (H8.out.stepA (H8.out.a.setB hp hf) (hf.mono (fun k h => .inr h)))
            have HF9 := hide (HF8.out.trans hf (fun k h => .inl (by omega)))
            clear hp hf
            go_wp2_with fail
            go_at_call 24
            refine (set_z H9.out.c.a v (fx v) _ (by rw [EX.out]) (by omega) (HFX.out v hv60)).mono ?_
            rintro e wa ⟨rfl, hp, hf⟩
            rw [show (pre fx v (List.replicate n 0)).set v (fx v) = pre fx (v + 1) (List.replicate n 0) from pre_set fx (by simpa using hvn)] at hp
            have HA := hide (H9.out.stepC (H9.out.c.setA hp hf) (hf.mono (fun k h => .inl h)))
            have HFa := hide (HF9.out.trans hf (fun k h => .inl (by omega)))
            clear hp hf
            go_wp2
            go_roundw
            case rel => exact ⟨v + 1, by omega, by go_num, HA.out, HFa.out⟩
            case measure => simp [intOf]; omega
      · obtain rfl : v = n := by omega
        rw [pre_full fx (by simp), pre_full fy (by simp)] at HI
        have HSw := hide (HS4.out.fr HI.out.2 (fun k h => by omega))
        obtain ⟨Ai, vs', x0c, x1c, x2c, hst⟩ := HSw.out.at (show 0 < 1 by omega)
        have HST := hide hst
        have HFT := hide (Gr.shard_fits El v 1 0 (by omega) (by omega) (fun e he => (OK2.out e he).2.1))
        simp only [Nat.zero_mul, Nat.add_zero, Nat.zero_add] at x0c x1c x2c
        have lx : ((List.range v).map fx).length = v := by simp
        have ly : ((List.range v).map fy).length = v := by simp
        have gy := hide (fun u (hu : u < v) => (show ((List.range v).map fy).getD u 0 = fy u by simp [List.getD, hu]))
        obtain ⟨F, hF⟩ : ∃ F, Gr.shardT El v 1 0 = F := ⟨_, rfl⟩
        generalize (List.range v).map fx = X at *
        generalize (List.range v).map fy = Y at *
        have hcut := Gr.cut_le (n := v) (s := 1) (k := 1) (by omega) (by omega)
        clear hst
        go_wp2_with fail
        go_at_call 22
        refine (rank.shard_ok HI.out.1.a (may_n hn1 (by omega) lx ly) (fun w' hf => HST.out _ w' hf (fun k h => by omega)) (by rw [lx]; exact HFT.out) 0 (by omega)).mono ?_
        rintro e w8 ⟨rfl, hT, hf⟩
        have H8 := hide (HI.out.1.stepA (show TwoAt w8 pa ga pb gb X (F.foldl (rank.step X) Y) by rw [← hF]; exact hT) (hf.mono (fun k h => .inr h)))
        have HF8 := hide (HI.out.2.trans hf (fun k h => .inl (by omega)))
        have HS8 := hide (HSw.out.fr hf (fun k h => by omega))
        obtain ⟨Aj, vs2, q0, q1, q2, hst2⟩ := HS8.out.at (show 0 < 1 by omega)
        have HST2 := hide hst2
        simp only [Nat.zero_mul, Nat.add_zero, Nat.zero_add] at q0 q1 q2
        have ly2 : (F.foldl (rank.step X) Y).length = v := by rw [foldl_len (rank.step_len X)]; exact ly
        clear hT hf hst2 x0c x1c x2c
        go_wp2_with fail
        go_at_call 22
        refine (rank.shard_ok H8.out.a (may_n hn1 (by omega) lx ly2) (fun w' hf => HST2.out _ w' hf (fun k h => by omega)) (by rw [lx]; exact HFT.out) 0 (by omega)).mono ?_
        rintro e w9 ⟨rfl, hT, hf⟩
        have H9 := hide (H8.out.stepA (show TwoAt w9 pa ga pb gb X (F.foldl (rank.step X) (F.foldl (rank.step X) Y)) by rw [← hF] at hT ⊢; exact hT) (hf.mono (fun k h => .inr h)))
        have HF9 := hide (HF8.out.trans hf (fun k h => .inl (by omega)))
        have HS9 := hide (HS8.out.fr hf (fun k h => by omega))
        obtain ⟨Ak, vs3, r0, r1, r2, hst3⟩ := HS9.out.at (show 0 < 1 by omega)
        have HST3 := hide hst3
        simp only [Nat.zero_mul, Nat.add_zero, Nat.zero_add] at r0 r1 r2
        clear hT hf hst3 q0 q1 q2
        go_wp2_with fail
        go_at_call 22
        refine (rank.shard_ok H9.out.c (may_n hn1 (by omega) lx (by simp)) (fun w' hf => HST3.out _ w' hf (fun k h => by omega)) (by rw [lx]; exact HFT.out) 0 (by omega)).mono ?_
        rintro e wa ⟨rfl, hT, hf⟩
        have HA := hide (H9.out.stepC (show TwoAt wa pc gc pd gd X (F.foldl (rank.step X) (List.replicate v 0)) by rw [← hF]; exact hT) (hf.mono (fun k h => .inr h)))
        have HFa := hide (HF9.out.trans hf (fun k h => .inl (by omega)))
        clear hT hf r0 r1 r2
        have hlb : (F.foldl (rank.step X) (F.foldl (rank.step X) Y)).length = v := by rw [foldl_len (rank.step_len X)]; exact ly2
        have hld : (F.foldl (rank.step X) (List.replicate v 0)).length = v := by rw [foldl_len (rank.step_len X)]; simp
        have HSUM := hide (fun u (hu : u < v) => (Gr.rank_twice X Y (List.replicate v 0) F (v := u) (by omega) (by simpa using hu) (by rw [gy.out u hu]; exact HFY.out u (by omega)) (by simp [List.getD, hu])))
        have HLT := hide (fun u (hu : u < v) => (show (F.foldl (rank.step X) (List.replicate v 0)).getD u 0 < 18446744073709551616 by
          rw [Gr.rank_fold X F _ (by simpa using hu) (by simp [List.getD, hu])]; exact Nat.mod_lt _ (by omega)))
        generalize F.foldl (rank.step X) (F.foldl (rank.step X) Y) = BB at *
        generalize F.foldl (rank.step X) (List.replicate v 0) = DD at *
        have BKa := hide (BK4.out.fr HFa.out (by omega))
        have y0 : wa.cell? ⟨w.heap.size + 1, 0, none⟩ = some (.slice A0 n0 d0) := (BKa.out.cell 0).trans rfl
        have y1 : wa.cell? ⟨w.heap.size + 1, 1, none⟩ = some (.slice A1' n1 d1) := (BKa.out.cell 1).trans rfl
        have HFwr := hide (HF4w.out.trans HFa.out (fun k h => .inr (by omega)))
        go_wp2_with fail
        go_loopw [15] (fun i wr => ∃ u : Nat, u ≤ v ∧ i = .int .i64 u ∧ wr = wa) (fun i _ => v - (intOf i).toNat)
        case atStart => exact ⟨0, by omega, rfl, rfl⟩
        case round =>
          obtain ⟨u, hu, rfl, rfl⟩ := hrel
          by_cases huv : u < v
          · have HGb := hide (get_in HA.out.a.b u (by omega))
            have HGd := hide (get_in HA.out.c.b u (by omega))
            have hs := HSUM.out u huv
            have hz := HLT.out u huv
            rw [gy.out u huv] at hs
            generalize BB.getD u 0 = p at *
            generalize DD.getD u 0 = z at *
            have ey : fy u = if u < n1 then x1.getD u 0 else 0 := by rw [← hfy, ← L1.out]; rfl
            have hfl := HFY.out u (by omega)
            have HY2 := hide ey
            have HS2 := hide hs
            clear ey hs
            go_wp2_with fail
            go_at_call 21
            refine HGb.out.mono ?_
            rintro e w1 ⟨rfl, rfl⟩
            go_wp2_with fail
            go_at_call 21
            refine HGd.out.mono ?_
            rintro e w1 ⟨rfl, rfl⟩
            by_cases hvb : u < n1
            · have ey := HY2.out
              rw [if_pos hvb] at ey
              obtain ⟨b2, o2, u2, rfl, _, hu3, hc2⟩ := (HR1.out.up HFwr.out).at_ hvb
              have hu4 : u2 = u64v (x1.getD u 0) := by
                rw [List.getElem?_map, List.getElem?_eq_getElem (by rw [L1.out]; exact hvb)] at hu3
                simpa [List.getD, show u < x1.length by rw [L1.out]; exact hvb] using (Option.some.inj hu3).symm
              subst hu4
              rw [← ey] at hc2
              unfold u64v at hc2
              have hne : ((p : Int) != IntKind.u64.wrap (IntKind.u64.wrap ((fy u : Int) + (z : Int)) + (z : Int))) = false := by
                have := HS2.out
                simp [IntKind.wrap, IntKind.bits, IntKind.signed]
                omega
              clear ey hu3
              generalize fy u = fu at *
              go_wp2
              go_roundw
              case rel => exact ⟨u + 1, by omega, by go_num, by first | rfl | trivial⟩
              case measure => simp [intOf]; omega
            · have ey := HY2.out
              rw [if_neg hvb] at ey
              have hne : ((p : Int) != IntKind.u64.wrap (IntKind.u64.wrap ((z : Int)) + (z : Int))) = false := by
                have := HS2.out
                rw [ey] at this
                simp [IntKind.wrap, IntKind.bits, IntKind.signed]
                omega
              have hne2 : ((p : Int) != IntKind.u64.wrap ((z : Int) + (z : Int))) = false := by
                have := HS2.out
                rw [ey] at this
                simp [IntKind.wrap, IntKind.bits, IntKind.signed]
                omega
              clear ey
              go_wp2
              go_roundw
              case rel => exact ⟨u + 1, by omega, by go_num, by first | rfl | trivial⟩
              case measure => simp [intOf]; omega
          · obtain rfl : u = v := by omega
            have HFin := hide HFwr.out
            go_wp2_with fail
            go_at_call 16
            refine (k18.ends_true _).mono ?_
            rintro e w8 ⟨rfl, hf⟩
            have HFF := hide (HFin.out.then_ hf)
            clear hf
            go_wp2
            go_ret
            exact ⟨rfl, HFF.out⟩
end Go.Proofs.Ytjdbjahgimlhbaa.twice
