/- CoresGone, walked. -/
import Derived.Test.YtjdbjahgimlhbaaGrCores
import Derived.Test.YtjdbjahgimlhbaaReadIn
import Derived.Test.YtjdbjahgimlhbaaEdMade
import Derived.Test.YtjdbjahgimlhbaaEnds20
set_option linter.unusedVariables false
set_option maxRecDepth 100000
namespace Go.Proofs.Ytjdbjahgimlhbaa.gone
open Go.RowKit
open Gr (E T)

set_option maxHeartbeats 8000000 in
theorem walk (A : Option Addr) (G m c many k0 k1 : Nat) (l : List E) (w : World) (h : Reads w w.heap.size 2 A m (gcells l)) (hm : l.length = m) (hm63 : m ≤ 9223372036854775807) (hG : G < 256) (hl : ∀ e ∈ l, e.1 < 256 ∧ e.2 < 256) (hmany : many < 256) (hk0 : k0 < 256) (hk1 : k1 < 256) :
    Calls Try.prog 8 #[.agg #[.int .u8 (G : Int), .slice A m c], .int .u8 (many : Int), .agg #[.int .u8 (k0 : Int), .int .u8 (k1 : Int)]] w fun e w' => e = .returned (.bool true) ∧ Fr (fun _ => False) w w' := by
  have H := hide h
  have HM := hide hm
  have HL := hide hl
  clear h hm hl
  have F0 := hide (((Fr.refl (fun _ => False) w).alloc (.cells #[.int .u8 (G : Int), .slice A m c] 24)).alloc (.cells #[.int .u8 (k0 : Int), .int .u8 (k1 : Int)] 58))
  have BK : Hid (Blk ((w.alloc (.cells #[.int .u8 (G : Int), .slice A m c] 24)).alloc (.cells #[.int .u8 (k0 : Int), .int .u8 (k1 : Int)] 58)) (w.heap.size + 1) 58 #[.int .u8 (k0 : Int), .int .u8 (k1 : Int)]) := by
    have := Blk.new (w.alloc (.cells #[.int .u8 (G : Int), .slice A m c] 24)) 58 #[.int .u8 (k0 : Int), .int .u8 (k1 : Int)]
    unfold Hid
    simpa using this
  by_cases hbig : 300 < m
  · go_enter Try.func8, Try.ntmps8
    go_wp2_with fail
    go_at_call 37
    refine (k20.ends_true _).mono ?_
    rintro e w1 ⟨rfl, hf⟩
    have HF := hide (F0.out.then_ hf)
    clear hf
    go_wp2
    go_ret
    exact ⟨rfl, HF.out⟩
  · go_enter Try.func8, Try.ntmps8
    go_wp2_with fail
    go_at_call 17
    refine (made_any A m c G l _ (H.out.up F0.out) HM.out (by omega) hG HL.out).mono ?_
    rintro e w1 ⟨A1, c1, rfl, hc1, hE, hf⟩
    have HF1 := hide (F0.out.then_ hf)
    have BK1 := hide (BK.out.fr hf (fun h => h))
    have HE := hide hE
    obtain ⟨ok1, ok2, ok3⟩ := madeE_ok G l
    have hn1 : 1 ≤ madeN G := by unfold madeN; omega
    have hn2 : madeN G ≤ 60 := by unfold madeN; omega
    rw [HM.out] at ok3
    clear hf hE
    generalize hNN : madeN G = n at *
    generalize hEE : madeE G l = El at *
    have OK1 := hide ok1
    have OK2 := hide ok2
    obtain ⟨q, hq⟩ : ∃ q, El.length = q := ⟨_, rfl⟩
    have HQ := hide hq
    rw [hq] at ok3 hc1
    rw [hq]
    clear ok1 ok2 hq BK
    go_wp2_with fail
    go_at_call 18
    refine (shards_any A1 n q c1 many El _ HE.out HQ.out (by omega) OK1.out hn1 hn2 hmany OK2.out).mono ?_
    rintro e w2 ⟨AS, cS, rfl, hS, hf⟩
    obtain ⟨hs1, hs2, hs3⟩ := shN_ok hn1 many
    generalize shN n many = s at *
    obtain ⟨b, o, rfl, hbK⟩ := hS.addr
    have HS := hide hS
    have HF2 := hide (HF1.out.then_ hf)
    have BK2 := hide (BK1.out.fr hf (fun h => h))
    have z0 : w2.cell? ⟨w.heap.size + 1, 0, none⟩ = some (.int .u8 (k0 : Int)) := (BK2.out.cell 0).trans rfl
    have z1 : w2.cell? ⟨w.heap.size + 1, 1, none⟩ = some (.int .u8 (k1 : Int)) := (BK2.out.cell 1).trans rfl
    have hs0 : ((s : Int) == 0) = false := by simp; omega
    obtain ⟨low, hlow, hlow2⟩ : ∃ low : Nat, min (k0 : Int) (k1 : Int) % 12 = (low : Int) ∧ low < 12 := ⟨min k0 k1 % 12, by omega, by omega⟩
    obtain ⟨high, hhigh, hle, hhigh2⟩ : ∃ high : Nat, max (low : Int) (max (k0 : Int) (k1 : Int) % 12) = (high : Int) ∧ low ≤ high ∧ high < 12 := ⟨max low (max k0 k1 % 12), by omega, by omega, by omega⟩
    clear hS hf
    go_wp2_with fail
    go_at_call 19
    refine (fresh_any n _ (by omega)).mono ?_
    rintro e w3 ⟨pa, ga, pb, gb, rfl, hga, hgb, hT, hf⟩
    have HT := hide hT
    have HF3 := hide hf
    have la := hT.a.row.lt
    have lb := hT.b.row.lt
    clear hT hf z0 z1
    go_wp2_with fail
    go_at_call 19
    refine (fresh_any n _ (by omega)).mono ?_
    rintro e w4 ⟨pc, gc, pd, gd, rfl, hgc, hgd, hT2, hf⟩
    have H4 := hide (show FourAt w4 pa ga pb gb pc gc pd gd (List.replicate n 0) (List.replicate n 0) (List.replicate n 0) (List.replicate n 0) from ⟨HT.out.still hf, hT2, by omega, by omega, by omega, by omega⟩)
    have HF4 := hide (HF3.out.then_ hf)
    have lc := hT2.a.row.lt
    have ld := hT2.b.row.lt
    have h43 := HF4.out.size
    clear hT2 hf HT HF3
    go_wp2_with fail
    go_at_call 38
    refine (cores.begin_ok H4.out.a (may_n hn1 (by omega) (by simp) (by simp)) (low : Int) (by unfold cores.okArg; simp; omega)).mono ?_
    rintro e w5 ⟨rfl, hT, hf⟩
    rw [List.length_replicate] at hT
    have H5 := hide (H4.out.stepA hT hf)
    have HF5 := hide ((HF4.out.mono (S' := fun k => k = ga ∨ k = gb ∨ k = gc ∨ k = gd) (fun k h => h.elim)).trans hf (fun k h => .inl (by omega)))
    clear hT hf
    go_wp2_with fail
    go_at_call 38
    refine (cores.begin_ok H5.out.c (may_n hn1 (by omega) (by simp) (by simp)) (high : Int) (by unfold cores.okArg; simp; omega)).mono ?_
    rintro e w6 ⟨rfl, hT, hf⟩
    rw [List.length_replicate] at hT
    have H6 := hide (H5.out.stepC hT hf)
    have HF6 := hide (HF5.out.trans hf (fun k h => .inl (by omega)))
    clear hT hf H4 H5 HF5 HF4
    go_wp2_with fail
    go_at_call 26
    refine (read_in H6.out.a.a).mono ?_
    rintro e w7 ⟨Aw, cw, rfl, hr, hf⟩
    have lbx : (cores.bX n).length = n := by simp [cores.bX]
    rw [lbx] at hr ⊢
    have h62 := HF6.out.size
    obtain ⟨F, hF⟩ : ∃ F, Gr.flat El = F := ⟨_, rfl⟩
    have hFl : F.length ≤ 4000 := by rw [← hF]; unfold Gr.flat; rw [List.length_map, HQ.out]; omega
    have la6 := H6.out.a.a.row.lt
    have lb6 := H6.out.a.b.row.lt
    have lc6 := H6.out.c.a.row.lt
    have ld6 := H6.out.c.b.row.lt
    have HI0 := hide (show FourAt w7 pa ga pb gb pc gc pd gd (Gr.crun low n F 0).1 (Gr.crun low n F 0).2 (Gr.crun high n F 0).1 (Gr.crun high n F 0).2 ∧ ReadsIn w7 w6.heap.size 1 Aw n ((Gr.crun low n F 0).1.map u64v) ∧ Fr (fun k => k = ga ∨ k = gb ∨ k = gc ∨ k = gd) w7 w7 from ⟨H6.out.still hf, hr, Fr.refl _ _⟩)
    have HS7 := hide ((HS.out.fr HF6.out (fun k h => by omega)).fr hf (fun k h => h.elim))
    have HF7 := hide (HF2.out.trans (HF6.out.then_ hf) (fun k h => .inr (by have := HF2.out.size; omega)))
    have h67 := hf.size
    clear hr hf H6 HS
    go_wp2_with fail
    go_loopw [16, 17] (fun v i wr => ∃ (r : Nat) (Aw : Option Addr) (cw : Nat), r ≤ 4 ∧ i = .int .i64 r ∧ v = .slice Aw n cw ∧ Hid (FourAt wr pa ga pb gb pc gc pd gd (Gr.crun low n F r).1 (Gr.crun low n F r).2 (Gr.crun high n F r).1 (Gr.crun high n F r).2 ∧ ReadsIn wr w6.heap.size 1 Aw n ((Gr.crun low n F r).1.map u64v) ∧ Fr (fun k => k = ga ∨ k = gb ∨ k = gc ∨ k = gd) w7 wr)) (fun _ i _ => 4 - (intOf i).toNat)
    case atStart => exact ⟨0, Aw, cw, by omega, rfl, rfl, HI0.out⟩
    case round =>
      obtain ⟨r, Aw, cw, hr4, rfl, rfl, HI⟩ := hrel
      by_cases hlt : r < 4
      · have HD := hide (fun v (hv : v < n) => And.intro (Gr.crun_down (low : Int) n F hFl r hv) (Gr.crun_less low high hle n F hFl (r + 1) v))
        have E1 := hide (show (Gr.crun (low : Int) n F (r + 1)).1 = cores.cXs (low : Int) (Gr.crun (low : Int) n F r).1 (F.foldl (cores.step (Gr.crun (low : Int) n F r).1) (Gr.crun (low : Int) n F r).2) from rfl)
        have E2 := hide (show (Gr.crun (low : Int) n F (r + 1)).2 = cores.cYs (low : Int) (Gr.crun (low : Int) n F r).1 (F.foldl (cores.step (Gr.crun (low : Int) n F r).1) (Gr.crun (low : Int) n F r).2) from rfl)
        have E3 := hide (show (Gr.crun (high : Int) n F (r + 1)).1 = cores.cXs (high : Int) (Gr.crun (high : Int) n F r).1 (F.foldl (cores.step (Gr.crun (high : Int) n F r).1) (Gr.crun (high : Int) n F r).2) from rfl)
        have E4 := hide (show (Gr.crun (high : Int) n F (r + 1)).2 = cores.cYs (high : Int) (Gr.crun (high : Int) n F r).1 (F.foldl (cores.step (Gr.crun (high : Int) n F r).1) (Gr.crun (high : Int) n F r).2) from rfl)
        obtain ⟨lx, ly⟩ := Gr.crun_len (low : Int) n F r
        obtain ⟨lu, lv⟩ := Gr.crun_len (high : Int) n F r
        have HN1 := hide (Gr.crun_len (low : Int) n F (r + 1)).1
        have HN2 := hide (Gr.crun_len (high : Int) n F (r + 1)).1
        generalize hnow : (Gr.crun (low : Int) n F (r + 1)).1 = now at *
        generalize hoth : (Gr.crun (high : Int) n F (r + 1)).1 = other at *
        have HNW := hide hnow
        have HOT := hide hoth
        clear hnow hoth
        generalize (Gr.crun (low : Int) n F r).1 = xs at *
        generalize (Gr.crun (low : Int) n F r).2 = ys at *
        generalize (Gr.crun (high : Int) n F r).1 = us at *
        generalize (Gr.crun (high : Int) n F r).2 = vs at *
        generalize hwo : wr = wo at *
        have hd4 : decide ((r : Int) < 4) = true := by simp; omega
        go_wp2_with fail
        try simp only [hd4]
        go_loopw [18] (fun i wr => ∃ j : Nat, j ≤ s ∧ i = .int .i64 j ∧ Hid (FourAt wr pa ga pb gb pc gc pd gd xs (accL (cores.step xs) El n s ys (List.range j)) us (accL (cores.step us) El n s vs (List.range j)) ∧ Fr (fun k => k = ga ∨ k = gb ∨ k = gc ∨ k = gd) wo wr)) (fun i _ => s - (intOf i).toNat)
        case atStart => exact ⟨0, by omega, rfl, HI.out.1, Fr.refl _ _⟩
        case round =>
          obtain ⟨j, hj, rfl, HJ⟩ := hrel
          by_cases hjs : j < s
          · have HSr := hide (HS7.out.fr (HI.out.2.2.trans HJ.out.2 (fun k h => .inl h)) (fun k h => by omega))
            obtain ⟨Ai, vs', x0, x1, x2, hst⟩ := HSr.out.at hjs
            have HST := hide hst
            have HFT := hide (Gr.shard_fits El n s j (by omega) hjs (fun e he => (OK2.out e he).2.1))
            have lA : (accL (cores.step xs) El n s ys (List.range j)).length = n := by rw [accL_len _ (cores.step_len xs)]; exact ly
            have lC : (accL (cores.step us) El n s vs (List.range j)).length = n := by rw [accL_len _ (cores.step_len us)]; exact lv
            have hcut := Gr.cut_le (n := n) (s := s) (k := j + 1) (by omega) (by omega)
            have y0 := x0
            have y1 := x1
            have y2 := x2
            clear hst
            go_wp2_with fail
            go_at_call 39
            refine (cores.shard_ok HJ.out.1.a (may_n hn1 (by omega) lx lA) (fun w' hf => HST.out _ w' hf (fun k h => by omega)) (by rw [lx]; exact HFT.out) (r : Int) (by omega)).mono ?_
            rintro e w8 ⟨rfl, hT, hf⟩
            have H8 := hide (HJ.out.1.stepA hT (hf.mono (fun k h => .inr h)))
            have HF8 := hide (HJ.out.2.trans hf (fun k h => .inl (by omega)))
            have HSr8 := hide (HSr.out.fr hf (fun k h => by omega))
            obtain ⟨Aj, vs2, q0, q1, q2, hst2⟩ := HSr8.out.at hjs
            have HST2 := hide hst2
            clear hT hf hst2 x0 x1 x2 y0 y1 y2
            go_wp2_with fail
            go_at_call 39
            refine (cores.shard_ok H8.out.c (may_n hn1 (by omega) lu lC) (fun w' hf => HST2.out _ w' hf (fun k h => by omega)) (by rw [lu]; exact HFT.out) (r : Int) (by omega)).mono ?_
            rintro e w9 ⟨rfl, hT, hf⟩
            have H9 := hide (show FourAt w9 pa ga pb gb pc gc pd gd xs (accL (cores.step xs) El n s ys (List.range (j + 1))) us (accL (cores.step us) El n s vs (List.range (j + 1))) from by
              rw [accL_range, accL_range]
              exact H8.out.stepC hT (hf.mono (fun k h => .inr h)))
            have HF9 := hide (HF8.out.trans hf (fun k h => .inl (by omega)))
            clear hT hf q0 q1 q2
            go_wp2
            try simp only [hd4]
            go_roundw
            case rel =>
              exact ⟨j + 1, by omega, by go_num, H9.out, HF9.out⟩
            case measure => simp [intOf]; omega
          · obtain rfl : j = s := by omega
            have hAl := accL_all (cores.step xs) (Gr.cores_comm xs) El n j (by omega) (fun e he => (OK2.out e he).1) ys (List.range j) (List.Perm.refl _)
            have hCl := accL_all (cores.step us) (Gr.cores_comm us) El n j (by omega) (fun e he => (OK2.out e he).1) vs (List.range j) (List.Perm.refl _)
            rw [hF] at hAl hCl
            have HJ4 := HJ.out.1
            rw [hAl, hCl] at HJ4
            have HK := hide HJ4
            have HKF := hide (HI.out.2.2.trans HJ.out.2 (fun k h => .inl h))
            have HRW := hide (HI.out.2.1.fr HJ.out.2 (fun k h => by omega))
            have lA : (F.foldl (cores.step xs) ys).length = n := by rw [foldl_len (cores.step_len xs)]; exact ly
            have lC : (F.foldl (cores.step us) vs).length = n := by rw [foldl_len (cores.step_len us)]; exact lv
            clear hAl hCl HJ4 HJ HI
            go_wp2_with fail
            go_at_call 40
            refine (cores.commit_ok HK.out.a (may_n hn1 (by omega) lx lA) (low : Int) (r : Int) (by omega)).mono ?_
            rintro e w8 ⟨rfl, hT, hf⟩
            rw [← E1.out, ← E2.out] at hT
            have H8 := hide (HK.out.stepA hT hf)
            have HF8 := hide (HKF.out.trans hf (fun k h => .inl (by omega)))
            have HR8 := hide (HRW.out.fr hf (fun k h => by omega))
            clear hT hf HK HKF HRW
            generalize cores.cDone (low : Int) xs (F.foldl (cores.step xs) ys) = d1
            go_wp2_with fail
            go_at_call 40
            refine (cores.commit_ok H8.out.c (may_n hn1 (by omega) lu lC) (high : Int) (r : Int) (by omega)).mono ?_
            rintro e w9 ⟨rfl, hT, hf⟩
            rw [← E3.out, ← E4.out] at hT
            have H9 := hide (H8.out.stepC hT hf)
            have HF9 := hide (HF8.out.trans hf (fun k h => .inl (by omega)))
            have HR9 := hide (HR8.out.fr hf (fun k h => by omega))
            clear hT hf H8 HF8 HR8
            generalize cores.cDone (high : Int) us (F.foldl (cores.step us) vs) = d2
            go_wp2_with fail
            go_at_call 26
            refine (read_in H9.out.a.a).mono ?_
            rintro e wx ⟨Ax, cx, rfl, hr, hf⟩
            rw [HN1.out] at hr ⊢
            have H10 := hide (H9.out.still hf)
            have HF10 := hide (HF9.out.then_ hf)
            have HR10 := hide (HR9.out.fr hf (fun k h => h.elim))
            have HX := hide (hr.less (lo' := w6.heap.size) (by have := HF9.out.size; omega))
            clear hr hf H9 HF9 HR9
            go_wp2_with fail
            go_at_call 26
            refine (read_in H10.out.c.a).mono ?_
            rintro e wy ⟨Ay, cy, rfl, hr, hf⟩
            rw [HN2.out] at hr ⊢
            have H11 := hide (H10.out.still hf)
            have HF11 := hide (HF10.out.then_ hf)
            have HR11 := hide (HR10.out.fr hf (fun k h => h.elim))
            have HX11 := hide (HX.out.fr hf (fun k h => h.elim))
            have HY := hide hr
            clear hr hf H10 HF10 HR10 HX
            have hnn : ((n : Int) != (n : Int)) = false := by simp
            go_wp2_with fail
            go_loopw [25] (fun i wr => ∃ v k : Nat, v ≤ n ∧ i = .int .i64 v ∧ wr = wy.drewN k) (fun i _ => n - (intOf i).toNat)
            case atStart => exact ⟨0, 0, by omega, rfl, rfl⟩
            case round =>
              obtain ⟨v, k, hv, rfl, rfl⟩ := hrel
              by_cases hvn : v < n
              · obtain ⟨e1, o1, rfl, c1⟩ := (HX11.out.fr ((Fr.refl (fun _ => False) wy).drewN k) (fun k h => h.elim)).cell hvn
                obtain ⟨e2, o2, rfl, c2⟩ := (HR11.out.fr ((Fr.refl (fun _ => False) wy).drewN k) (fun k h => h.elim)).cell hvn
                obtain ⟨e3, o3, rfl, c3⟩ := (HY.out.fr ((Fr.refl (fun _ => False) wy).drewN k) (fun k h => h.elim)).cell hvn
                obtain ⟨d3, d4⟩ := HD.out v hvn
                generalize xs.getD v 0 = p1 at *
                generalize now.getD v 0 = p2 at *
                generalize other.getD v 0 = p3 at *
                have g1 : decide (p1 < p2) = false := by simp; omega
                have g2 : decide (p2 < p3) = false := by simp; omega
                have bv0 : (0 : Int) ≤ (v : Int) := by omega
                have bv1 : (v : Int) < (n : Int) := by omega
                go_wp2_with fail
                refine wp_region_reads (fun W => W.cell? ⟨e1, o1 + v, none⟩ = some (.int .u64 (p2 : Int)) ∧ W.cell? ⟨e2, o2 + v, none⟩ = some (.int .u64 (p1 : Int)) ∧ W.cell? ⟨e3, o3 + v, none⟩ = some (.int .u64 (p3 : Int))) (by kernel_rfl) (by kernel_rfl) ⟨c1, c2, c3⟩ ?_
                iterate 20
                  refine readsY_cons ?_ ?_ (fun W hS => ?_) ?_
                  · rfl
                  rotate_left
                  · (obtain ⟨s1, s2, s3⟩ := hS; go_simp; try with_reducible rfl)
                  simp only [Act.put, List.setIfInBounds_toArray, List.set_cons_zero, List.set_cons_succ, g1, g2]
                simp only [wpReadsY]
                refine NoPanic.normal ?_
                go_wp2
                go_roundw
                case rel => exact ⟨v + 1, _, by omega, by go_num, rfl⟩
                case measure => simp [intOf]; omega
              · obtain rfl : v = n := by omega
                have HFin := hide (HF11.out.drewN k)
                go_wp2
                go_roundw
                case rel => exact ⟨r + 1, Ax, cx, by omega, by go_num, rfl, by rw [HNW.out, HOT.out]; exact ⟨H11.out.still ((Fr.refl _ _).drewN k), HX11.out.fr ((Fr.refl (fun _ => False) _).drewN k) (fun k h => h.elim), HFin.out⟩⟩
                case measure => simp [intOf]; omega
      · obtain rfl : r = 4 := by omega
        have HFin := hide (HF7.out.trans HI.out.2.2 (fun k h => .inr (by have := HF2.out.size; omega)))
        go_wp2_with fail
        go_at_call 37
        refine (k20.ends_true _).mono ?_
        rintro e w8 ⟨rfl, hf⟩
        have HFF := hide (HFin.out.then_ hf)
        clear hf
        go_wp2
        go_ret
        exact ⟨rfl, HFF.out⟩
end Go.Proofs.Ytjdbjahgimlhbaa.gone
