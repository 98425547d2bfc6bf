/- LabelsDown, walked. -/
import Derived.Test.YtjdbjahgimlhbaaFour
import Derived.Test.YtjdbjahgimlhbaaGrDown
import Derived.Test.YtjdbjahgimlhbaaReadIn
import Derived.Test.YtjdbjahgimlhbaaEdMade
import Derived.Test.YtjdbjahgimlhbaaEnds19
set_option linter.unusedVariables false
set_option maxRecDepth 100000
namespace Go.Proofs.Ytjdbjahgimlhbaa.down
open Go.RowKit
open Gr (E T)

set_option maxHeartbeats 4000000 in
theorem walk (A : Option Addr) (G m c many : Nat) (l : List E) (A0 : Option Addr) (n0 d0 : Nat) (x0 : List Nat) (w : World) (h : Reads w w.heap.size 2 A m (gcells l)) (hm : l.length = m) (hm63 : m ≤ 9223372036854775807) (hG : G < 256) (hl : ∀ e ∈ l, e.1 < 256 ∧ e.2 < 256) (hmany : many < 256)
    (hr0 : Reads w w.heap.size 1 A0 n0 (x0.map u64v)) (hx0 : ∀ x ∈ x0, x < 18446744073709551616) (h63a : n0 ≤ 9223372036854775807) :
    Calls Try.prog 5 #[.agg #[.int .u8 (G : Int), .slice A m c], .int .u8 (many : Int), .slice A0 n0 d0] w fun e w' => e = .returned (.bool true) ∧ Fr (fun _ => False) w w' := by
  have H := hide h
  have HM := hide hm
  have HL := hide hl
  have HR0 := hide hr0
  have HX0 := hide hx0
  have L0 := hide (show x0.length = n0 by have := hr0.1; simpa using this)
  clear h hm hl hr0 hx0
  have F0 := hide ((Fr.refl (fun _ => False) w).alloc (.cells #[.int .u8 (G : Int), .slice A m c] 24))
  have hcase : 300 < m ∨ (m ≤ 300 ∧ 256 < n0) ∨ (m ≤ 300 ∧ n0 ≤ 256) := by omega
  rcases hcase with hb | ⟨hb, hb2⟩ | ⟨hb, hb2⟩
  · go_enter Try.func5, Try.ntmps5
    go_wp2_with fail
    go_at_call 25
    refine (k19.ends_true _).mono ?_
    rintro e w1 ⟨rfl, hf⟩
    have HF := hide (F0.out.then_ hf)
    clear hf
    go_wp2
    go_ret
    exact ⟨rfl, HF.out⟩
  · go_enter Try.func5, Try.ntmps5
    go_wp2_with fail
    go_at_call 25
    refine (k19.ends_true _).mono ?_
    rintro e w1 ⟨rfl, hf⟩
    have HF := hide (F0.out.then_ hf)
    clear hf
    go_wp2
    go_ret
    exact ⟨rfl, HF.out⟩
  · go_enter Try.func5, Try.ntmps5
    go_wp2_with fail
    go_at_call 17
    refine (made_any A m c G l _ (H.out.up F0.out) HM.out (by omega) hG HL.out).mono ?_
    rintro e w1 ⟨A1, c1, rfl, hc1, hE, hf⟩
    have HF1 := hide (F0.out.then_ hf)
    have HE := hide hE
    obtain ⟨ok1, ok2, ok3⟩ := madeE_ok G l
    have hn1 : 1 ≤ madeN G := by unfold madeN; omega
    have hn2 : madeN G ≤ 60 := by unfold madeN; omega
    rw [HM.out] at ok3
    clear hf hE
    generalize hNN : madeN G = n at *
    generalize hEE : madeE G l = El at *
    have OK1 := hide ok1
    have OK2 := hide ok2
    obtain ⟨q, hq⟩ : ∃ q, El.length = q := ⟨_, rfl⟩
    have HQ := hide hq
    rw [hq] at ok3 hc1
    rw [hq]
    clear ok1 ok2 hq
    go_wp2_with fail
    go_at_call 18
    refine (shards_any A1 n q c1 many El _ HE.out HQ.out (by omega) OK1.out hn1 hn2 hmany OK2.out).mono ?_
    rintro e w2 ⟨AS, cS, rfl, hS, hf⟩
    obtain ⟨hs1, hs2, hs3⟩ := shN_ok hn1 many
    generalize shN n many = s at *
    obtain ⟨b, o, rfl, hbK⟩ := hS.addr
    have HS := hide hS
    have HF2 := hide (HF1.out.then_ hf)
    have hs0 : ((s : Int) == 0) = false := by simp; omega
    clear hS hf
    go_wp2_with fail
    go_at_call 19
    refine (fresh_any n _ (by omega)).mono ?_
    rintro e w3 ⟨pa, ga, pb, gb, rfl, hga, hgb, hT, hf⟩
    have HT := hide hT
    have HF3w := hide (HF2.out.then_ hf)
    have HS3 := hide (HS.out.fr hf (fun k h => h.elim))
    have la := hT.a.row.lt
    have lb := hT.b.row.lt
    have h24 := HF2.out.size
    clear hT hf
    obtain ⟨fx, hfx⟩ : ∃ f, Gr.orv x0 (fun v => v) = f := ⟨_, rfl⟩
    have HFX := hide (fun v (hv : v < 256) => (show fx v < 18446744073709551616 by rw [← hfx]; exact Gr.orv_lt HX0.out (fun v h => by omega) hv))
    go_wp2_with fail
    go_loopw [12] (fun i wr => ∃ v : Nat, v ≤ n ∧ i = .int .i64 v ∧ Hid (TwoAt wr pa ga pb gb (pre fx v (List.replicate n 0)) (pre fx v (List.replicate n 0)) ∧ Fr (fun k => k = ga ∨ k = gb) w3 wr)) (fun i _ => n - (intOf i).toNat)
    case atStart => exact ⟨0, by omega, rfl, by rw [pre_zero]; exact HT.out, Fr.refl _ _⟩
    case round =>
      obtain ⟨v, hv, rfl, HI⟩ := hrel
      by_cases hvn : v < n
      · have hv60 : v < 256 := by omega
        have HFwr := hide (HF3w.out.trans HI.out.2 (fun k h => .inr (by omega)))
        have lp1 : (pre fx v (List.replicate n 0)).length = n := by rw [pre_len fx (by simp; omega)]; simp
        have ex : fx v = if v < n0 then x0.getD v 0 else v := by rw [← hfx, ← L0.out]; rfl
        by_cases hva : v < n0
        · rw [if_pos hva] at ex
          obtain ⟨b1, o1, u1, rfl, _, hu1, hc1⟩ := (HR0.out.up HFwr.out).at_ hva
          have hu2 : u1 = u64v (x0.getD v 0) := by
            rw [List.getElem?_map, List.getElem?_eq_getElem (by rw [L0.out]; exact hva)] at hu1
            simpa [List.getD, show v < x0.length by rw [L0.out]; exact hva] using (Option.some.inj hu1).symm
          subst hu2
          rw [← ex] at hc1
          unfold u64v at hc1
          clear ex hu1

          go_wp2_with fail
          go_at_call 24
          refine (set_z HI.out.1.a v (fx v) _ rfl (by omega) (HFX.out v hv60)).mono ?_
          rintro e w8 ⟨rfl, hp, hf⟩
          rw [show (pre fx v (List.replicate n 0)).set v (fx v) = pre fx (v + 1) (List.replicate n 0) from pre_set fx (by simpa using hvn)] at hp
          have H8 := hide (HI.out.1.setA hp hf)
          have HF8 := hide (HI.out.2.trans hf (fun k h => .inl (by omega)))
          clear hp hf
          go_wp2_with fail
          go_at_call 24
          refine (set_z H8.out.b v (fx v) _ rfl (by omega) (HFX.out v hv60)).mono ?_
          rintro e w9 ⟨rfl, hp, hf⟩
          rw [show (pre fx v (List.replicate n 0)).set v (fx v) = pre fx (v + 1) (List.replicate n 0) from pre_set fx (by simpa using hvn)] at hp
          have H9 := hide (H8.out.setB hp hf)
          have HF9 := hide (HF8.out.trans hf (fun k h => .inl (by omega)))
          clear hp hf
          go_wp2
          go_roundw
          case rel => exact ⟨v + 1, by omega, by go_num, H9.out, HF9.out⟩
          case measure => simp [intOf]; omega
        · rw [if_neg hva] at ex
          have EX := hide ex
          clear ex

          go_wp2_with fail
          go_at_call 24
          refine (set_z HI.out.1.a v (fx v) _ (by rw [EX.out]) (by omega) (HFX.out v hv60)).mono ?_
          rintro e w8 ⟨rfl, hp, hf⟩
          rw [show (pre fx v (List.replicate n 0)).set v (fx v) = pre fx (v + 1) (List.replicate n 0) from pre_set fx (by simpa using hvn)] at hp
          have H8 := hide (HI.out.1.setA hp hf)
          have HF8 := hide (HI.out.2.trans hf (fun k h => .inl (by omega)))
          clear hp hf
          go_wp2_with fail
          go_at_call 24
          refine (set_z H8.out.b v (fx v) _ (by rw [EX.out]) (by omega) (HFX.out v hv60)).mono ?_
          rintro e w9 ⟨rfl, hp, hf⟩
          rw [show (pre fx v (List.replicate n 0)).set v (fx v) = pre fx (v + 1) (List.replicate n 0) from pre_set fx (by simpa using hvn)] at hp
          have H9 := hide (H8.out.setB hp hf)
          have HF9 := hide (HF8.out.trans hf (fun k h => .inl (by omega)))
          clear hp hf
          go_wp2
          go_roundw
          case rel => exact ⟨v + 1, by omega, by go_num, H9.out, HF9.out⟩
          case measure => simp [intOf]; omega
      · obtain rfl : v = n := by omega
        rw [pre_full fx (by simp)] at HI
        have lx0 : ((List.range v).map fx).length = v := by simp
        generalize (List.range v).map fx = X0 at *
        have HFw := hide (HF3w.out.trans HI.out.2 (fun k h => .inr (by omega)))
        have HSw := hide (HS3.out.fr HI.out.2 (fun k h => by omega))
        have hwsz := HI.out.2.size
        go_wp2_with fail
        go_at_call 26
        refine (read_in HI.out.1.a).mono ?_
        rintro e w5 ⟨Aw, cw, rfl, hr, hf⟩
        rw [lx0] at hr ⊢
        obtain ⟨lo, hlo⟩ : ∃ x, wr.heap.size = x := ⟨_, rfl⟩
        rw [hlo] at hr
        have la5 := HI.out.1.a.row.lt
        have lb5 := HI.out.1.b.row.lt
        have HT5 := hide (HI.out.1.still hf)
        have HR5 := hide hr
        have HF5 := hide (HFw.out.then_ hf)
        have HS5 := hide (HSw.out.fr hf (fun k h => h.elim))
        have h5 := hf.size
        clear hr hf
        go_wp2_with fail
        go_loopw [14, 15] (fun t i wr => ∃ (r : Nat) (Aw : Option Addr) (cw : Nat) (xs : List Nat), r ≤ 3 ∧ i = .int .i64 r ∧ t = .slice Aw v cw ∧ xs.length = v ∧ Hid (TwoAt wr pa ga pb gb xs xs ∧ ReadsIn wr lo 1 Aw v (xs.map u64v) ∧ Fr (fun k => k = ga ∨ k = gb) w5 wr)) (fun _ i _ => 3 - (intOf i).toNat)
        case atStart => exact ⟨0, Aw, cw, X0, by omega, rfl, rfl, lx0, HT5.out, HR5.out, Fr.refl _ _⟩
        case round =>
          obtain ⟨r, Aw, cw, xs, hr3, rfl, rfl, lx, HJ⟩ := hrel
          by_cases hlt : r < 3
          · generalize hwo : wr = wo at *
            have hd4 : decide ((r : Int) < 3) = true := by simp; omega
            have hd5 : decide (r < 3) = true := by simp; omega
            go_wp2_with fail
            try simp only [hd4, hd5]
            go_loopw [16] (fun i wr => ∃ j : Nat, j ≤ s ∧ i = .int .i64 j ∧ Hid (TwoAt wr pa ga pb gb xs (accL (labels.step xs) El v s xs (List.range j)) ∧ Fr (fun k => k = ga ∨ k = gb) wo wr)) (fun i _ => s - (intOf i).toNat)
            case atStart => exact ⟨0, by omega, rfl, HJ.out.1, Fr.refl _ _⟩
            case round =>
              obtain ⟨j, hj, rfl, HK⟩ := hrel
              by_cases hjs : j < s
              · have HSr := hide (HS5.out.fr (HJ.out.2.2.trans HK.out.2 (fun k h => .inl h)) (fun k h => by omega))
                obtain ⟨Ai, vs', q0, q1, q2, hst⟩ := HSr.out.at hjs
                have HST := hide hst
                have HFT := hide (Gr.shard_fits El v s j (by omega) hjs (fun e he => (OK2.out e he).2.1))
                have lA : (accL (labels.step xs) El v s xs (List.range j)).length = v := by rw [accL_len _ (labels.step_len xs)]; exact lx
                have hcut := Gr.cut_le (n := v) (s := s) (k := j + 1) (by omega) (by omega)
                clear hst
                go_wp2_with fail
                go_at_call 27
                refine (labels.shard_ok HK.out.1 (may_n hn1 (by omega) lx lA) (fun w' hf => HST.out _ w' hf (fun k h => by omega)) (by rw [lx]; exact HFT.out) (r : Int) (by omega)).mono ?_
                rintro e w8 ⟨rfl, hT, hf⟩
                have H8 := hide (show TwoAt w8 pa ga pb gb xs (accL (labels.step xs) El v s xs (List.range (j + 1))) by rw [accL_range]; exact hT)
                have HF8 := hide (HK.out.2.trans hf (fun k h => .inl (by omega)))
                clear hT hf q0 q1 q2
                go_wp2
                try simp only [hd4, hd5]
                go_roundw
                case rel => exact ⟨j + 1, by omega, by go_num, H8.out, HF8.out⟩
                case measure => simp [intOf]; omega
              · obtain rfl : j = s := by omega
                have hAl := accL_all (labels.step xs) (Gr.labels_comm xs) El v j (by omega) (fun e he => (OK2.out e he).1) xs (List.range j) (List.Perm.refl _)
                have lA : ((Gr.flat El).foldl (labels.step xs) xs).length = v := by rw [foldl_len (labels.step_len xs)]; exact lx
                have HAM := hide (Gr.among_fold (n := v) (Gr.flat El) xs lx (Gr.flat_in OK2.out) (Gr.among_refl v xs))
                have HK4 := HK.out.1
                rw [hAl] at HK4
                have HT6 := hide HK4
                have HKF := hide (HJ.out.2.2.trans HK.out.2 (fun k h => .inl h))
                have HRW := hide (HJ.out.2.1.fr HK.out.2 (fun k h => by omega))
                generalize (Gr.flat El).foldl (labels.step xs) xs = ac at *
                obtain ⟨c1', c2', c3'⟩ := Gr.down_next lx lA (fun v hv => (HAM.out v hv).1)
                clear hAl HK4 HK HJ
                go_wp2_with fail
                go_at_call 28
                refine (labels.commit_ok HT6.out (may_n hn1 (by omega) lx lA) 0 (r : Int)).mono ?_
                rintro e w8 ⟨rfl, hT, hf⟩
                rw [c1', c2'] at hT
                rw [c3']
                have HT8 := hide hT
                have HF8 := hide (HKF.out.trans hf (fun k h => .inl (by omega)))
                have HR8 := hide (HRW.out.fr hf (fun k h => by omega))
                clear hT hf HT6 HKF HRW c1' c2' c3'
                go_wp2_with fail
                go_at_call 26
                refine (read_in HT8.out.a).mono ?_
                rintro e w9 ⟨Ax, cx, rfl, hr, hf⟩
                rw [lA] at hr ⊢
                have HT9 := hide (HT8.out.still hf)
                have HF9 := hide (HF8.out.then_ hf)
                have HR9 := hide (HR8.out.fr hf (fun k h => h.elim))
                have HX9 := hide (hr.less (lo' := lo) (by have := HF8.out.size; omega))
                clear hr hf HT8 HF8 HR8
                have hnn : ((v : Int) != (v : Int)) = false := by simp
                generalize hdd : decide (ac = xs) = dd at *
                have hde : (dd != dd) = false := by simp
                go_wp2_with fail
                go_at_call 29
                refine (same_any Ax Aw v cx v cw _ ac xs _ HX9.out.reads HR9.out.reads (by omega)).mono ?_
                rintro e wa ⟨rfl, hf⟩
                rw [hdd]
                have HTa := hide (HT9.out.still hf)
                have HFa := hide (HF9.out.then_ hf)
                have HRa := hide (HR9.out.fr hf (fun k h => h.elim))
                have HXa := hide (HX9.out.fr hf (fun k h => h.elim))
                clear hf HT9 HF9 HR9 HX9 hdd
                obtain ⟨e1, o1, rfl, _⟩ := HXa.out.cell (show 0 < v by omega)
                obtain ⟨e2, o2, rfl, _⟩ := HRa.out.cell (show 0 < v by omega)
                have HCX := hide (fun u (hu : u < v) q => (show (wa.drewN q).cell? ⟨e1, o1 + u, none⟩ = some (.int .u64 ((ac.getD u 0 : Nat) : Int)) by
                  obtain ⟨e', o', he, hc⟩ := (HXa.out.fr ((Fr.refl (fun _ => False) wa).drewN q) (fun k h => h.elim)).cell hu
                  injection he with he
                  injection he with h1 h2
                  subst h1
                  subst h2
                  exact hc))
                have HCR := hide (fun u (hu : u < v) q => (show (wa.drewN q).cell? ⟨e2, o2 + u, none⟩ = some (.int .u64 ((xs.getD u 0 : Nat) : Int)) by
                  obtain ⟨e', o', he, hc⟩ := (HRa.out.fr ((Fr.refl (fun _ => False) wa).drewN q) (fun k h => h.elim)).cell hu
                  injection he with he
                  injection he with h1 h2
                  subst h1
                  subst h2
                  exact hc))
                go_wp2_with fail
                try simp only [hd4, hd5]
                go_loopw [20] (fun i wr => ∃ u k : Nat, u ≤ v ∧ i = .int .i64 u ∧ wr = wa.drewN k) (fun i _ => v - (intOf i).toNat)
                case atStart => exact ⟨0, 0, by omega, rfl, rfl⟩
                case round =>
                  obtain ⟨u, k, hu, rfl, rfl⟩ := hrel
                  by_cases huv : u < v
                  · obtain ⟨hle, t0, ht0, ht1⟩ := HAM.out u huv
                    have HCp := hide (HCX.out u huv)
                    have HCq := hide (HCR.out u huv)
                    generalize ac.getD u 0 = p at *
                    have hdu : decide ((u : Int) < (v : Int)) = true := by simp; omega
                    have hdu2 : decide (u < v) = true := by simp; omega
                    have bu0 : (0 : Int) ≤ (u : Int) := by omega
                    have bu1 : (u : Int) < (v : Int) := by omega
                    have HALL := hide (show ((List.range v).any fun z => decide (xs.getD z 0 = p)) = true by
                      rw [List.any_eq_true]
                      exact ⟨t0, List.mem_range.2 ht0, by simpa using ht1⟩)
                    clear ht1
                    go_wp2_with fail
                    try simp only [hdu, hdu2, hd4, hd5]
                    go_loopw [21, 22] (fun b i wr => ∃ t q : Nat, t ≤ v ∧ i = .int .i64 t ∧ b = .bool ((List.range t).any fun z => decide (xs.getD z 0 = p)) ∧ wr = wa.drewN q) (fun _ i _ => v - (intOf i).toNat)
                    case atStart => exact ⟨0, k, by omega, rfl, rfl, rfl⟩
                    case round =>
                      obtain ⟨t, q, ht, rfl, rfl, rfl⟩ := hrel
                      by_cases htv : t < v
                      · have c1 := HCp.out q
                        have c2 := HCR.out t htv q
                        have bt0 : (0 : Int) ≤ (t : Int) := by omega
                        have bt1 : (t : Int) < (v : Int) := by omega
                        have HNX := hide (show ((List.range (t + 1)).any fun z => decide (xs.getD z 0 = p)) = (((List.range t).any fun z => decide (xs.getD z 0 = p)) || decide (xs.getD t 0 = p)) by
                          rw [List.range_succ, List.any_append]; simp)
                        generalize ((List.range t).any fun z => decide (xs.getD z 0 = p)) = bb at *
                        generalize xs.getD t 0 = x at *
                        cases bb
                        · obtain ⟨dv, hdv⟩ : ∃ d, decide (x = p) = d := ⟨_, rfl⟩
                          have hb1 : ((x : Int) == (p : Int)) = dv := by rw [← hdv]; by_cases h : x = p <;> simp [h]; omega
                          have hb2 : (x == p) = dv := by rw [← hdv]; by_cases h : x = p <;> simp [h]
                          have hb3 : decide ((x : Int) = (p : Int)) = dv := by rw [← hdv]; by_cases h : x = p <;> simp [h]; omega
                          rw [hdv] at HNX
                          go_wp2_with fail
                          refine wp_region_reads (fun W => W.cell? ⟨e1, o1 + u, none⟩ = some (.int .u64 (p : Int)) ∧ W.cell? ⟨e2, o2 + t, none⟩ = some (.int .u64 (x : Int))) (by kernel_rfl) (by kernel_rfl) ⟨c1, c2⟩ ?_
                          iterate 13
                            refine readsY_cons ?_ ?_ (fun W hS => ?_) ?_
                            · rfl
                            rotate_left
                            · (obtain ⟨s1, s2⟩ := hS; go_simp; try with_reducible rfl)
                            simp only [Act.put, List.setIfInBounds_toArray, List.set_cons_zero, List.set_cons_succ, hb1, hb2, hb3, hdv]
                          simp only [wpReadsY]
                          refine NoPanic.normal ?_
                          clear hb1 hb2 hb3 hdv
                          go_wp2
                          try simp only [hdu, hdu2, hd4, hd5]
                          go_roundw
                          case rel => exact ⟨t + 1, q + 1, by omega, by go_num, by rw [HNX.out]; simp, rfl⟩
                          case measure => simp [intOf]; omega
                        · go_wp2_with fail
                          refine wp_region_reads (fun W => True) (by kernel_rfl) (by kernel_rfl) trivial ?_
                          iterate 2
                            refine readsY_cons ?_ ?_ (fun W hS => ?_) ?_
                            · rfl
                            rotate_left
                            · (go_simp; try with_reducible rfl)
                            simp only [Act.put, List.setIfInBounds_toArray, List.set_cons_zero, List.set_cons_succ]
                          iterate 9
                            refine readsY_skip ?_ ?_
                            · rfl
                            simp only [Act.put, List.setIfInBounds_toArray, List.set_cons_zero, List.set_cons_succ]
                          iterate 2
                            refine readsY_cons ?_ ?_ (fun W hS => ?_) ?_
                            · rfl
                            rotate_left
                            · (go_simp; try with_reducible rfl)
                            simp only [Act.put, List.setIfInBounds_toArray, List.set_cons_zero, List.set_cons_succ]
                          simp only [wpReadsY]
                          refine NoPanic.normal ?_
                          go_wp2
                          try simp only [hdu, hdu2, hd4, hd5]
                          go_roundw
                          case rel => exact ⟨t + 1, q + 1, by omega, by go_num, by rw [HNX.out]; simp, rfl⟩
                          case measure => simp [intOf]; omega
                      · obtain rfl : t = v := by omega
                        rw [HALL.out]
                        have c1 := HCp.out q
                        have c2 := HCq.out q
                        generalize xs.getD u 0 = x at *
                        have hg1 : decide (x < p) = false := by simp; omega
                        have hg2 : decide ((x : Int) < (p : Int)) = false := by simp; omega
                        go_wp2_with fail
                        refine wp_region_reads (fun W => W.cell? ⟨e1, o1 + u, none⟩ = some (.int .u64 (p : Int)) ∧ W.cell? ⟨e2, o2 + u, none⟩ = some (.int .u64 (x : Int))) (by kernel_rfl) (by kernel_rfl) ⟨c1, c2⟩ ?_
                        iterate 13
                          refine readsY_cons ?_ ?_ (fun W hS => ?_) ?_
                          · rfl
                          rotate_left
                          · (obtain ⟨s1, s2⟩ := hS; go_simp; try with_reducible rfl)
                          simp only [Act.put, List.setIfInBounds_toArray, List.set_cons_zero, List.set_cons_succ, hg1, hg2]
                        simp only [wpReadsY]
                        refine NoPanic.normal ?_
                        go_wp2
                        try simp only [hd4, hd5]
                        go_roundw
                        case rel => exact ⟨u + 1, q + 1, by omega, by go_num, rfl⟩
                        case measure => simp [intOf]; omega
                  · obtain rfl : u = v := by omega
                    have HFin := hide (HFa.out.drewN k)
                    go_wp2
                    go_roundw
                    case rel => exact ⟨r + 1, _, cx, ac, by omega, by go_num, rfl, lA, HTa.out.still ((Fr.refl _ _).drewN k), HXa.out.fr ((Fr.refl (fun _ => False) _).drewN k) (fun k h => h.elim), HFin.out⟩
                    case measure => simp [intOf]; omega
          · obtain rfl : r = 3 := by omega
            have HFin := hide (HF5.out.trans HJ.out.2.2 (fun k h => .inr (by omega)))
            have hsp : decide ((0 : Int) < (s : Int)) = true := by simp; omega
            have hsp2 : decide (0 < s) = true := by simp; omega
            go_wp2_with fail
            go_at_call 25
            refine (k19.ends_true _).mono ?_
            rintro e w8 ⟨rfl, hf⟩
            have HFF := hide (HFin.out.then_ hf)
            clear hf
            go_wp2
            go_ret
            exact ⟨rfl, HFF.out⟩
end Go.Proofs.Ytjdbjahgimlhbaa.down
