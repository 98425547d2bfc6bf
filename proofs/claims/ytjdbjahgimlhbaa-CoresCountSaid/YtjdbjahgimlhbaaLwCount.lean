/- CoresCount, walked. -/
import Derived.Test.YtjdbjahgimlhbaaGrCount
import Derived.Test.YtjdbjahgimlhbaaEdMade
import Derived.Test.YtjdbjahgimlhbaaEnds20
set_option linter.unusedVariables false
set_option maxRecDepth 100000
namespace Go.Proofs.Ytjdbjahgimlhbaa.count
open Go.RowKit
open Gr (E T)

theorem bool_info : (Try.prog.info? 4).map (fun i => (i.zero, i.size, i.bytes)) = some (some (.bool false), 1, 1) := by kernel_rfl
set_option maxHeartbeats 4000000 in
theorem walk (A : Option Addr) (G m c many : Nat) (l : List E) (AT : Option Addr) (nT dT : Nat) (th : List Bool) (w : World) (h : Reads w w.heap.size 2 A m (gcells l)) (hm : l.length = m) (hm63 : m ≤ 9223372036854775807) (hG : G < 256) (hl : ∀ e ∈ l, e.1 < 256 ∧ e.2 < 256) (hmany : many < 256)
    (hth : Reads w w.heap.size 1 AT nT (th.map Value.bool)) (h63a : nT ≤ 9223372036854775807) :
    Calls Try.prog 9 #[.agg #[.int .u8 (G : Int), .slice A m c], .int .u8 (many : Int), .slice AT nT dT] w fun e w' => e = .returned (.bool true) ∧ Fr (fun _ => False) w w' := by
  have H := hide h
  have HM := hide hm
  have HL := hide hl
  have HTh := hide hth
  have LT := hide (show th.length = nT by have := hth.1; simpa using this)
  clear h hm hl hth
  have F0 := hide ((Fr.refl (fun _ => False) w).alloc (.cells #[.int .u8 (G : Int), .slice A m c] 24))
  have hcase : 300 < m ∨ (m ≤ 300 ∧ 256 < nT) ∨ (m ≤ 300 ∧ nT ≤ 256) := by omega
  rcases hcase with hb | ⟨hb, hb2⟩ | ⟨hb, hb2⟩
  · go_enter Try.func9, Try.ntmps9
    go_wp2_with fail
    go_at_call 37
    refine (k20.ends_true _).mono ?_
    rintro e w1 ⟨rfl, hf⟩
    have HF := hide (F0.out.then_ hf)
    clear hf
    go_wp2
    go_ret
    exact ⟨rfl, HF.out⟩
  · go_enter Try.func9, Try.ntmps9
    go_wp2_with fail
    go_at_call 37
    refine (k20.ends_true _).mono ?_
    rintro e w1 ⟨rfl, hf⟩
    have HF := hide (F0.out.then_ hf)
    clear hf
    go_wp2
    go_ret
    exact ⟨rfl, HF.out⟩
  · go_enter Try.func9, Try.ntmps9
    go_wp2_with fail
    go_at_call 17
    refine (made_any A m c G l _ (H.out.up F0.out) HM.out (by omega) hG HL.out).mono ?_
    rintro e w1 ⟨A1, c1, rfl, hc1, hE, hf⟩
    have HF1 := hide (F0.out.then_ hf)
    have HE := hide hE
    obtain ⟨ok1, ok2, ok3⟩ := madeE_ok G l
    have hn1 : 1 ≤ madeN G := by unfold madeN; omega
    have hn2 : madeN G ≤ 60 := by unfold madeN; omega
    rw [HM.out] at ok3
    clear hf hE
    generalize hNN : madeN G = n at *
    generalize hEE : madeE G l = El at *
    have OK1 := hide ok1
    have OK2 := hide ok2
    obtain ⟨q, hq⟩ : ∃ q, El.length = q := ⟨_, rfl⟩
    have HQ := hide hq
    rw [hq] at ok3 hc1
    rw [hq]
    clear ok1 ok2 hq
    go_wp2_with fail
    go_at_call 18
    refine (shards_any A1 n q c1 many El _ HE.out HQ.out (by omega) OK1.out hn1 hn2 hmany OK2.out).mono ?_
    rintro e w2 ⟨AS, cS, rfl, hS, hf⟩
    obtain ⟨hs1, hs2, hs3⟩ := shN_ok hn1 many
    generalize shN n many = s at *
    obtain ⟨b, o, rfl, hbK⟩ := hS.addr
    have HS := hide hS
    have HF2 := hide (HF1.out.then_ hf)
    have HE2 := hide (HE.out.up hf)
    have hs0 : ((s : Int) == 0) = false := by simp; omega
    clear hS hf
    go_wp2_with fail
    go_at_call 19
    refine (fresh_any n _ (by omega)).mono ?_
    rintro e w3 ⟨pa, ga, pb, gb, rfl, hga, hgb, hT, hf⟩
    have HT3 := hide hT
    have HF3 := hide hf
    clear hT hf
    go_wp2_with fail
    go_at_call 38
    refine (cores.begin_ok HT3.out (may_n hn1 (by omega) (by simp) (by simp)) 1 (by simp [cores.okArg])).mono ?_
    rintro e w4 ⟨rfl, hT, hf⟩
    rw [List.length_replicate] at hT
    have HT4 := hide hT
    have la := hT.a.row.lt
    have lb := hT.b.row.lt
    have h24 := HF2.out.size
    have h33 := HF3.out.size
    have HS4 := hide ((HS.out.fr HF3.out (fun k h => h.elim)).fr hf (fun k h => by omega))
    have HF4 := hide ((HF2.out.then_ HF3.out).trans hf (fun k h => .inr (by omega)))
    have HG4 := hide ((HF3.out.mono (S' := fun k => w2.heap.size ≤ k) (fun k h => h.elim)).trans hf (fun k h => .inl (show w2.heap.size ≤ k by omega)))
    clear hT hf HT3
    have BO := hide (Blk.new w4 4 (Array.replicate n (Value.bool false)))
    have FO := hide ((Fr.refl (fun _ => False) w4).alloc (.cells (Array.replicate n (Value.bool false)) 4))
    have SO := hide (show (w4.alloc (.cells (Array.replicate n (Value.bool false)) 4)).heap.size = w4.heap.size + 1 by simp)
    have hmk : (Instr.makeSlice 73 (.int .i64 (n : Int)) (.int .i64 (n : Int))).run Try.prog w4 = .ok (.slice (some ⟨w4.heap.size, 0, none⟩) n n) (w4.alloc (.cells (Array.replicate n (Value.bool false)) 4)) := by
      obtain ⟨ib, jb, jb0, jb1, jb2⟩ := info_parts bool_info
      have := run_make_rowN (P := Try.prog) 73 4 ib _ rfl jb jb0 .i64 .i64 n n (Nat.le_refl _) (by rw [jb2]; omega) (by omega) w4
      rw [jb1, show (Value.bool false).cells = #[.bool false] from rfl, madeCells_one, Nat.mul_one] at this
      rw [this]
      simp
    have hsz0 : (Array.replicate n (Value.bool false)).size = n := by simp
    generalize Array.replicate n (Value.bool false) = cs0 at *
    have HT5 := hide (HT4.out.still FO.out)
    have HG5 := hide (HG4.out.then_ FO.out)
    have HS5 := hide (HS4.out.fr FO.out (fun k h => h.elim))
    have HF5 := hide (HF4.out.then_ FO.out)
    obtain ⟨g, hg⟩ : ∃ x, w4.heap.size = x := ⟨_, rfl⟩
    rw [hg] at BO SO hmk
    clear HT4 HS4 HF4
    go_wp2_with fail
    generalize w4.alloc (.cells cs0 4) = w5 at *
    go_loopw [13] (fun i wr => ∃ v : Nat, v ≤ n ∧ i = .int .i64 v ∧ Hid ((∃ cs, Blk wr g 4 cs ∧ cs.size = n ∧ ∀ j, j < v → cs[j]? = some (.bool (Gr.onB th j))) ∧ TwoAt wr pa ga pb gb (Gr.aK th n v) (cores.bY n) ∧ Fr (fun k => k = ga ∨ k = gb ∨ k = g) w5 wr)) (fun i _ => n - (intOf i).toNat)
    case atStart => exact ⟨0, by omega, rfl, ⟨cs0, BO.out, hsz0, fun j h => absurd h (by omega)⟩, by rw [Gr.aK_zero]; exact HT5.out, Fr.refl _ _⟩
    case round =>
      obtain ⟨v, hv, rfl, HI⟩ := hrel
      by_cases hvn : v < n
      · obtain ⟨⟨cs, hb, hcs, hc⟩, _, _⟩ := HI.out
        obtain ⟨v0, c0⟩ : ∃ x, wr.cell? ⟨g, v, none⟩ = some x := by rw [hb.cell]; exact ⟨cs[v]'(by omega), Array.getElem?_eq_getElem (by omega)⟩
        have f0 := hb.frozen v
        have hgl := hb.lt
        have HB := hide (hb.set_ v (.bool (Gr.onB th v)))
        have HC := hide (show ∀ j, j < v + 1 → (cs.setIfInBounds v (.bool (Gr.onB th v)))[j]? = some (.bool (Gr.onB th j)) from fun j hj => by
          by_cases hjv : j = v
          · subst hjv; simp [hcs, hvn]
          · rw [Array.getElem?_setIfInBounds_ne (Ne.symm hjv)]; exact hc j (by omega))
        have hga : ga ≠ g := by omega
        have FS := (Fr.one wr g v (.bool (Gr.onB th v)))
        have HT6 := hide (HI.out.2.1.fr FS (fun e => (HI.out.2.1.a.head.ne_ hb (by decide)) e) (by omega) (fun e => (HI.out.2.1.b.head.ne_ hb (by decide)) e) (by omega))
        have HF6 := hide (HI.out.2.2.trans FS (fun k h => .inl (by omega)))
        have hof : Gr.onB th v = if v < nT then th.getD v true else true := by unfold Gr.onB; rw [LT.out]
        clear hb hc FS
        by_cases hvT : v < nT
        · rw [if_pos hvT] at hof
          have hlt1 : decide ((nT : Int) ≤ (v : Int)) = false := by simp; omega
          have hlt2 : decide (nT ≤ v) = false := by simp; omega
          obtain ⟨b1, o1, u1, rfl, _, hu1, hc1⟩ := (HTh.out.up (HF5.out.trans HI.out.2.2 (fun k h => .inr (by omega)))).at_ hvT
          have hu2 : u1 = .bool (Gr.onB th v) := by
            rw [List.getElem?_map, List.getElem?_eq_getElem (by rw [LT.out]; exact hvT)] at hu1
            rw [hof]
            simpa [List.getD, show v < th.length by rw [LT.out]; exact hvT] using (Option.some.inj hu1).symm
          subst hu2
          clear hof hu1
          cases hon : Gr.onB th v
          · rw [hon] at HB HC HT6 HF6 hc1
            have HA := hide (Gr.aK_off hvn hon)
            have hla : v < (Gr.aK th n v).length := by rw [Gr.aK_len]; exact hvn
            go_wp2_with fail
            go_at_call 24
            refine (set_z HT6.out.a v 0 0 rfl hla (by omega)).mono ?_
            rintro e w8 ⟨rfl, hp, hf⟩
            have HT8 := hide (show TwoAt w8 pa ga pb gb (Gr.aK th n (v + 1)) (cores.bY n) by rw [HA.out]; exact HT6.out.setA hp hf)
            have HB8 := hide (HB.out.fr hf (by omega))
            have HF8 := hide (HF6.out.trans hf (fun k h => .inl (by omega)))
            clear hp hf
            go_wp2
            go_roundw
            case rel => exact ⟨v + 1, by omega, by go_num, ⟨_, HB8.out, by simp [hcs], HC.out⟩, HT8.out, HF8.out⟩
            case measure => simp [intOf]; omega
          · rw [hon] at HB HC HT6 HF6 hc1
            have HA := hide (Gr.aK_on n hon)
            go_wp2
            go_roundw
            case rel => exact ⟨v + 1, by omega, by go_num, ⟨_, HB.out, by simp [hcs], HC.out⟩, by rw [HA.out]; exact HT6.out, HF6.out⟩
            case measure => simp [intOf]; omega
        · rw [if_neg hvT] at hof
          have hge : decide ((nT : Int) ≤ (v : Int)) = true := by simp; omega
          have hge2 : decide (nT ≤ v) = true := by simp; omega
          rw [hof] at HB HC HT6 HF6
          have HOF := hide hof
          clear hof
          have HA := hide (Gr.aK_on n HOF.out)
          go_wp2
          go_roundw
          case rel => exact ⟨v + 1, by omega, by go_num, ⟨_, HB.out, by simp [hcs], HC.out⟩, by rw [HA.out]; exact HT6.out, HF6.out⟩
          case measure => simp [intOf]; omega
      · obtain rfl : v = n := by omega
        obtain ⟨cs, hb, hcs, hc⟩ := HI.out.1
        have HBO := hide hb
        have HCO := hide hc
        have HTw := hide HI.out.2.1
        have HGw := hide ((HG5.out.trans HI.out.2.2 (fun k h => .inl (show w2.heap.size ≤ k by omega))))
        have HSw := hide (HS5.out.fr HI.out.2.2 (fun k h => by omega))
        have HFw := hide (HF5.out.trans HI.out.2.2 (fun k h => .inr (by omega)))
        have HBT := hide (fun u x (hu : u < v) (hx : x < v) => Gr.aK_both (th := th) hu hx)
        have lX : (Gr.aK th v v).length = v := Gr.aK_len _ _ _
        have lY : (cores.bY v).length = v := by simp [cores.bY]
        have hgl := hb.lt
        generalize Gr.aK th v v = X at *
        generalize hwo : wr = wo at *
        clear HI hb hc
        go_wp2_with fail
        go_loopw [14] (fun i wr => ∃ j : Nat, j ≤ s ∧ i = .int .i64 j ∧ Hid (TwoAt wr pa ga pb gb X (accL (cores.step X) El v s (cores.bY v) (List.range j)) ∧ Fr (fun k => k = gb) wo wr)) (fun i _ => s - (intOf i).toNat)
        case atStart => exact ⟨0, by omega, rfl, HTw.out, Fr.refl _ _⟩
        case round =>
          obtain ⟨j, hj, rfl, HK⟩ := hrel
          by_cases hjs : j < s
          · have HSr := hide (HSw.out.fr HK.out.2 (fun k h => by omega))
            obtain ⟨Ai, vs', q0, q1, q2, hst⟩ := HSr.out.at hjs
            have HST := hide hst
            have HFT := hide (Gr.shard_fits El v s j (by omega) hjs (fun e he => (OK2.out e he).2.1))
            have lA : (accL (cores.step X) El v s (cores.bY v) (List.range j)).length = v := by rw [accL_len _ (cores.step_len X)]; exact lY
            have hcut := Gr.cut_le (n := v) (s := s) (k := j + 1) (by omega) (by omega)
            clear hst
            go_wp2_with fail
            go_at_call 39
            refine (cores.shard_ok HK.out.1 (may_n hn1 (by omega) lX lA) (fun w' hf => HST.out _ w' hf (fun k h => by omega)) (by rw [lX]; exact HFT.out) 0 (by omega)).mono ?_
            rintro e w8 ⟨rfl, hT, hf⟩
            have H8 := hide (show TwoAt w8 pa ga pb gb X (accL (cores.step X) El v s (cores.bY v) (List.range (j + 1))) by rw [accL_range]; exact hT)
            have HF8 := hide (HK.out.2.trans hf (fun k h => .inl (by omega)))
            clear hT hf q0 q1 q2
            go_wp2
            go_roundw
            case rel => exact ⟨j + 1, by omega, by go_num, H8.out, HF8.out⟩
            case measure => simp [intOf]; omega
          · obtain rfl : j = s := by omega
            have hAl := accL_all (cores.step X) (Gr.cores_comm X) El v j (by omega) (fun e he => (OK2.out e he).1) (cores.bY v) (List.range j) (List.Perm.refl _)
            have HK4 := HK.out.1
            rw [hAl] at HK4
            have HT6 := hide HK4
            have HG6 := hide (HGw.out.trans HK.out.2 (fun k h => .inl (show w2.heap.size ≤ k by omega)))
            have HF6 := hide (HFw.out.trans HK.out.2 (fun k h => .inr (by omega)))
            have HB6 := hide (HBO.out.fr HK.out.2 (by omega))
            have hby : cores.bY v = List.replicate v 0 := by unfold cores.bY; simp [List.map_const']
            have lF : ((Gr.flat El).foldl (cores.step X) (cores.bY v)).length = v := by rw [foldl_len (cores.step_len X)]; exact lY
            have HFull := hide (show Gr.wantK X El v q = (Gr.flat El).foldl (cores.step X) (cores.bY v) by
              unfold Gr.wantK; rw [List.take_of_length_le (by unfold Gr.flat; rw [List.length_map, HQ.out]; exact Nat.le_refl _), hby])
            have BW := hide (Blk.new wr 36 ((Gr.wantK X El v 0).map u64v).toArray)
            have FW := hide ((Fr.refl (fun _ => False) wr).alloc (.cells ((Gr.wantK X El v 0).map u64v).toArray 36))
            have hmk2 : (Instr.makeSlice 49 (.int .i64 (v : Int)) (.int .i64 (v : Int))).run Try.prog wr = .ok (.slice (some ⟨wr.heap.size, 0, none⟩) v v) (wr.alloc (.cells ((Gr.wantK X El v 0).map u64v).toArray 36)) := by
              obtain ⟨ib, jb, jb0, jb1, jb2⟩ := info_parts u64_info
              have := run_make_rowN (P := Try.prog) 49 36 ib _ rfl jb jb0 .i64 .i64 v v (Nat.le_refl _) (by rw [jb2]; omega) (by omega) wr
              rw [jb1, show (Value.int .u64 0).cells = #[.int .u64 0] from rfl, madeCells_one, Nat.mul_one] at this
              rw [this]
              simp [Gr.wantK, u64v]
            have SW := hide (show (wr.alloc (.cells ((Gr.wantK X El v 0).map u64v).toArray 36)).heap.size = wr.heap.size + 1 by simp)
            have hsw := HK.out.2.size
            obtain ⟨gw, hgw⟩ : ∃ x, wr.heap.size = x := ⟨_, rfl⟩
            rw [hgw] at BW SW hmk2
            have HT7 := hide (HT6.out.still FW.out)
            have HG7 := hide (HG6.out.then_ FW.out)
            have HF7 := hide (HF6.out.then_ FW.out)
            have HB7 := hide (HB6.out.fr FW.out (fun h => h))
            have hb6 := HB6.out.lt
            clear hAl HK4 HK HT6 HG6 HF6 HB6 FW
            go_wp2_with fail
            generalize wr.alloc (.cells ((Gr.wantK X El v 0).map u64v).toArray 36) = w7 at *
            go_loopw [16] (fun i wr => ∃ k : Nat, k ≤ q ∧ i = .int .i64 k ∧ Hid (Blk wr gw 36 ((Gr.wantK X El v k).map u64v).toArray ∧ Fr (fun z => z = gw) w7 wr)) (fun i _ => q - (intOf i).toNat)
            case atStart => exact ⟨0, by omega, rfl, BW.out, Fr.refl _ _⟩
            case round =>
              obtain ⟨k, hk, rfl, HW⟩ := hrel
              by_cases hkq : k < q
              · have lk : k < El.length := by rw [HQ.out]; exact hkq
                obtain ⟨b2, o2, rfl, hb2, hr⟩ := EdgesAt.cells (k := k) (show EdgesAt wr A1 El from (HE2.out.fr (HG7.out.trans HW.out.2 (fun k h => .inl (show w2.heap.size ≤ k by omega))) (Nat.le_refl _) (fun k h => h)).more ((HG7.out.trans HW.out.2 (fun k h => .inl (show w2.heap.size ≤ k by omega))).size)) lk
                have HNX := hide (Gr.wantK_next (X := X) (l := El) (n := v) lk)
                obtain ⟨e1, e2, e3⟩ := OK2.out _ (List.getElem_mem lk)
                generalize El[k]'lk = y at *
                obtain ⟨u, x⟩ := y
                simp only at e1 e2 e3
                have y0 := hr 0 _ rfl
                have y1 := hr 1 _ rfl
                rw [Nat.mul_comm 2 k, Nat.add_zero] at y0
                rw [Nat.mul_comm 2 k] at y1
                simp only at y0 y1
                clear hr
                have HBo := HB7.out.fr HW.out.2 (by omega)
                have o1 : wr.cell? ⟨g, u, none⟩ = some (.bool (Gr.onB th u)) := (HBo.cell u).trans (HCO.out u e1)
                have o2' : wr.cell? ⟨g, x, none⟩ = some (.bool (Gr.onB th x)) := (HBo.cell x).trans (HCO.out x e2)
                have hbt := HBT.out u x e1 e2
                clear HBo
                cases hou : Gr.onB th u
                · rw [hou] at o1 hbt
                  have HN2 := hide (HNX.out.trans (Gr.step_no (by simpa using hbt)))
                  go_wp2
                  go_roundw
                  case rel => exact ⟨k + 1, by omega, by go_num, by rw [HN2.out]; exact HW.out.1, HW.out.2⟩
                  case measure => simp [intOf]; omega
                · cases hox : Gr.onB th x
                  · rw [hox] at o2' hbt
                    rw [hou] at o1 hbt
                    have HN2 := hide (HNX.out.trans (Gr.step_no (by simpa using hbt)))
                    go_wp2
                    go_roundw
                    case rel => exact ⟨k + 1, by omega, by go_num, by rw [HN2.out]; exact HW.out.1, HW.out.2⟩
                    case measure => simp [intOf]; omega
                  · rw [hox] at o2' hbt
                    rw [hou] at o1 hbt
                    have HN2 := hide (HNX.out.trans (Gr.step_yes (by simpa using hbt)))
                    have lW := Gr.wantK_len X El v k
                    generalize Gr.wantK X El v k = ws at *
                    have HI2 := hide (show cores.inc (cores.inc ws u) x = (ws.set u (cores.up (ws.getD u 0))).set x (cores.up (ws.getD x 0)) by
                      unfold cores.inc
                      have : (ws.set u (cores.up (ws.getD u 0))).getD x 0 = ws.getD x 0 := by simp [List.getD, List.getElem?_set_ne e3]
                      rw [this])
                    have d0 : wr.cell? ⟨gw, u, none⟩ = some (.int .u64 ((ws.getD u 0 : Nat) : Int)) := (HW.out.1.cell u).trans (by simp [u64v, List.getD, show u < ws.length by omega])
                    have d1 : ∀ z, (wr.setCell ⟨gw, u, none⟩ z).cell? ⟨gw, x, none⟩ = some (.int .u64 ((ws.getD x 0 : Nat) : Int)) := fun z => ((HW.out.1.set_ u z).cell x).trans (by
                      rw [Array.getElem?_setIfInBounds_ne e3]; simp [u64v, List.getD, show x < ws.length by omega])
                    have hb2w : b2 < w2.heap.size := by
                      obtain ⟨b', o', e, hb', _⟩ := HE2.out.2 (by omega)
                      injection e with e
                      injection e with e1' e2'
                      omega
                    have y1z : ∀ z, (wr.setCell ⟨gw, u, none⟩ z).cell? ⟨b2, o2 + k * 2 + 1, none⟩ = some (.int .i64 (x : Int)) := fun z => (World.cell?_setCell_far wr ⟨gw, u, none⟩ ⟨b2, o2 + k * 2 + 1, none⟩ z (by simp; omega)).trans y1
                    have f0 := HW.out.1.frozen u
                    have f1 : ∀ z, (wr.setCell ⟨gw, u, none⟩ z).frozen? ⟨gw, x, none⟩ = false := fun z => (HW.out.1.set_ u z).frozen x
                    have bu1 : (u : Int) < (v : Int) := by omega
                    have bx1 : (x : Int) < (v : Int) := by omega
                    generalize ws.getD u 0 = a0 at *
                    generalize ws.getD x 0 = a1 at *
                    have HBk := hide ((HW.out.1.set_ u (.int .u64 (IntKind.u64.wrap ((a0 : Int) + 1)))).set_ x (.int .u64 (IntKind.u64.wrap ((a1 : Int) + 1))))
                    have HFk := hide ((HW.out.2.setCell (p := ⟨gw, u, none⟩) (.inl rfl) (.int .u64 (IntKind.u64.wrap ((a0 : Int) + 1)))).setCell (p := ⟨gw, x, none⟩) (.inl rfl) (.int .u64 (IntKind.u64.wrap ((a1 : Int) + 1))))
                    have HEq := hide (show ((ws.map u64v).toArray.setIfInBounds u (.int .u64 (IntKind.u64.wrap ((a0 : Int) + 1)))).setIfInBounds x (.int .u64 (IntKind.u64.wrap ((a1 : Int) + 1))) = (((ws.set u (cores.up a0)).set x (cores.up a1)).map u64v).toArray by
                      rw [cores.add_one, cores.add_one]
                      simp [List.map_set, u64v])
                    go_wp2
                    go_roundw
                    case rel =>
                      refine ⟨k + 1, by omega, by go_num, ?_, HFk.out⟩
                      rw [HN2.out, HI2.out, ← HEq.out]
                      exact HBk.out
                    case measure => simp [intOf]; omega
              · obtain rfl : k = q := by omega
                have HBw := HW.out.1
                rw [HFull.out] at HBw
                have HR := hide (Reads.blk (n := v) HBw (by rw [List.length_map]; exact lF))
                have HT8 := hide (HT7.out.fr HW.out.2 (fun e => (HT7.out.a.head.ne_ (BW.out) (by decide)) e) (by have := HT7.out.a.row.lt; omega) (fun e => (HT7.out.b.head.ne_ (BW.out) (by decide)) e) (by have := HT7.out.b.row.lt; omega))
                have HF8 := hide (HF7.out.trans HW.out.2 (fun z h => .inr (by omega)))
                generalize (Gr.flat El).foldl (cores.step X) (cores.bY v) = ac at *
                clear HBw HW
                go_wp2_with fail
                go_at_call 26
                refine (read_any HT8.out.b).mono ?_
                rintro e w9 ⟨Ax, cx, rfl, hr, hf⟩
                rw [lF] at hr ⊢
                have HR9 := hide (HR.out.up hf)
                have HX := hide hr
                have HF9 := hide (HF8.out.then_ hf)
                clear hr hf
                go_wp2_with fail
                go_at_call 29
                refine (same_eq Ax _ v cx v v _ ac _ HX.out HR9.out (by omega)).mono ?_
                rintro e wa ⟨rfl, hf⟩
                have HFa := hide (HF9.out.then_ hf)
                clear hf
                go_wp2_with fail
                go_at_call 37
                refine (k20.ends_true _).mono ?_
                rintro e wb ⟨rfl, hf⟩
                have HFF := hide (HFa.out.then_ hf)
                clear hf
                go_wp2
                go_ret
                exact ⟨rfl, HFF.out⟩
end Go.Proofs.Ytjdbjahgimlhbaa.count
