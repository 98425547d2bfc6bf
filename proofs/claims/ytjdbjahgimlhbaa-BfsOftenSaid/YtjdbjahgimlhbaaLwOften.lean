/- BfsOften, walked. -/
import Derived.Test.YtjdbjahgimlhbaaGrOften
import Derived.Test.YtjdbjahgimlhbaaOrd
import Derived.Test.YtjdbjahgimlhbaaEdMade
import Derived.Test.YtjdbjahgimlhbaaEnds17
set_option linter.unusedVariables false
set_option maxRecDepth 100000
namespace Go.Proofs.Ytjdbjahgimlhbaa.often
open Go.RowKit
open Gr (E T)

theorem great_any (many argt : Nat) (AB : Option Addr) (nB cB : Nat) (AM : Option Addr) (nM cM : Nat) (w : World) :
    Calls Try.prog 31 #[.agg #[.int .u8 (many : Int), .int .u8 (argt : Int), .slice AB nB cB, .slice AM nM cM]] w fun e w' => e = .returned (.bool (decide (50 < nB) || decide (20 < nM))) ∧ Fr (fun _ => False) w w' := by
  by_cases h1 : 50 < nB
  · go_enter Try.func31, Try.ntmps31
    go_wp2
    go_ret
    exact ⟨by simp [h1], (Fr.refl _ _).alloc _⟩
  · by_cases h2 : 20 < nM
    · go_enter Try.func31, Try.ntmps31
      go_wp2
      go_ret
      exact ⟨by simp [h1, h2]; omega, (Fr.refl _ _).alloc _⟩
    · go_enter Try.func31, Try.ntmps31
      go_wp2
      go_ret
      exact ⟨by simp [h1, h2]; omega, (Fr.refl _ _).alloc _⟩
set_option maxHeartbeats 4000000 in
theorem walk (A : Option Addr) (G m c : Nat) (l : List E) (many argt : Nat) (AB : Option Addr) (nB cB : Nat) (AM : Option Addr) (nM cM : Nat) (yb zm : List Nat) (w : World) (h : Reads w w.heap.size 2 A m (gcells l)) (hm : l.length = m) (hm63 : m ≤ 9223372036854775807) (hG : G < 256) (hl : ∀ e ∈ l, e.1 < 256 ∧ e.2 < 256) (hmany : many < 256)
    (hrb : Reads w w.heap.size 1 AB nB (yb.map fun x : Nat => .int .u8 (x : Int))) (hyb : ∀ x ∈ yb, x < 256) (hnb : nB ≤ 9223372036854775807) (hrm : Reads w w.heap.size 1 AM nM (zm.map fun x : Nat => .int .u8 (x : Int))) (hzm : ∀ x ∈ zm, x < 256) (hnm : nM ≤ 9223372036854775807) :
    Calls Try.prog 7 #[.agg #[.int .u8 (G : Int), .slice A m c], .agg #[.int .u8 (many : Int), .int .u8 (argt : Int), .slice AB nB cB, .slice AM nM cM]] w fun e w' => e = .returned (.bool true) ∧ Fr (fun _ => False) w w' := by
  have H := hide h
  have HM := hide hm
  have HL := hide hl
  have HRB := hide hrb
  have HRM := hide hrm
  have HYB := hide hyb
  have HZM := hide hzm
  have LB := hide (show yb.length = nB by have := hrb.1; simpa using this)
  have LM := hide (show zm.length = nM by have := hrm.1; simpa using this)
  clear h hm hl hrb hrm hyb hzm
  have F0 := hide (((Fr.refl (fun _ => False) w).alloc (.cells #[.int .u8 (G : Int), .slice A m c] 24)).alloc (.cells #[.int .u8 (many : Int), .int .u8 (argt : Int), .slice AB nB cB, .slice AM nM cM] 62))
  have BK : Hid (Blk ((w.alloc (.cells #[.int .u8 (G : Int), .slice A m c] 24)).alloc (.cells #[.int .u8 (many : Int), .int .u8 (argt : Int), .slice AB nB cB, .slice AM nM cM] 62)) (w.heap.size + 1) 62 #[.int .u8 (many : Int), .int .u8 (argt : Int), .slice AB nB cB, .slice AM nM cM]) := by
    have := Blk.new (w.alloc (.cells #[.int .u8 (G : Int), .slice A m c] 24)) 62 #[.int .u8 (many : Int), .int .u8 (argt : Int), .slice AB nB cB, .slice AM nM cM]
    unfold Hid
    simpa using this
  have BG := hide ((Blk.new w 24 #[.int .u8 (G : Int), .slice A m c]).alloc (.cells #[.int .u8 (many : Int), .int .u8 (argt : Int), .slice AB nB cB, .slice AM nM cM] 62))
  have hcase : 300 < m ∨ (m ≤ 300 ∧ (decide (50 < nB) || decide (20 < nM)) = true) ∨ (m ≤ 300 ∧ (decide (50 < nB) || decide (20 < nM)) = false) := by
    rcases Nat.lt_or_ge 300 m with h | h
    · exact .inl h
    · cases hd : (decide (50 < nB) || decide (20 < nM))
      · exact .inr (.inr ⟨h, rfl⟩)
      · exact .inr (.inl ⟨h, rfl⟩)
  rcases hcase with hb | ⟨hb, hb2⟩ | ⟨hb, hb2⟩
  · go_enter Try.func7, Try.ntmps7
    go_wp2_with fail
    go_at_call 32
    refine (k17.ends_true _).mono ?_
    rintro e w1 ⟨rfl, hf⟩
    have HF := hide (F0.out.then_ hf)
    clear hf
    go_wp2
    go_ret
    exact ⟨rfl, HF.out⟩
  · go_enter Try.func7, Try.ntmps7
    go_wp2_with fail
    go_at_call 31
    refine (great_any many argt AB nB cB AM nM cM _).mono ?_
    rintro e wg ⟨rfl, hf⟩
    have FG := hide (F0.out.then_ hf)
    have BKg := hide (BK.out.fr hf (fun h => h))
    rw [hb2]
    clear hf
    go_wp2_with fail
    go_at_call 32
    refine (k17.ends_true _).mono ?_
    rintro e w1 ⟨rfl, hf⟩
    have HF := hide (FG.out.then_ hf)
    clear hf
    go_wp2
    go_ret
    exact ⟨rfl, HF.out⟩
  · go_enter Try.func7, Try.ntmps7
    go_wp2_with fail
    go_at_call 31
    refine (great_any many argt AB nB cB AM nM cM _).mono ?_
    rintro e wg ⟨rfl, hf⟩
    have FG := hide (F0.out.then_ hf)
    have BKg := hide (BK.out.fr hf (fun h => h))
    rw [hb2]
    have BGg := hide (BG.out.fr hf (fun h => h))
    have gg0 : wg.cell? ⟨w.heap.size, 0, none⟩ = some (.int .u8 (G : Int)) := (BGg.out.cell 0).trans rfl
    have gg1 : wg.cell? ⟨w.heap.size, 1, none⟩ = some (.slice A m c) := (BGg.out.cell 1).trans rfl
    clear hf
    go_wp2_with fail
    go_at_call 17
    refine (made_any A m c G l _ (H.out.up FG.out) HM.out (by omega) hG HL.out).mono ?_
    rintro e w1 ⟨A1, c1, rfl, hc1, hE, hf⟩
    have HF1 := hide (FG.out.then_ hf)
    have BK1 := hide (BKg.out.fr hf (fun h => h))
    have z0 : w1.cell? ⟨w.heap.size + 1, 0, none⟩ = some (.int .u8 (many : Int)) := (BK1.out.cell 0).trans rfl
    clear gg0 gg1
    have HE := hide hE
    obtain ⟨ok1, ok2, ok3⟩ := madeE_ok G l
    have hn1 : 1 ≤ madeN G := by unfold madeN; omega
    have hn2 : madeN G ≤ 60 := by unfold madeN; omega
    rw [HM.out] at ok3
    clear hf hE
    generalize hNN : madeN G = n at *
    generalize hEE : madeE G l = El at *
    have OK1 := hide ok1
    have OK2 := hide ok2
    obtain ⟨q, hq⟩ : ∃ q, El.length = q := ⟨_, rfl⟩
    have HQ := hide hq
    rw [hq] at ok3 hc1
    rw [hq]
    clear ok1 ok2 hq
    go_wp2_with fail
    go_at_call 18
    refine (shards_any A1 n q c1 many El _ HE.out HQ.out (by omega) OK1.out hn1 hn2 hmany OK2.out).mono ?_
    rintro e w2 ⟨AS, cS, rfl, hS, hf⟩
    obtain ⟨hs1, hs2, hs3⟩ := shN_ok hn1 many
    generalize shN n many = s at *
    obtain ⟨b, o, rfl, hbK⟩ := hS.addr
    have HS := hide hS
    have HF2 := hide (HF1.out.then_ hf)
    have BK2 := hide (BK1.out.fr hf (fun h => h))
    clear z0
    have hs0 : ((s : Int) == 0) = false := by simp; omega
    clear hS hf
    go_wp2_with fail
    go_at_call 19
    refine (fresh_any n _ (by omega)).mono ?_
    rintro e w3 ⟨pa, ga, pb, gb, rfl, hga, hgb, hT, hf⟩
    have HT := hide hT
    have HF3 := hide hf
    have la := hT.a.row.lt
    have lb := hT.b.row.lt
    clear hT hf
    go_wp2_with fail
    go_at_call 19
    refine (fresh_any n _ (by omega)).mono ?_
    rintro e w4 ⟨pc, gc, pd, gd, rfl, hgc, hgd, hT2, hf⟩
    have H4 := hide (show FourAt w4 pa ga pb gb pc gc pd gd (List.replicate n 0) (List.replicate n 0) (List.replicate n 0) (List.replicate n 0) from ⟨HT.out.still hf, hT2, by omega, by omega, by omega, by omega⟩)
    have HF4 := hide (HF3.out.then_ hf)
    have lc := hT2.a.row.lt
    have ld := hT2.b.row.lt
    have h43 := HF4.out.size
    clear hT2 hf HT HF3
    go_wp2_with fail
    go_at_call 33
    refine (bfs.begin_ok H4.out.a (may_n hn1 (by omega) (by simp) (by simp)) 0 (by simp [bfs.okArg]; omega)).mono ?_
    rintro e w5 ⟨rfl, hT, hf⟩
    rw [List.length_replicate] at hT
    have H5 := hide (H4.out.stepA hT hf)
    have HF5 := hide ((HF4.out.mono (S' := fun k => k = ga ∨ k = gb ∨ k = gc ∨ k = gd) (fun k h => h.elim)).trans hf (fun k h => .inl (by omega)))
    clear hT hf
    go_wp2_with fail
    go_at_call 33
    refine (bfs.begin_ok H5.out.c (may_n hn1 (by omega) (by simp) (by simp)) 0 (by simp [bfs.okArg]; omega)).mono ?_
    rintro e w6 ⟨rfl, hT, hf⟩
    rw [List.length_replicate] at hT
    have H6 := hide (H5.out.stepC hT hf)
    have HF6 := hide (HF5.out.trans hf (fun k h => .inl (by omega)))
    clear hT hf H4 H5 HF5 HF4
    have BK6 := hide ((BK2.out.fr HF6.out (by have := BK2.out.lt; omega)))
    have z2 : w6.cell? ⟨w.heap.size + 1, 2, none⟩ = some (.slice AB nB cB) := (BK6.out.cell 2).trans rfl
    have HFA := hide (HF2.out.trans HF6.out (fun k h => .inr (by have := HF2.out.size; omega)))
    go_wp2_with fail
    go_at_call 34
    refine (order_any AB s nB cB yb _ (HRB.out.up HFA.out) LB.out hs3 HYB.out hnb).mono ?_
    rintro e w7 ⟨Ao, co, rfl, hro, hf⟩
    have HOP := hide (Gr.order_perm s yb)
    have HOL := Gr.order_len s yb
    have HOlt := hide (Gr.order_lt s yb)
    generalize Gr.order s yb = OL at *
    have lx0 : (bfs.bX n 0).length = n := by simp [bfs.bX]
    have ly0 : (bfs.bY n).length = n := by simp [bfs.bY]
    have la6 := H6.out.a.a.row.lt
    have lb6 := H6.out.a.b.row.lt
    have lc6 := H6.out.c.a.row.lt
    have ld6 := H6.out.c.b.row.lt
    have H7 := hide (H6.out.still hf)
    have HRO := hide hro
    have HS7 := hide ((HS.out.fr HF6.out (fun k h => by omega)).fr hf (fun k h => h.elim))
    have HF7 := hide (HFA.out.then_ hf)
    have BK7 := hide (BK6.out.fr hf (fun h => h))
    have h26 := HF6.out.size
    have h67 := hf.size
    have hbk2 := BK2.out.lt
    clear hro hf H6 z2 HS
    obtain ⟨bo, oo, rfl, _⟩ := HRO.out.2 (by omega)
    have HCO := hide (fun j (hj : j < s) (S : Nat → Prop) W (hf : Fr S w7 W) (hS : ∀ k, S k → k < w6.heap.size) => (show W.cell? ⟨bo, oo + j, none⟩ = some (.int .i64 ((OL.getD j 0 : Nat) : Int)) by
      obtain ⟨b', o', e, hlo, hb', hc⟩ := (HRO.out.fr hf hS).2 (by omega)
      injection e with e
      injection e with e1 e2
      subst e1
      subst e2
      refine hc j _ ?_
      simp [ivals, List.getD, show j < OL.length by omega]))
    go_wp2_with fail
    go_loopw [13] (fun i wr => ∃ (r : Nat) (xs ys : List Nat), r ≤ 3 ∧ i = .int .i64 r ∧ xs.length = n ∧ ys.length = n ∧ Hid (FourAt wr pa ga pb gb pc gc pd gd xs ys xs ys ∧ Fr (fun k => k = ga ∨ k = gb ∨ k = gc ∨ k = gd) w7 wr)) (fun i _ => 3 - (intOf i).toNat)
    case atStart => exact ⟨0, _, _, by omega, rfl, lx0, ly0, H7.out, Fr.refl _ _⟩
    case round =>
      obtain ⟨r, xs, ys, hr3, rfl, lx, ly, HI⟩ := hrel
      by_cases hlt : r < 3
      · generalize hwo : wr = wo at *
        have hd4 : decide ((r : Int) < 3) = true := by simp; omega
        have hd5 : decide (r < 3) = true := by simp; omega
        go_wp2_with fail
        try simp only [hd4, hd5]
        go_loopw [14] (fun i wr => ∃ j : Nat, j ≤ s ∧ i = .int .i64 j ∧ Hid (FourAt wr pa ga pb gb pc gc pd gd xs (accL (bfs.step r xs) El n s ys (List.range j)) xs (accL (bfs.step r xs) El n s ys (OL.take j)) ∧ Fr (fun k => k = ga ∨ k = gb ∨ k = gc ∨ k = gd) wo wr)) (fun i _ => s - (intOf i).toNat)
        case atStart => exact ⟨0, by omega, rfl, HI.out.1, Fr.refl _ _⟩
        case round =>
          obtain ⟨j, hj, rfl, HJ⟩ := hrel
          by_cases hjs : j < s
          · have HFw := hide (HI.out.2.trans HJ.out.2 (fun k h => .inl h))
            have HSr := hide (HS7.out.fr HFw.out (fun k h => by omega))
            obtain ⟨Ai, vs', x0, x1, x2, hst⟩ := HSr.out.at hjs
            have HST := hide hst
            have HFT := hide (fun i (hi : i < s) => Gr.shard_fits El n s i (by omega) hi (fun e he => (OK2.out e he).2.1))
            have lA : (accL (bfs.step r xs) El n s ys (List.range j)).length = n := by rw [accL_len _ (bfs.step_len r xs)]; exact ly
            have lC : (accL (bfs.step r xs) El n s ys (OL.take j)).length = n := by rw [accL_len _ (bfs.step_len r xs)]; exact ly
            have lj : j < OL.length := by omega
            have HTK := hide (accL_take (bfs.step r xs) El n s ys OL lj)
            have holt := HOlt.out _ (List.getElem_mem lj)
            have hgd : OL.getD j 0 = OL[j] := by simp [List.getD, lj]
            have co8 := HCO.out j hjs
            rw [hgd] at co8
            have HCO8 := hide co8
            clear hgd co8
            generalize OL[j]'lj = oj at *
            have hcut := Gr.cut_le (n := n) (s := s) (k := j + 1) (by omega) (by omega)
            clear hst
            go_wp2_with fail
            go_at_call 35
            refine (bfs.shard_ok HJ.out.1.a (may_n hn1 (by omega) lx lA) (fun w' hf => HST.out _ w' hf (fun k h => by omega)) (by rw [lx]; exact HFT.out j hjs) (r : Int) (by omega) (by omega)).mono ?_
            rintro e w8 ⟨rfl, hT, hf⟩
            have H8 := hide (HJ.out.1.stepA hT (hf.mono (fun k h => .inr h)))
            have HF8 := hide (HJ.out.2.trans hf (fun k h => .inl (by omega)))
            have HSr8 := hide (HSr.out.fr hf (fun k h => by omega))
            have c8 := HCO8.out _ w8 (HFw.out.trans hf (fun k h => .inl (by omega))) (fun k h => by omega)
            obtain ⟨Aj, vs2, q0, q1, q2, hst2⟩ := HSr8.out.at holt
            have HST2 := hide hst2
            have bo1 : (oj : Int) < (s : Int) := by omega
            clear hT hf hst2 x0 x1 x2
            go_wp2_with fail
            go_at_call 35
            refine (bfs.shard_ok H8.out.c (may_n hn1 (by omega) lx lC) (fun w' hf => HST2.out _ w' hf (fun k h => by omega)) (by rw [lx]; exact HFT.out oj holt) (r : Int) (by omega) (by omega)).mono ?_
            rintro e w9 ⟨rfl, hT, hf⟩
            have H9 := hide (show FourAt w9 pa ga pb gb pc gc pd gd xs (accL (bfs.step r xs) El n s ys (List.range (j + 1))) xs (accL (bfs.step r xs) El n s ys (OL.take (j + 1))) from by
              rw [accL_range, HTK.out]
              exact H8.out.stepC hT (hf.mono (fun k h => .inr h)))
            have HF9 := hide (HF8.out.trans hf (fun k h => .inl (by omega)))
            clear hT hf q0 q1 q2 c8
            go_wp2
            try simp only [hd4, hd5]
            go_roundw
            case rel => exact ⟨j + 1, by omega, by go_num, H9.out, HF9.out⟩
            case measure => simp [intOf]; omega
          · obtain rfl : j = s := by omega
            have hto : OL.take j = OL := List.take_of_length_le (by omega)
            rw [hto] at HJ
            have HFw := hide (HI.out.2.trans HJ.out.2 (fun k h => .inl h))
            have HK := hide HJ.out.1
            generalize hwp : wr = wp at *
            clear HI HJ
            go_wp2_with fail
            try simp only [hd4, hd5]
            go_loopw [15] (fun i wr => ∃ t : Nat, t ≤ nM ∧ i = .int .i64 t ∧ Hid (FourAt wr pa ga pb gb pc gc pd gd xs (accL (bfs.step r xs) El n j ys (List.range j)) xs (accL (bfs.step r xs) El n j ys (OL ++ (zm.take t).map (· % j))) ∧ Fr (fun k => k = ga ∨ k = gb ∨ k = gc ∨ k = gd) wp wr)) (fun i _ => nM - (intOf i).toNat)
            case atStart => exact ⟨0, by omega, rfl, by simpa using HK.out, Fr.refl _ _⟩
            case round =>
              obtain ⟨t, ht, rfl, HL2⟩ := hrel
              have HFt := hide (HFw.out.trans HL2.out.2 (fun k h => .inl h))
              have BKr := hide (BK7.out.fr HFt.out (by omega))
              have z3 : wr.cell? ⟨w.heap.size + 1, 3, none⟩ = some (.slice AM nM cM) := (BKr.out.cell 3).trans rfl
              by_cases htm : t < nM
              · have HFwr := hide (HF7.out.trans HFt.out (fun k h => .inr (by omega)))
                have lzt : t < zm.length := by rw [LM.out]; exact htm
                obtain ⟨b9, o9, u9, rfl, _, hu, hcc⟩ := (HRM.out.up HFwr.out).at_ htm
                rw [List.getElem?_map, List.getElem?_eq_getElem lzt] at hu
                have HTK := (show OL ++ (zm.take (t + 1)).map (· % j) = (OL ++ (zm.take t).map (· % j)) ++ [zm[t] % j] by rw [List.take_succ_eq_append_getElem lzt, List.map_append, List.append_assoc]; rfl)
                have hz256 := HZM.out _ (List.getElem_mem lzt)
                generalize zm[t]'lzt = zt at *
                obtain rfl := Option.some.inj hu
                have hcc2 : wr.cell? ⟨b9, o9 + t, none⟩ = some (.int .u8 (zt : Int)) := hcc
                clear hcc hu
                obtain ⟨zz, hzz⟩ : ∃ zz, zt % j = zz := ⟨_, rfl⟩
                have hzl : zz < j := by rw [← hzz]; exact Nat.mod_lt _ (by omega)
                have hmod : (zt : Int) % (j : Int) = (zz : Int) := by rw [← hzz]; rfl
                rw [hzz] at HTK
                have HTK2 := hide HTK
                clear hzz HTK
                have hj0 : ¬ ((j : Int) = 0) := by omega
                have bz1 : (zz : Int) < (j : Int) := by omega
                have HSr := hide (HS7.out.fr HFt.out (fun k h => by omega))
                obtain ⟨Ai, vs', x0, x1, x2, hst⟩ := HSr.out.at hzl
                have HST := hide hst
                have HFT := hide (Gr.shard_fits El n j zz (by omega) hzl (fun e he => (OK2.out e he).2.1))
                have lC : (accL (bfs.step r xs) El n j ys (OL ++ (zm.take t).map (· % j))).length = n := by rw [accL_len _ (bfs.step_len r xs)]; exact ly
                have hcut := Gr.cut_le (n := n) (s := j) (k := zz + 1) (by omega) (by omega)
                clear hst
                go_wp2_with fail
                go_at_call 35
                refine (bfs.shard_ok HL2.out.1.c (may_n hn1 (by omega) lx lC) (fun w' hf => HST.out _ w' hf (fun k h => by omega)) (by rw [lx]; exact HFT.out) (r : Int) (by omega) (by omega)).mono ?_
                rintro e w8 ⟨rfl, hT, hf⟩
                have H8 := hide (show FourAt w8 pa ga pb gb pc gc pd gd xs (accL (bfs.step r xs) El n j ys (List.range j)) xs (accL (bfs.step r xs) El n j ys (OL ++ (zm.take (t + 1)).map (· % j))) from by
                  rw [HTK2.out, accL_snoc]
                  exact HL2.out.1.stepC hT (hf.mono (fun k h => .inr h)))
                have HF8 := hide (HL2.out.2.trans hf (fun k h => .inl (by omega)))
                clear hT hf x0 x1 x2
                go_wp2
                try simp only [hd4, hd5]
                go_roundw
                case rel => exact ⟨t + 1, by omega, by go_num, H8.out, HF8.out⟩
                case measure => simp [intOf]; omega
              · obtain rfl : t = nM := by omega
                have hzt : zm.take t = zm := List.take_of_length_le (by rw [LM.out]; exact Nat.le_refl _)
                have hoft := Gr.often r xs El n j ys OL (zm.map (· % j)) HOP.out (fun k hk => by
                  obtain ⟨z, _, rfl⟩ := List.mem_map.1 hk
                  exact Nat.mod_lt _ (by omega))
                have HL3 := HL2.out.1
                rw [hzt, hoft] at HL3
                have HK2 := hide HL3
                have lA : (accL (bfs.step r xs) El n j ys (List.range j)).length = n := by rw [accL_len _ (bfs.step_len r xs)]; exact ly
                generalize accL (bfs.step r xs) El n j ys (List.range j) = ac at *
                clear HL3 HL2 hoft HK hzt
                obtain ⟨d, hd⟩ : ∃ d, bfs.cDone 0 xs ac = d := ⟨_, rfl⟩
                have hdd : (d != d) = false := by simp
                obtain ⟨xs', hx'⟩ : ∃ x, bfs.cXs 0 xs ac = x := ⟨_, rfl⟩
                obtain ⟨ys', hy'⟩ : ∃ y, bfs.cYs 0 xs ac = y := ⟨_, rfl⟩
                have lx' : xs'.length = n := by rw [← hx']; simp [bfs.cXs, lx]
                have ly' : ys'.length = n := by rw [← hy']; simp [bfs.cYs, lx]
                go_wp2_with fail
                go_at_call 26
                refine (read_any HK2.out.a.b).mono ?_
                rintro e wx ⟨Ax, cx, rfl, hr, hf⟩
                rw [lA] at hr ⊢
                have H10 := hide (HK2.out.still hf)
                have HF10 := hide (HFt.out.then_ hf)
                have HX := hide hr
                clear hr hf HK2
                go_wp2_with fail
                go_at_call 26
                refine (read_any H10.out.c.b).mono ?_
                rintro e wy ⟨Ay, cy, rfl, hr, hf⟩
                rw [lA] at hr ⊢
                have H11 := hide (H10.out.still hf)
                have HF11 := hide (HF10.out.then_ hf)
                have HX11 := hide (HX.out.up hf)
                have HY := hide hr
                clear hr hf H10 HF10 HX
                go_wp2_with fail
                go_at_call 29
                refine (same_eq Ax Ay n cx n cy _ ac _ HX11.out HY.out (by omega)).mono ?_
                rintro e wz ⟨rfl, hf⟩
                have H12 := hide (H11.out.still hf)
                have HF12 := hide (HF11.out.then_ hf)
                clear hf H11 HF11 HX11 HY
                go_wp2_with fail
                go_at_call 36
                refine (bfs.commit_ok H12.out.a (may_n hn1 (by omega) lx lA) 0 (r : Int)).mono ?_
                rintro e w8 ⟨rfl, hT, hf⟩
                rw [hx', hy'] at hT
                rw [hd]
                have H8 := hide (H12.out.stepA hT hf)
                have HF8 := hide (HF12.out.trans hf (fun k h => .inl (by omega)))
                clear hT hf
                go_wp2_with fail
                go_at_call 36
                refine (bfs.commit_ok H8.out.c (may_n hn1 (by omega) lx lA) 0 (r : Int)).mono ?_
                rintro e w9 ⟨rfl, hT, hf⟩
                rw [hx', hy'] at hT
                rw [hd]
                have H9 := hide (H8.out.stepC hT hf)
                have HF9 := hide (HF8.out.trans hf (fun k h => .inl (by omega)))
                clear hT hf H8 HF8 hx' hy' hd
                go_wp2_with fail
                go_at_call 26
                refine (read_any H9.out.a.a).mono ?_
                rintro e wx2 ⟨Ax2, cx2, rfl, hr, hf⟩
                rw [lx'] at hr ⊢
                have H20 := hide (H9.out.still hf)
                have HF20 := hide (HF9.out.then_ hf)
                have HX2 := hide hr
                clear hr hf H9 HF9
                go_wp2_with fail
                go_at_call 26
                refine (read_any H20.out.c.a).mono ?_
                rintro e wy2 ⟨Ay2, cy2, rfl, hr, hf⟩
                rw [lx'] at hr ⊢
                have H21 := hide (H20.out.still hf)
                have HF21 := hide (HF20.out.then_ hf)
                have HX21 := hide (HX2.out.up hf)
                have HY2 := hide hr
                clear hr hf H20 HF20 HX2
                go_wp2_with fail
                go_at_call 29
                refine (same_eq Ax2 Ay2 n cx2 n cy2 _ xs' _ HX21.out HY2.out (by omega)).mono ?_
                rintro e wz2 ⟨rfl, hf⟩
                have H22 := hide (H21.out.still hf)
                have HF22 := hide (HF21.out.then_ hf)
                clear hf
                go_wp2
                go_roundw
                case rel => exact ⟨r + 1, xs', ys', by omega, by go_num, lx', ly', H22.out, HF22.out⟩
                case measure => simp [intOf]; omega
      · obtain rfl : r = 3 := by omega
        have HFin := hide (HF7.out.trans HI.out.2 (fun k h => .inr (by omega)))
        go_wp2_with fail
        go_at_call 32
        refine (k17.ends_true _).mono ?_
        rintro e w8 ⟨rfl, hf⟩
        have HFF := hide (HFin.out.then_ hf)
        clear hf
        go_wp2
        go_ret
        exact ⟨rfl, HFF.out⟩
end Go.Proofs.Ytjdbjahgimlhbaa.often
