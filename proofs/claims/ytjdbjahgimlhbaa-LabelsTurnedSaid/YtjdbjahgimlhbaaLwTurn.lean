/- LabelsTurned, walked. -/
import Derived.Test.YtjdbjahgimlhbaaFour
import Derived.Test.YtjdbjahgimlhbaaGrTurn
import Derived.Test.YtjdbjahgimlhbaaEdMade
import Derived.Test.YtjdbjahgimlhbaaEnds19
set_option linter.unusedVariables false
set_option maxRecDepth 100000
namespace Go.Proofs.Ytjdbjahgimlhbaa.turned
open Go.RowKit
open Gr (E T sw)

theorem pair8_info : (Try.prog.info? 58).map (fun i => (i.zero, i.size, i.bytes)) = some (some (.agg #[.int .u8 0, .int .u8 0]), 2, 2) := by kernel_rfl
theorem gcells_len (l : List E) : (gcells l).length = l.length * 2 := by
  induction l with
  | nil => rfl
  | cons e l ih => simp only [gcells, List.flatMap_cons, List.length_append, List.length_cons, List.length_nil] at ih ⊢; omega
theorem gcells_snoc (l : List E) (e : E) : gcells (l ++ [e]) = gcells l ++ [.int .u8 (e.1 : Int), .int .u8 (e.2 : Int)] := by simp [gcells]
set_option maxHeartbeats 8000000 in
theorem walk (A : Option Addr) (G m c many : Nat) (l : List E) (w : World) (h : Reads w w.heap.size 2 A m (gcells l)) (hm : l.length = m) (hm63 : m ≤ 9223372036854775807) (hG : G < 256) (hl : ∀ e ∈ l, e.1 < 256 ∧ e.2 < 256) (hmany : many < 256) :
    Calls Try.prog 6 #[.agg #[.int .u8 (G : Int), .slice A m c], .int .u8 (many : Int)] w fun e w' => e = .returned (.bool true) ∧ Fr (fun _ => False) w w' := by
  have H := hide h
  have HM := hide hm
  have HL := hide hl
  clear h hm hl
  have F0 := hide ((Fr.refl (fun _ => False) w).alloc (.cells #[.int .u8 (G : Int), .slice A m c] 24))
  have BG := hide (Blk.new w 24 #[.int .u8 (G : Int), .slice A m c])
  have S0 := hide (show (w.alloc (.cells #[.int .u8 (G : Int), .slice A m c] 24)).heap.size = w.heap.size + 1 by simp)
  by_cases hbig : 300 < m
  · go_enter Try.func6, Try.ntmps6
    go_wp2_with fail
    go_at_call 25
    refine (k19.ends_true _).mono ?_
    rintro e w1 ⟨rfl, hf⟩
    have HF := hide (F0.out.then_ hf)
    clear hf
    go_wp2
    go_ret
    exact ⟨rfl, HF.out⟩
  · go_enter Try.func6, Try.ntmps6
    go_wp2_with fail
    go_at_call 17
    refine (made_any A m c G l _ (H.out.up F0.out) HM.out (by omega) hG HL.out).mono ?_
    rintro e w1 ⟨A1, c1, rfl, hc1, hE, hf⟩
    have HF1 := hide (F0.out.then_ hf)
    have BG1 := hide (BG.out.fr hf (fun h => h))
    have n0 : w1.cell? ⟨w.heap.size, 0, none⟩ = some (.int .u8 (G : Int)) := (BG1.out.cell 0).trans rfl
    have h10 := hf.size
    have HE := hide hE
    obtain ⟨ok1, ok2, ok3⟩ := madeE_ok G l
    have hn1 : 1 ≤ madeN G := by unfold madeN; omega
    have hn2 : madeN G ≤ 60 := by unfold madeN; omega
    rw [HM.out] at ok3
    clear hf hE
    generalize hNN : madeN G = n at *
    generalize hEE : madeE G l = El at *
    have OK1 := hide ok1
    have OK2 := hide ok2
    obtain ⟨q, hq⟩ : ∃ q, El.length = q := ⟨_, rfl⟩
    have HQ := hide hq
    rw [hq] at ok3 hc1
    rw [hq]
    clear ok1 ok2 hq
    go_wp2_with fail
    have BH := hide (Blk.new w1 24 #[.int .u8 (G : Int), .slice none 0 0])
    have FH := hide (HF1.out.alloc (.cells #[.int .u8 (G : Int), .slice none 0 0] 24))
    have BG2 := hide (BG1.out.alloc (.cells #[.int .u8 (G : Int), .slice none 0 0] 24))
    have HE2 := hide (HE.out.up ((Fr.refl _ _).alloc (.cells #[.int .u8 (G : Int), .slice none 0 0] 24)))
    have SH := hide (show (w1.alloc (.cells #[.int .u8 (G : Int), .slice none 0 0] 24)).heap.size = w1.heap.size + 1 by simp)
    obtain ⟨i1, hj, hj0, hj1, hj2⟩ := info_parts pair8_info
    generalize hW3 : w1.alloc (.cells #[.int .u8 (G : Int), .slice none 0 0] 24) = w3 at *
    clear n0
    go_wp2_with fail
    go_loopw [8] (fun i wr => ∃ (k : Nat) (A' : Option Addr) (c' : Nat), k ≤ m ∧ i = .int .i64 k ∧ Hid (Blk wr w1.heap.size 24 #[.int .u8 (G : Int), .slice A' k c'] ∧ wr.ownsRow (w1.heap.size + 1) 58 2 (.slice A' k c') k (gcells ((l.take k).map sw)) ∧ Fr (fun k => k = w1.heap.size) w3 wr)) (fun i _ => m - (intOf i).toNat)
    case atStart => exact ⟨0, none, 0, by omega, rfl, BH.out, World.ownsRow_nil _ _ _ _, Fr.refl _ _⟩
    case round =>
      obtain ⟨k, A', c', hk, rfl, HI⟩ := hrel
      have HBG := hide (BG2.out.fr HI.out.2.2 (by have := S0.out; omega))
      have g0 : wr.cell? ⟨w.heap.size, 0, none⟩ = some (.int .u8 (G : Int)) := (HBG.out.cell 0).trans rfl
      have g1 : wr.cell? ⟨w.heap.size, 1, none⟩ = some (.slice A m c) := (HBG.out.cell 1).trans rfl
      by_cases hlt : k < m
      · have lk : k < l.length := by rw [HM.out]; exact hlt
        obtain ⟨b2, o2, rfl, hb2, hr⟩ := H.out.2 (by omega)
        obtain ⟨q1, q2⟩ := gcells_at l k _ (List.getElem?_eq_getElem lk)
        have HT := hide (show gcells ((l.take (k + 1)).map sw) = gcells ((l.take k).map sw) ++ [.int .u8 ((l[k]).2 : Int), .int .u8 ((l[k]).1 : Int)] by
          rw [List.take_succ_eq_append_getElem lk, List.map_append, List.map_cons, List.map_nil, gcells_snoc]; rfl)
        have y0 := hr _ _ q1
        have y1 := hr _ _ q2
        rw [Nat.mul_comm 2 k] at y0 y1
        rw [← Nat.add_assoc] at y1
        have Fwr := FH.out.then_ (Fr.refl (fun _ => False) w3) |>.trans HI.out.2.2 (fun k h => .inr (by have := S0.out; omega))
        have z0 := Fwr.cell y0 (fun h => h)
        have z1 := Fwr.cell y1 (fun h => h)
        have HL3 := hide HI.out.2.1.lt
        generalize l[k]'lk = y at *
        have hf1 := HI.out.1.frozen 1
        have c1' : wr.cell? ⟨w1.heap.size, 1, none⟩ = some (.slice A' k c') := (HI.out.1.cell 1).trans rfl
        have lB := HI.out.1.lt
        clear hr q1 q2 y0 y1 Fwr
        have bd0 : (0 : Int) ≤ (k : Int) := by omega
        have bd1 : (k : Int) < (m : Int) := by omega
        have HO2 := hide (fun W (h : Fr (fun g => (Value.slice A' k c').ownBlock = some g) wr W) => show W.cell? ⟨w1.heap.size, 1, none⟩ = some (.slice A' k c') ∧ W.cell? ⟨w.heap.size, 1, none⟩ = some (.slice (some ⟨b2, o2, none⟩) m c) ∧ W.cell? ⟨b2, o2 + k * 2, none⟩ = some (.int .u8 (y.1 : Int)) ∧ W.cell? ⟨b2, o2 + k * 2 + 1, none⟩ = some (.int .u8 (y.2 : Int)) ∧ Fr (fun g => (Value.slice A' k c').ownBlock = some g) wr W from
          ⟨h.cell c1' (fun e => by have := (HL3.out _ e).1; simp only at this; omega), h.cell g1 (fun e => by have := (HL3.out _ e).1; have := S0.out; simp only at *; omega), h.cell z0 (fun e => by have := (HL3.out _ e).1; have := S0.out; simp only at *; omega), h.cell z1 (fun e => by have := (HL3.out _ e).1; have := S0.out; simp only at *; omega), h⟩)
        go_wp2_with fail
        refine wp_region_phased 15 2 1 (fun W => W.cell? ⟨w1.heap.size, 1, none⟩ = some (.slice A' k c') ∧ W.cell? ⟨w.heap.size, 1, none⟩ = some (.slice (some ⟨b2, o2, none⟩) m c) ∧ W.cell? ⟨b2, o2 + k * 2, none⟩ = some (.int .u8 (y.1 : Int)) ∧ W.cell? ⟨b2, o2 + k * 2 + 1, none⟩ = some (.int .u8 (y.2 : Int)) ∧ Fr (fun g => (Value.slice A' k c').ownBlock = some g) wr W)
          (by kernel_rfl) (by kernel_rfl) (HO2.out _ (Fr.refl _ _).drew) ?_
        simp only [List.take_succ_cons, List.take_zero, List.drop_succ_cons, List.drop_zero]
        iterate 15
          refine wpReads_cons rfl ?_ (fun W hS => ?_) ?_
          rotate_left
          · (obtain ⟨s0, s1, s2, s3, s4⟩ := hS; go_simp; try with_reducible rfl)
          simp only [Act.put, List.setIfInBounds_toArray, List.set_cons_zero, List.set_cons_succ]
        refine (show wpMid _ _ _ _ _ _ _ _ from ?_)
        simp only [wpMid]
        go_wp2
        refine midQ_ok (HO2.out _ ((Fr.refl _ _).drew.alloc _)) ?_
        have hown3 : wr.drew.ownsRow (w1.heap.size + 1) 58 2 (.slice A' k c') k (gcells ((l.take k).map sw)) := HI.out.2.1
        rw [show (wr.alloc (.cells #[.int .u8 (y.2 : Int), .int .u8 (y.1 : Int)] 58)).drew = wr.drew.alloc (.cells #[.int .u8 (y.2 : Int), .int .u8 (y.1 : Int)] 58) from rfl]
        refine wpList_append_box wr.drew _ _ rfl (.tmp 44) (.tmp 58) _ rfl (w1.heap.size + 1) 58 i1 _ 2 2 Try.underlying22 hj hj0 hj1 hj2 rfl (by decide) _ _ _ rfl hown3 rfl rfl ?d1 ?d2 ?d3 ?d4 ?d5
        case d1 => simp [Value.oneCell']
        case d2 => unfold maxLen; omega
        case d3 => omega
        case d4 => show w1.heap.size + 1 ≤ wr.heap.size; omega
        case d5 =>
          intro v4 w4 hown4 hg4 hn4
          obtain ⟨A4, c4, rfl⟩ := Reads.own_val hown4
          have F4 : Fr (fun g => (Value.slice A' k c').ownBlock = some g) wr w4 := ((Fr.refl _ wr).drew).trans (Fr.of_grown hg4) (fun k hk => .inl hk)
          refine midQ_ok (HO2.out _ F4) ?_
          obtain ⟨s0, s1, s2, s3, s4⟩ := HO2.out _ F4
          have hBn : ¬ ((Value.slice A' k c').ownBlock = some w1.heap.size) := fun e => by have := (HL3.out _ e).1; omega
          have HB4 := hide (HI.out.1.fr F4 hBn)
          have f4 := HB4.out.frozen 1
          have HB5 := hide (HB4.out.set_ 1 (.slice A4 (k + 1) c4))
          have HOw := hide (show (w4.setCell ⟨w1.heap.size, 1, none⟩ (.slice A4 (k + 1) c4)).ownsRow (w1.heap.size + 1) 58 2 (.slice A4 (k + 1) c4) (k + 1) (gcells ((l.take (k + 1)).map sw)) from by
            rw [HT.out]
            exact World.ownsRow.kept hown4 (set_grown _ _ _ _) (by
              cases hub : (Value.slice A4 (k + 1) c4).ownBlock with
              | none => exact .inl rfl
              | some g => have := (hown4.lt g hub).1; exact .inr (by simp; omega)))
          have FQ := hide ((HI.out.2.2.trans F4 (fun g h => .inr (by have := (HL3.out _ h).1; have := SH.out; omega))).setCell (p := ⟨w1.heap.size, 1, none⟩) (.inl rfl) (.slice A4 (k + 1) c4))
          clear s1 s2 s3 s4 F4 hown3 hown4 hg4 hn4 HO2
          go_wp2
          refine NoPanic.normal ?_
          go_wp2
          go_roundw
          case rel => exact ⟨k + 1, A4, c4, by omega, by go_num, HB5.out, HOw.out, FQ.out⟩
          case measure => simp [intOf]; omega
      · obtain rfl : k = m := by omega
        have hall : l.take k = l := List.take_of_length_le (by rw [HM.out]; exact Nat.le_refl _)
        rw [hall] at HI
        have c0' : wr.cell? ⟨w1.heap.size, 0, none⟩ = some (.int .u8 (G : Int)) := (HI.out.1.cell 0).trans rfl
        have c1' : wr.cell? ⟨w1.heap.size, 1, none⟩ = some (.slice A' k c') := (HI.out.1.cell 1).trans rfl
        have HRd := hide (Reads.of_own HI.out.2.1)
        have HMs := hide (show (l.map sw).length = k by rw [List.length_map]; exact HM.out)
        have HLs := hide (show ∀ e ∈ l.map sw, e.1 < 256 ∧ e.2 < 256 from fun e he => by
          obtain ⟨x, hx, rfl⟩ := List.mem_map.1 he
          exact ⟨(HL.out x hx).2, (HL.out x hx).1⟩)
        have HFh := hide (FH.out.trans HI.out.2.2 (fun k h => .inr (by have := S0.out; omega)))
        have HE4 := hide (show EdgesAt wr A1 El from (HE.out.fr ((Fr.refl (fun k => k = w1.heap.size) w1).alloc (.cells #[.int .u8 (G : Int), .slice none 0 0] 24) |>.trans (by rw [hW3]; exact HI.out.2.2) (fun k h => .inl h)) (Nat.le_refl _) (by intro k h; omega)).more (by have := HI.out.2.2.size; have := SH.out; omega))
        clear HI hW3
        go_wp2_with fail
        go_at_call 17
        refine (made_any A' k c' G (l.map sw) _ HRd.out HMs.out (by omega) hG HLs.out).mono ?_
        rintro e w4 ⟨A3, c3, rfl, hc1, hE, hf⟩
        have HF4 := hide (HFh.out.then_ hf)
        have HE5 := hide (HE4.out.up hf)
        have HE3 := hide hE
        obtain ⟨oj1, oj2, oj3⟩ := madeE_ok G (l.map sw)
        rw [HMs.out] at oj3
        clear hf hE
        rw [hNN] at oj2 ⊢
        generalize hEm : madeE G (l.map sw) = Em at *
        have OM1 := hide oj1
        have OM2 := hide oj2
        obtain ⟨q3, hq3⟩ : ∃ q3, Em.length = q3 := ⟨_, rfl⟩
        have HQ3 := hide hq3
        rw [hq3] at oj3 hc1
        rw [hq3]
        clear oj1 oj2 hq3
        go_wp2_with fail
        go_at_call 18
        refine (shards_any A1 n q c1 many El _ HE5.out HQ.out (by omega) OK1.out hn1 hn2 hmany OK2.out).mono ?_
        rintro e w5 ⟨AS, cS, rfl, hS, hf⟩
        obtain ⟨hs1, hs2, hs3⟩ := shN_ok hn1 many
        obtain ⟨b, o, rfl, hbK⟩ := hS.addr
        have HSa := hide hS
        have HF5 := hide (HF4.out.then_ hf)
        have HE6 := hide (HE3.out.up hf)
        clear hS hf
        go_wp2_with fail
        go_at_call 18
        refine (shards_any A3 n q3 c3 many Em _ HE6.out HQ3.out (by omega) OM1.out hn1 hn2 hmany OM2.out).mono ?_
        rintro e w6 ⟨AS2, cS2, rfl, hS, hf⟩
        obtain ⟨b', o', rfl, hbK2⟩ := hS.addr
        generalize hsN : shN n many = s at *
        have HSb := hide hS
        have HSa2 := hide (HSa.out.fr hf (fun k h => h.elim))
        have HF6 := hide (HF5.out.then_ hf)
        have hs0 : ((s : Int) == 0) = false := by simp; omega
        have hss : ((s : Int) != (s : Int)) = false := by simp
        have h56 := hf.size
        clear hS hf
        go_wp2_with fail
        go_at_call 19
        refine (fresh_any n _ (by omega)).mono ?_
        rintro e w7 ⟨pa, ga, pb, gb, rfl, hga, hgb, hT, hf⟩
        have HT := hide hT
        have HG3 := hide hf
        have la := hT.a.row.lt
        have lb := hT.b.row.lt
        clear hT hf
        go_wp2_with fail
        go_at_call 19
        refine (fresh_any n _ (by omega)).mono ?_
        rintro e w8 ⟨pc, gc, pd, gd, rfl, hgc, hgd, hT2, hf⟩
        have H4 := hide (show FourAt w8 pa ga pb gb pc gc pd gd (List.replicate n 0) (List.replicate n 0) (List.replicate n 0) (List.replicate n 0) from ⟨HT.out.still hf, hT2, by omega, by omega, by omega, by omega⟩)
        have HG4 := hide (HG3.out.then_ hf)
        have lc := hT2.a.row.lt
        have ld := hT2.b.row.lt
        have h43 := HG4.out.size
        clear hT2 hf HT HG3
        go_wp2_with fail
        go_at_call 30
        refine (labels.begin_ok H4.out.a (may_n hn1 (by omega) (by simp) (by simp)) 0 (by simp [labels.okArg])).mono ?_
        rintro e w9 ⟨rfl, hT, hf⟩
        rw [List.length_replicate] at hT
        have H5 := hide (H4.out.stepA hT hf)
        have HG5 := hide ((HG4.out.mono (S' := fun k => k = ga ∨ k = gb ∨ k = gc ∨ k = gd) (fun k h => h.elim)).trans hf (fun k h => .inl (by omega)))
        clear hT hf
        go_wp2_with fail
        go_at_call 30
        refine (labels.begin_ok H5.out.c (may_n hn1 (by omega) (by simp) (by simp)) 0 (by simp [labels.okArg])).mono ?_
        rintro e wA ⟨rfl, hT, hf⟩
        rw [List.length_replicate] at hT
        have H6 := hide (H5.out.stepC hT hf)
        have HG6 := hide (HG5.out.trans hf (fun k h => .inl (by omega)))
        clear hT hf H4 H5 HG5 HG4
        go_wp2_with fail
        have HI0 := hide (show FourAt wA pa ga pb gb pc gc pd gd (labels.bX n) (labels.bY n) (labels.bX n) (labels.bY n) from H6.out)
        have lx0 : (labels.bX n).length = n := by simp [labels.bX]
        have ly0 : (labels.bY n).length = n := by simp [labels.bY]
        have HSa3 := hide (HSa2.out.fr HG6.out (fun k h => by omega))
        have HSb3 := hide (HSb.out.fr HG6.out (fun k h => by omega))
        have HFA := hide (HF6.out.trans HG6.out (fun k h => .inr (by have := HF6.out.size; omega)))
        have HTF := hide (fun xs ys => (show (Gr.flat Em).foldl (labels.step xs) ys = (Gr.flat El).foldl (labels.step xs) ys by have := Gr.turned_fold G xs l ys; rwa [hEE, hEm] at this))
        obtain ⟨F, hF⟩ : ∃ F, Gr.flat El = F := ⟨_, rfl⟩
        have hA6 := HG6.out.size
        clear H6
        go_wp2_with fail
        go_loopw [17] (fun i wr => ∃ (r : Nat) (xs ys : List Nat), r ≤ 3 ∧ i = .int .i64 r ∧ xs.length = n ∧ ys.length = n ∧ Hid (FourAt wr pa ga pb gb pc gc pd gd xs ys xs ys ∧ Fr (fun k => k = ga ∨ k = gb ∨ k = gc ∨ k = gd) wA wr)) (fun i _ => 3 - (intOf i).toNat)
        case atStart => exact ⟨0, _, _, by omega, rfl, lx0, ly0, HI0.out, Fr.refl _ _⟩
        case round =>
          obtain ⟨r, xs, ys, hr3, rfl, lx, ly, HI⟩ := hrel
          by_cases hlt : r < 3
          · generalize hwo : wr = wo at *
            have hd4 : decide ((r : Int) < 3) = true := by simp; omega
            go_wp2_with fail
            try simp only [hd4]
            go_loopw [18] (fun i wr => ∃ j : Nat, j ≤ s ∧ i = .int .i64 j ∧ Hid (FourAt wr pa ga pb gb pc gc pd gd xs (accL (labels.step xs) El n s ys (List.range j)) xs (accL (labels.step xs) Em n s ys (List.range j)) ∧ Fr (fun k => k = ga ∨ k = gb ∨ k = gc ∨ k = gd) wo wr)) (fun i _ => s - (intOf i).toNat)
            case atStart => exact ⟨0, by omega, rfl, HI.out.1, Fr.refl _ _⟩
            case round =>
              obtain ⟨j, hj, rfl, HJ⟩ := hrel
              by_cases hjs : j < s
              · have HSr := hide (HSa3.out.fr (HI.out.2.trans HJ.out.2 (fun k h => .inl h)) (fun k h => by omega))
                have HSq := hide (HSb3.out.fr (HI.out.2.trans HJ.out.2 (fun k h => .inl h)) (fun k h => by omega))
                obtain ⟨Ai, vs', x0, x1, x2, hst⟩ := HSr.out.at hjs
                have HST := hide hst
                have HFT := hide (Gr.shard_fits El n s j (by omega) hjs (fun e he => (OK2.out e he).2.1))
                have HFM := hide (Gr.shard_fits Em n s j (by omega) hjs (fun e he => (OM2.out e he).2.1))
                have lA : (accL (labels.step xs) El n s ys (List.range j)).length = n := by rw [accL_len _ (labels.step_len xs)]; exact ly
                have lC : (accL (labels.step xs) Em n s ys (List.range j)).length = n := by rw [accL_len _ (labels.step_len xs)]; exact ly
                have hcut := Gr.cut_le (n := n) (s := s) (k := j + 1) (by omega) (by omega)
                clear hst
                go_wp2_with fail
                go_at_call 27
                refine (labels.shard_ok HJ.out.1.a (may_n hn1 (by omega) lx lA) (fun w' hf => HST.out _ w' hf (fun k h => by omega)) (by rw [lx]; exact HFT.out) (r : Int) (by omega)).mono ?_
                rintro e w8 ⟨rfl, hT, hf⟩
                have H8 := hide (HJ.out.1.stepA hT (hf.mono (fun k h => .inr h)))
                have HF8 := hide (HJ.out.2.trans hf (fun k h => .inl (by omega)))
                have HSr8 := hide (HSq.out.fr hf (fun k h => by omega))
                obtain ⟨Aj, vs2, q0, q1, q2, hst2⟩ := HSr8.out.at hjs
                have HST2 := hide hst2
                clear hT hf hst2 x0 x1 x2
                go_wp2_with fail
                go_at_call 27
                refine (labels.shard_ok H8.out.c (may_n hn1 (by omega) lx lC) (fun w' hf => HST2.out _ w' hf (fun k h => by omega)) (by rw [lx]; exact HFM.out) (r : Int) (by omega)).mono ?_
                rintro e w9 ⟨rfl, hT, hf⟩
                have H9 := hide (show FourAt w9 pa ga pb gb pc gc pd gd xs (accL (labels.step xs) El n s ys (List.range (j + 1))) xs (accL (labels.step xs) Em n s ys (List.range (j + 1))) from by
                  rw [accL_range, accL_range]
                  exact H8.out.stepC hT (hf.mono (fun k h => .inr h)))
                have HF9 := hide (HF8.out.trans hf (fun k h => .inl (by omega)))
                clear hT hf q0 q1 q2
                go_wp2
                try simp only [hd4]
                go_roundw
                case rel => exact ⟨j + 1, by omega, by go_num, H9.out, HF9.out⟩
                case measure => simp [intOf]; omega
              · obtain rfl : j = s := by omega
                have hAl := accL_all (labels.step xs) (Gr.labels_comm xs) El n j (by omega) (fun e he => (OK2.out e he).1) ys (List.range j) (List.Perm.refl _)
                have hCl := accL_all (labels.step xs) (Gr.labels_comm xs) Em n j (by omega) (fun e he => (OM2.out e he).1) ys (List.range j) (List.Perm.refl _)
                rw [HTF.out] at hCl
                rw [hF] at hAl hCl
                have HJ4 := HJ.out.1
                rw [hAl, hCl] at HJ4
                have HK := hide HJ4
                have HKF := hide (HI.out.2.trans HJ.out.2 (fun k h => .inl h))
                have lA : (F.foldl (labels.step xs) ys).length = n := by rw [foldl_len (labels.step_len xs)]; exact ly
                clear hAl hCl HJ4 HJ HI
                generalize F.foldl (labels.step xs) ys = ac at *
                obtain ⟨d, hd⟩ : ∃ d, labels.cDone 0 xs ac = d := ⟨_, rfl⟩
                have hdd : (d != d) = false := by simp
                obtain ⟨xs', hx'⟩ : ∃ x, labels.cXs 0 xs ac = x := ⟨_, rfl⟩
                obtain ⟨ys', hy'⟩ : ∃ y, labels.cYs 0 xs ac = y := ⟨_, rfl⟩
                have lx' : xs'.length = n := by rw [← hx']; simp [labels.cXs, lx]
                have ly' : ys'.length = n := by rw [← hy']; simp [labels.cYs, lx]
                go_wp2_with fail
                go_at_call 28
                refine (labels.commit_ok HK.out.a (may_n hn1 (by omega) lx lA) 0 (r : Int)).mono ?_
                rintro e w8 ⟨rfl, hT, hf⟩
                rw [hx', hy'] at hT
                rw [hd]
                have H8 := hide (HK.out.stepA hT hf)
                have HF8 := hide (HKF.out.trans hf (fun k h => .inl (by omega)))
                clear hT hf HK HKF
                go_wp2_with fail
                go_at_call 28
                refine (labels.commit_ok H8.out.c (may_n hn1 (by omega) lx lA) 0 (r : Int)).mono ?_
                rintro e w9 ⟨rfl, hT, hf⟩
                rw [hx', hy'] at hT
                rw [hd]
                have H9 := hide (H8.out.stepC hT hf)
                have HF9 := hide (HF8.out.trans hf (fun k h => .inl (by omega)))
                clear hT hf H8 HF8 hx' hy' hd
                go_wp2_with fail
                go_at_call 26
                refine (read_any H9.out.a.a).mono ?_
                rintro e wx ⟨Ax, cx, rfl, hr, hf⟩
                rw [lx'] at hr ⊢
                have H10 := hide (H9.out.still hf)
                have HF10 := hide (HF9.out.then_ hf)
                have HX := hide hr
                clear hr hf H9 HF9
                go_wp2_with fail
                go_at_call 26
                refine (read_any H10.out.c.a).mono ?_
                rintro e wy ⟨Ay, cy, rfl, hr, hf⟩
                rw [lx'] at hr ⊢
                have H11 := hide (H10.out.still hf)
                have HF11 := hide (HF10.out.then_ hf)
                have HX11 := hide (HX.out.up hf)
                have HY := hide hr
                clear hr hf H10 HF10 HX
                go_wp2_with fail
                go_at_call 29
                refine (same_eq Ax Ay n cx n cy _ xs' _ HX11.out HY.out (by omega)).mono ?_
                rintro e wz ⟨rfl, hf⟩
                have H12 := hide (H11.out.still hf)
                have HF12 := hide (HF11.out.then_ hf)
                clear hf
                go_wp2
                go_roundw
                case rel => exact ⟨r + 1, xs', ys', by omega, by go_num, lx', ly', H12.out, HF12.out⟩
                case measure => simp [intOf]; omega
          · obtain rfl : r = 3 := by omega
            have HFin := hide (HFA.out.trans HI.out.2 (fun k h => .inr (by have := HF6.out.size; omega)))
            go_wp2_with fail
            go_at_call 25
            refine (k19.ends_true _).mono ?_
            rintro e w8 ⟨rfl, hf⟩
            have HFF := hide (HFin.out.then_ hf)
            clear hf
            go_wp2
            go_ret
            exact ⟨rfl, HFF.out⟩
end Go.Proofs.Ytjdbjahgimlhbaa.turned
