/- Parts of the proof of KernelsTruth: no conditions of their own. -/
import Derived.Test.YtjdbjahgimlhbaaGreatKernelsTruthPk15
import Derived.Test.YtjdbjahgimlhbaaGreatKernelsTruthPk2
import Derived.Test.YtjdbjahgimlhbaaGreatKernelsTruthPk5
import Derived.Test.YtjdbjahgimlhbaaGreatKernelsTruthPk16
import Derived.Test.YtjdbjahgimlhbaaGreatKernelsTruthPk7
import Derived.Test.YtjdbjahgimlhbaaGreatKernelsTruthPk10
import Derived.Test.YtjdbjahgimlhbaaGreatKernelsTruthPk11
import Derived.Test.YtjdbjahgimlhbaaGreatKernelsTruthPk0
import Derived.Laws.CopyOwn
section
set_option linter.unusedVariables false
set_option maxRecDepth 100000
namespace Go.Proofs.YtjdbjahgimlhbaaGreat
open Go.RowKit
open Gr (E)

theorem fourD {w : World} {t1 t2 t3 t4 : TypeId} {c1 c2 c3 c4 : Array Value} : Fr (fun _ => False) w ((((w.alloc (.cells c1 t1)).alloc (.cells c2 t2)).alloc (.cells c3 t3)).alloc (.cells c4 t4)).drew ∧ Blk ((((w.alloc (.cells c1 t1)).alloc (.cells c2 t2)).alloc (.cells c3 t3)).alloc (.cells c4 t4)).drew (w.heap.size + 1) t2 c2 ∧
    Blk ((((w.alloc (.cells c1 t1)).alloc (.cells c2 t2)).alloc (.cells c3 t3)).alloc (.cells c4 t4)).drew (w.heap.size + 1 + 1) t3 c3 ∧ Blk ((((w.alloc (.cells c1 t1)).alloc (.cells c2 t2)).alloc (.cells c3 t3)).alloc (.cells c4 t4)).drew (w.heap.size + 1 + 1 + 1) t4 c4 ∧ Blk ((((w.alloc (.cells c1 t1)).alloc (.cells c2 t2)).alloc (.cells c3 t3)).alloc (.cells c4 t4)).drew w.heap.size t1 c1 := by
  obtain ⟨f, b1, b2, b3, b4⟩ := four (w := w) (t1 := t1) (t2 := t2) (t3 := t3) (t4 := t4) (c1 := c1) (c2 := c2) (c3 := c3) (c4 := c4) _ rfl
  exact ⟨f.drew, b2, b3, b4, b1⟩
theorem own_ne_blk {w : World} {H size k g : Nat} {e t : TypeId} {v : Value} {ys : List Value} {cs : Array Value} (h : w.ownsRow H e size v k ys) (hb : Blk w g t cs) (hne : t ≠ e) : v.ownBlock ≠ some g := by
  intro e'
  rcases h.2 with ⟨rfl, _⟩ | ⟨g', cap, cur, rfl, _, hg, _⟩
  · simp [Value.ownBlock] at e'
  · obtain rfl : g' = g := by simpa [Value.ownBlock] using e'
    rw [show w.heap[g']? = _ from hb] at hg
    injection hg with hg
    injection hg with _ h2 _
    exact hne h2
/-- a row's cell set, of a table of lists by vertex -/
theorem map_set {n i : Nat} (f : Nat → List Nat) (x : List Nat) : ((List.range n).map f).set i x = (List.range n).map fun u => if u = i then x else f u := by
  apply List.ext_getElem?
  intro j
  by_cases hj : j < n
  · by_cases hji : i = j
    · subst hji
      rw [List.getElem?_set_self (by simpa using hj), List.getElem?_map, List.getElem?_range hj]
      simp
    · rw [List.getElem?_set_ne hji, List.getElem?_map, List.getElem?_map, List.getElem?_range hj]
      simp [Ne.symm hji]
  · rw [List.getElem?_eq_none (by simp; omega), List.getElem?_eq_none (by simp; omega)]
theorem map_at {n i : Nat} (f : Nat → List Nat) (h : i < n) : ((List.range n).map f)[i]? = some (f i) := by
  rw [List.getElem?_map, List.getElem?_range h]; rfl
theorem outs_snoc2 (l : List E) (x : E) (u : Nat) : Gr.outs (l ++ [x]) u = if u = x.1 then Gr.outs l x.1 ++ [x.2] else Gr.outs l u := by
  unfold Gr.outs
  rw [List.filter_append, List.map_append]
  by_cases h : u = x.1
  · subst h; simp
  · simp [h, Ne.symm h]
theorem alls_snoc (l : List E) (x : E) (hx : x.1 ≠ x.2) (u : Nat) : Gr.alls (l ++ [x]) u = if u = x.2 then Gr.alls l x.2 ++ [x.1] else if u = x.1 then Gr.alls l x.1 ++ [x.2] else Gr.alls l u := by
  unfold Gr.alls
  rw [List.flatMap_append]
  by_cases h : u = x.2
  · subst h; simp [hx]
  · by_cases h2 : u = x.1
    · subst h2; simp [h, Ne.symm h]
    · simp [h, h2, Ne.symm h, Ne.symm h2]
theorem outs_len_le (l : List E) (u : Nat) : (Gr.outs l u).length ≤ l.length := by
  unfold Gr.outs
  rw [List.length_map]
  exact List.length_filter_le _ _
theorem alls_len_le : ∀ (l : List E) (u : Nat), (Gr.alls l u).length ≤ 2 * l.length
  | [], u => by simp [Gr.alls]
  | e :: l, u => by
    have ih := alls_len_le l u
    have h : Gr.alls (e :: l) u = ((if e.1 = u then [e.2] else []) ++ (if e.2 = u then [e.1] else [])) ++ Gr.alls l u := by unfold Gr.alls; rw [List.flatMap_cons]
    rw [h, List.length_append, List.length_append, List.length_cons]
    have a : (if e.1 = u then [e.2] else []).length ≤ 1 := by split <;> simp
    have b : (if e.2 = u then [e.1] else []).length ≤ 1 := by split <;> simp
    omega
theorem inin_info : (Tryz.prog.info? 37).map (fun i => (i.zero, i.size, i.bytes)) = some (some (.slice none 0 0), 1, 24) := by kernel_rfl
set_option maxHeartbeats 4000000 in
theorem trof_ok (A : Option Addr) (n m c : Nat) (l : List E) (w : World) (h : EdgesAt w A l) (hm : l.length = m) (hmx : m ≤ 4000) (hn : 1 ≤ n) (hn2 : n ≤ 256) (hl : ∀ e ∈ l, e.1 < n ∧ e.2 < n ∧ e.1 ≠ e.2) :
    Calls Tryz.prog 33 #[.int .i64 (n : Int), .slice A m c] w fun e w' => ∃ H B o a, e = .returned (.agg #[.int .i64 (n : Int), .slice (some ⟨o, 0, none⟩) n n, .slice (some ⟨a, 0, none⟩) n n]) ∧
      GAt w' H B o a n ((List.range n).map (Gr.outs l)) ((List.range n).map (Gr.alls l)) ∧ Fr (fun _ => False) w w' := by
  obtain ⟨i0, hi, hz0, hz1, hz2⟩ := info_parts inin_info
  have hmk := fun w => run_make_rowN (P := Tryz.prog) 41 37 i0 _ rfl hi hz0 .i64 .i64 n n (Nat.le_refl _) (by rw [hz2]; omega) (by omega) w
  rw [hz1] at hmk
  go_enter Tryz.func33, Tryz.ntmps33
  go_wp2_with fail
  refine wp_mono (Q := fun e a' W' => e = .normal ∧ ∃ B o a : Nat, (B < W'.heap.size ∧ o < W'.heap.size ∧ a < W'.heap.size ∧ w.heap.size < B ∧ w.heap.size < o ∧ w.heap.size < a ∧ B ≠ o ∧ B ≠ a ∧ o ≠ a ∧ Blk W' B 96 #[.int .i64 (n : Int), .slice (some ⟨o, 0, none⟩) n n, .slice (some ⟨a, 0, none⟩) n n] ∧
      Blk W' o 37 (madeCells #[.slice none 0 0] n) ∧ Blk W' a 37 (madeCells #[.slice none 0 0] n) ∧ Blk W' w.heap.size 96 #[.int .i64 0, .slice none 0 0, .slice none 0 0] ∧ Fr (fun _ => False) w W') ∧ a' = { tmps := #[.int .i64 (n : Int), .slice A m c, undef, undef, .pointer (some ⟨w.heap.size, 0, none⟩), .pointer (some ⟨B, 0, none⟩), undef, undef, .int .i64 (n : Int), .int .i64 (n : Int), .slice (some ⟨o, 0, none⟩) n n, .int .i64 (n : Int), .slice (some ⟨a, 0, none⟩) n n, .agg #[.int .i64 (n : Int), .slice (some ⟨o, 0, none⟩) n n, .slice (some ⟨a, 0, none⟩) n n], undef, undef, undef, undef, undef, undef, undef, undef, undef, undef, undef, undef, undef, undef, undef, undef, undef, undef, undef, undef, undef, undef, undef, undef, undef, undef, undef, undef, undef, undef, undef, undef, undef, undef, undef, undef, undef, undef, undef, undef, undef, undef, undef, undef, undef, undef, undef, undef, undef, undef, undef, undef, undef], defers := [] }) ?_ ?_
  · go_region
    all_goals
      refine ⟨rfl, _, _, _, ⟨?_, ?_, ?_, ?_, ?_, ?_, ?_, ?_, ?_, ?_, ?_, ?_, fourD.2.2.2.2, fourD.1⟩, rfl⟩
      any_goals (first | exact fourD.2.1 | exact fourD.2.2.1 | exact fourD.2.2.2.1)
      any_goals (first | (simp; done) | (simp; omega) | omega)
  · rintro e a' W1 ⟨rfl, B, o, a, ⟨lB, lo, la, gB, go, ga, n1, n2, n3, kB, ko, ka, kz, hf⟩, rfl⟩
    rw [madeCells_one] at ko ka
    have HG := hide (GAt.new (H := W1.heap.size) lB lo la n1 n2 n3 kB ko ka)
    have HF := hide hf
    have HY := hide kz
    obtain ⟨H, hH⟩ : ∃ H, W1.heap.size = H := ⟨_, rfl⟩
    rw [hH] at HG lB lo la
    obtain ⟨i1, hj, hj0, hj1, hj2⟩ := info_parts int_info
    have HE := hide h
    have HM := hide hm
    have HL := hide hl
    clear h hm hl kB ko ka kz hf hmk hi hz0 hz1 hz2
    go_wp2_with fail
    go_loopw [16] (fun i wr => ∃ k : Nat, k ≤ m ∧ i = .int .i64 (k : Int) ∧ Hid (GAt wr H B o a n ((List.range n).map (Gr.outs (l.take k))) ((List.range n).map (Gr.alls (l.take k))) ∧ Fr (fun _ => False) w wr ∧ H ≤ wr.heap.size ∧ Blk wr w.heap.size 96 #[.int .i64 0, .slice none 0 0, .slice none 0 0])) (fun i _ => m - (intOf i).toNat)
    case atStart =>
      refine ⟨0, by omega, rfl, ?_, HF.out, by omega, HY.out⟩
      have e1 : (List.range n).map (Gr.outs (l.take 0)) = List.replicate n [] := by
        have h : Gr.outs (l.take 0) = fun _ => [] := by funext u; simp [Gr.outs]
        rw [h, List.map_const']; simp
      have e2 : (List.range n).map (Gr.alls (l.take 0)) = List.replicate n [] := by
        have h : Gr.alls (l.take 0) = fun _ => [] := by funext u; simp [Gr.alls]
        rw [h, List.map_const']; simp
      rw [e1, e2]
      exact HG.out
    case round =>
      obtain ⟨k, hk, rfl, HI⟩ := hrel
      by_cases hlt : k < m
      · have lk : k < l.length := by rw [HM.out]; exact hlt
        obtain ⟨b2, o2, rfl, hb2, hr⟩ := EdgesAt.cells (k := k) (HE.out.up HI.out.2.1) lk
        have htk : l.take (k + 1) = l.take k ++ [l[k]] := List.take_succ_eq_append_getElem lk
        obtain ⟨x1n, x2n, xne⟩ := HL.out _ (List.getElem_mem lk)
        have y0 := hr 0 _ rfl
        have y1 := hr 1 _ rfl
        rw [Nat.mul_comm 2 k, Nat.add_zero] at y0
        rw [Nat.mul_comm 2 k] at y1
        generalize l[k]'lk = x at *
        have HT := hide htk
        clear hr htk
        obtain ⟨WW1, hWW1⟩ : ∃ WW1, WW1 = wr.alloc (.cells #[.int .i64 (x.1 : Int), .int .i64 (x.2 : Int)] 59) := ⟨_, rfl⟩
        have F5 : Fr (fun _ => False) wr WW1 := by rw [hWW1]; exact (Fr.refl _ _).alloc _
        have HG1 := hide (HI.out.1.up F5)
        have HF1 := hide (HI.out.2.1.then_ F5)
        have HX1 := hide (show Blk WW1 wr.heap.size 59 #[.int .i64 (x.1 : Int), .int .i64 (x.2 : Int)] by rw [hWW1]; exact Blk.new _ _ _)
        have HZ := hide hWW1
        have sz1 : H ≤ WW1.heap.size := Nat.le_trans HI.out.2.2.1 F5.size
        have szr := HI.out.2.2.1
        have HY1 := hide (HI.out.2.2.2.fr F5 id)
        obtain ⟨eb, heb⟩ : ∃ eb, wr.heap.size = eb := ⟨_, rfl⟩
        rw [heb] at HX1 szr
        have c0 : (0 : Int) ≤ (x.1 : Int) := by omega
        have c1 : (x.1 : Int) < (n : Int) := by omega
        have c2 : (0 : Int) ≤ (x.2 : Int) := by omega
        have c3 : (x.2 : Int) < (n : Int) := by omega
        have d0 : (0 : Int) ≤ (k : Int) := by omega
        have d1 : (k : Int) < (m : Int) := by omega
        clear F5 hWW1
        go_wp2_with fail
        rw [heb] at *
        obtain ⟨A1, c1, hv3, ho3⟩ := HG1.out.outRow (i := x.1) (l := Gr.outs (l.take k) x.1) (map_at _ x1n)
        have HL1 := hide ho3.lt
        have HN1 := hide (own_ne_blk ho3 HX1.out (by decide))
        obtain ⟨q1, hq1⟩ : ∃ q, (Gr.outs (l.take k) x.1).length = q := ⟨_, rfl⟩
        rw [hq1] at hv3 ho3 HL1 HN1
        have hqb1 : q1 ≤ 8000 := by
          have h1 := outs_len_le (l.take k) x.1
          have h2 : (l.take k).length ≤ l.length := by simp; omega
          have h3 := HM.out
          omega
        have HV1 := hide hv3
        have HO1 := hide ho3
        have HB1 := hide (HG1.out.lB)
        have Hg1 := hide (HG1.out.g)
        have lt1 : o < H := HG1.out.lo
        have lB1 : B < H := HG1.out.lB
        have HP1 := hide (fun W (h : Fr (fun k => (Value.slice A1 q1 c1).ownBlock = some k) WW1 W) => show W.cell? ⟨B, 1, none⟩ = some (.slice (some ⟨o, 0, none⟩) n n) ∧ W.cell? ⟨eb, 0, none⟩ = some (.int .i64 (x.1 : Int)) ∧ W.cell? ⟨eb, 1, none⟩ = some (.int .i64 (x.2 : Int)) ∧ W.cell? ⟨o, x.1, none⟩ = some (.slice A1 q1 c1) ∧ Fr (fun k => (Value.slice A1 q1 c1).ownBlock = some k) WW1 W from
          ⟨h.cell ((Hg1.out.cell 1).trans rfl) (fun e => by have := (HL1.out _ e).1; simp only at this; omega), h.cell ((HX1.out.cell 0).trans rfl) (fun e => HN1.out e), h.cell ((HX1.out.cell 1).trans rfl) (fun e => HN1.out e), h.cell HV1.out (fun e => by have := (HL1.out _ e).1; simp only at this; omega), h⟩)
        clear hv3 ho3
        rw [← HZ.out]
        refine wp_region_phased 12 2 1 (fun W => W.cell? ⟨B, 1, none⟩ = some (.slice (some ⟨o, 0, none⟩) n n) ∧ W.cell? ⟨eb, 0, none⟩ = some (.int .i64 (x.1 : Int)) ∧ W.cell? ⟨eb, 1, none⟩ = some (.int .i64 (x.2 : Int)) ∧ W.cell? ⟨o, x.1, none⟩ = some (.slice A1 q1 c1) ∧ Fr (fun k => (Value.slice A1 q1 c1).ownBlock = some k) WW1 W) (by kernel_rfl) (by kernel_rfl) (HP1.out _ (Fr.refl _ _).drew) ?_
        simp only [List.take_succ_cons, List.take_zero, List.drop_succ_cons, List.drop_zero]
        iterate 12
          refine wpReads_cons rfl ?_ (fun W hS => ?_) ?_
          rotate_left
          · (obtain ⟨s0, s1, s2, s3, s4⟩ := hS; go_simp; try with_reducible rfl)
          simp only [Act.put, List.setIfInBounds_toArray, List.set_cons_zero, List.set_cons_succ]
        refine (show wpMid _ _ _ _ _ _ _ _ from ?_)
        simp only [wpMid]
        go_wp2
        refine midQ_ok (HP1.out _ ((Fr.refl _ _).drew.alloc _)) ?_
        have hown3 : WW1.drew.ownsRow H 3 1 (.slice A1 q1 c1) q1 (ivals (Gr.outs (l.take k) x.1)) := HO1.out
        rw [show (WW1.alloc (.cells #[.int .i64 (x.2 : Int)] 3)).drew = WW1.drew.alloc (.cells #[.int .i64 (x.2 : Int)] 3) from rfl]
        refine wpList_append_box WW1.drew _ _ rfl (.tmp 29) (.tmp 32) _ rfl H 3 i1 _ 1 8 Tryz.underlying37 hj hj0 hj1 hj2 rfl (by decide) _ _ _ rfl hown3 rfl rfl ?d1 ?d2 ?d3 ?d4 ?d5
        case d1 => simp [Value.oneCell']
        case d2 => unfold maxLen; omega
        case d3 => omega
        case d4 => show H ≤ WW1.heap.size; omega
        case d5 =>
          intro v4 w4 hown4 hg4 hn4
          obtain ⟨A4, c4, rfl⟩ := Reads.own_val hown4
          have F4 : Fr (fun k => (Value.slice A1 q1 c1).ownBlock = some k) WW1 w4 := ((Fr.refl _ WW1).drew).trans (Fr.of_grown hg4) (fun k hk => .inl hk)
          refine midQ_ok (HP1.out _ F4) ?_
          obtain ⟨s0, s1, s2, s3, s4⟩ := HP1.out _ F4
          have hBn : ¬ ((Value.slice A1 q1 c1).ownBlock = some o) := fun e => by have := (HL1.out _ e).1; omega
          have f4 : w4.frozen? ⟨o, x.1, none⟩ = false := by rw [F4.frozen (a := ⟨o, x.1, none⟩) HG1.out.ltO hBn]; exact HG1.out.frozenO x.1
          have HG2 := hide (GAt.turnO (w' := w4) (v' := .slice A4 (q1 + 1) c4) (l' := Gr.outs (l.take k) x.1 ++ [x.2]) HG1.out (i := x.1) (map_at _ x1n) HV1.out
            ⟨hg4.os, hg4.tape, hg4.output, hg4.size, hg4.block⟩ (by
              have h := hown4
              rw [show (Gr.outs (l.take k) x.1 ++ [x.2]).length = q1 + 1 by simp [hq1], show ivals (Gr.outs (l.take k) x.1 ++ [x.2]) = ivals (Gr.outs (l.take k) x.1) ++ [.int .i64 (x.2 : Int)] by simp [ivals]]
              exact h) (by
              rcases hn4 with h | h
              · exact .inl h
              · exact .inr ⟨_, h, Nat.le_succ _⟩))
          have HF2 := hide ((HF1.out.trans F4 (fun k h => .inr (by have := (HL1.out _ h).1; omega))).setCell (p := ⟨o, x.1, none⟩) (.inr (by show w.heap.size ≤ o; omega)) (.slice A4 (q1 + 1) c4))
          have HX2 := hide (((HX1.out.fr F4 (fun e => HN1.out e)).far (p := ⟨o, x.1, none⟩) (by show eb ≠ o; omega) (.slice A4 (q1 + 1) c4)))
          have HY2 := hide ((HY1.out.fr F4 (fun e => by have := (HL1.out _ e).1; omega)).far (p := ⟨o, x.1, none⟩) (by show w.heap.size ≠ o; omega) (.slice A4 (q1 + 1) c4))
          have sz2 : H ≤ (w4.setCell ⟨o, x.1, none⟩ (.slice A4 (q1 + 1) c4)).heap.size := by have h1 := F4.size; simp [World.setCell]; omega
          clear s0 s1 s2 s4 F4 hown3 hown4 hg4 hn4 HP1 HG1 HF1 HX1 HL1 HN1 HV1 HO1 HY1
          go_wp2
          refine NoPanic.normal ?_
          generalize hWn1 : w4.setCell ⟨o, x.1, none⟩ (.slice A4 (q1 + 1) c4) = WW2 at *
          clear hWn1 s3 f4
          obtain ⟨A2, c2, hv3, ho3⟩ := HG2.out.allRow (i := x.1) (l := Gr.alls (l.take k) x.1) (map_at _ x1n)
          have HL2 := hide ho3.lt
          have HN2 := hide (own_ne_blk ho3 HX2.out (by decide))
          obtain ⟨q2, hq2⟩ : ∃ q, (Gr.alls (l.take k) x.1).length = q := ⟨_, rfl⟩
          rw [hq2] at hv3 ho3 HL2 HN2
          have hqb2 : q2 ≤ 8000 := by
            have h1 := alls_len_le (l.take k) x.1
            have h2 : (l.take k).length ≤ l.length := by simp; omega
            have h3 := HM.out
            omega
          have HV2 := hide hv3
          have HO2 := hide ho3
          have HB2 := hide (HG2.out.lB)
          have Hg2 := hide (HG2.out.g)
          have lt2 : a < H := HG2.out.la
          have lB2 : B < H := HG2.out.lB
          have HP2 := hide (fun W (h : Fr (fun k => (Value.slice A2 q2 c2).ownBlock = some k) WW2 W) => show W.cell? ⟨B, 2, none⟩ = some (.slice (some ⟨a, 0, none⟩) n n) ∧ W.cell? ⟨eb, 0, none⟩ = some (.int .i64 (x.1 : Int)) ∧ W.cell? ⟨eb, 1, none⟩ = some (.int .i64 (x.2 : Int)) ∧ W.cell? ⟨a, x.1, none⟩ = some (.slice A2 q2 c2) ∧ Fr (fun k => (Value.slice A2 q2 c2).ownBlock = some k) WW2 W from
            ⟨h.cell ((Hg2.out.cell 2).trans rfl) (fun e => by have := (HL2.out _ e).1; simp only at this; omega), h.cell ((HX2.out.cell 0).trans rfl) (fun e => HN2.out e), h.cell ((HX2.out.cell 1).trans rfl) (fun e => HN2.out e), h.cell HV2.out (fun e => by have := (HL2.out _ e).1; simp only at this; omega), h⟩)
          clear hv3 ho3
          go_wp2_with fail
          refine wp_region_phased 12 2 1 (fun W => W.cell? ⟨B, 2, none⟩ = some (.slice (some ⟨a, 0, none⟩) n n) ∧ W.cell? ⟨eb, 0, none⟩ = some (.int .i64 (x.1 : Int)) ∧ W.cell? ⟨eb, 1, none⟩ = some (.int .i64 (x.2 : Int)) ∧ W.cell? ⟨a, x.1, none⟩ = some (.slice A2 q2 c2) ∧ Fr (fun k => (Value.slice A2 q2 c2).ownBlock = some k) WW2 W) (by kernel_rfl) (by kernel_rfl) (HP2.out _ (Fr.refl _ _).drew) ?_
          simp only [List.take_succ_cons, List.take_zero, List.drop_succ_cons, List.drop_zero]
          iterate 12
            refine wpReads_cons rfl ?_ (fun W hS => ?_) ?_
            rotate_left
            · (obtain ⟨s0, s1, s2, s3, s4⟩ := hS; go_simp; try with_reducible rfl)
            simp only [Act.put, List.setIfInBounds_toArray, List.set_cons_zero, List.set_cons_succ]
          refine (show wpMid _ _ _ _ _ _ _ _ from ?_)
          simp only [wpMid]
          go_wp2
          refine midQ_ok (HP2.out _ ((Fr.refl _ _).drew.alloc _)) ?_
          have hown3 : WW2.drew.ownsRow H 3 1 (.slice A2 q2 c2) q2 (ivals (Gr.alls (l.take k) x.1)) := HO2.out
          rw [show (WW2.alloc (.cells #[.int .i64 (x.2 : Int)] 3)).drew = WW2.drew.alloc (.cells #[.int .i64 (x.2 : Int)] 3) from rfl]
          refine wpList_append_box WW2.drew _ _ rfl (.tmp 44) (.tmp 47) _ rfl H 3 i1 _ 1 8 Tryz.underlying37 hj hj0 hj1 hj2 rfl (by decide) _ _ _ rfl hown3 rfl rfl ?d1 ?d2 ?d3 ?d4 ?d5
          case d1 => simp [Value.oneCell']
          case d2 => unfold maxLen; omega
          case d3 => omega
          case d4 => show H ≤ WW2.heap.size; omega
          case d5 =>
            intro v4 w4 hown4 hg4 hn4
            obtain ⟨A4, c4, rfl⟩ := Reads.own_val hown4
            have F4 : Fr (fun k => (Value.slice A2 q2 c2).ownBlock = some k) WW2 w4 := ((Fr.refl _ WW2).drew).trans (Fr.of_grown hg4) (fun k hk => .inl hk)
            refine midQ_ok (HP2.out _ F4) ?_
            obtain ⟨s0, s1, s2, s3, s4⟩ := HP2.out _ F4
            have hBn : ¬ ((Value.slice A2 q2 c2).ownBlock = some a) := fun e => by have := (HL2.out _ e).1; omega
            have f4 : w4.frozen? ⟨a, x.1, none⟩ = false := by rw [F4.frozen (a := ⟨a, x.1, none⟩) HG2.out.ltA hBn]; exact HG2.out.frozenA x.1
            have HG3 := hide (GAt.turnA (w' := w4) (v' := .slice A4 (q2 + 1) c4) (l' := Gr.alls (l.take k) x.1 ++ [x.2]) HG2.out (i := x.1) (map_at _ x1n) HV2.out
              ⟨hg4.os, hg4.tape, hg4.output, hg4.size, hg4.block⟩ (by
                have h := hown4
                rw [show (Gr.alls (l.take k) x.1 ++ [x.2]).length = q2 + 1 by simp [hq2], show ivals (Gr.alls (l.take k) x.1 ++ [x.2]) = ivals (Gr.alls (l.take k) x.1) ++ [.int .i64 (x.2 : Int)] by simp [ivals]]
                exact h) (by
                rcases hn4 with h | h
                · exact .inl h
                · exact .inr ⟨_, h, Nat.le_succ _⟩))
            have HF3 := hide ((HF2.out.trans F4 (fun k h => .inr (by have := (HL2.out _ h).1; omega))).setCell (p := ⟨a, x.1, none⟩) (.inr (by show w.heap.size ≤ a; omega)) (.slice A4 (q2 + 1) c4))
            have HX3 := hide (((HX2.out.fr F4 (fun e => HN2.out e)).far (p := ⟨a, x.1, none⟩) (by show eb ≠ a; omega) (.slice A4 (q2 + 1) c4)))
            have HY3 := hide ((HY2.out.fr F4 (fun e => by have := (HL2.out _ e).1; omega)).far (p := ⟨a, x.1, none⟩) (by show w.heap.size ≠ a; omega) (.slice A4 (q2 + 1) c4))
            have sz3 : H ≤ (w4.setCell ⟨a, x.1, none⟩ (.slice A4 (q2 + 1) c4)).heap.size := by have h1 := F4.size; simp [World.setCell]; omega
            clear s0 s1 s2 s4 F4 hown3 hown4 hg4 hn4 HP2 HG2 HF2 HX2 HL2 HN2 HV2 HO2 HY2
            go_wp2
            refine NoPanic.normal ?_
            generalize hWn2 : w4.setCell ⟨a, x.1, none⟩ (.slice A4 (q2 + 1) c4) = WW3 at *
            clear hWn2 s3 f4
            obtain ⟨A3, c3, hv3, ho3⟩ := HG3.out.allRow (i := x.2) (l := Gr.alls (l.take k) x.2) (by rw [List.getElem?_set_ne xne]; exact map_at _ x2n)
            have HL3 := hide ho3.lt
            have HN3 := hide (own_ne_blk ho3 HX3.out (by decide))
            obtain ⟨q3, hq3⟩ : ∃ q, (Gr.alls (l.take k) x.2).length = q := ⟨_, rfl⟩
            rw [hq3] at hv3 ho3 HL3 HN3
            have hqb3 : q3 ≤ 8000 := by
              have h1 := alls_len_le (l.take k) x.2
              have h2 : (l.take k).length ≤ l.length := by simp; omega
              have h3 := HM.out
              omega
            have HV3 := hide hv3
            have HO3 := hide ho3
            have HB3 := hide (HG3.out.lB)
            have Hg3 := hide (HG3.out.g)
            have lt3 : a < H := HG3.out.la
            have lB3 : B < H := HG3.out.lB
            have HP3 := hide (fun W (h : Fr (fun k => (Value.slice A3 q3 c3).ownBlock = some k) WW3 W) => show W.cell? ⟨B, 2, none⟩ = some (.slice (some ⟨a, 0, none⟩) n n) ∧ W.cell? ⟨eb, 0, none⟩ = some (.int .i64 (x.1 : Int)) ∧ W.cell? ⟨eb, 1, none⟩ = some (.int .i64 (x.2 : Int)) ∧ W.cell? ⟨a, x.2, none⟩ = some (.slice A3 q3 c3) ∧ Fr (fun k => (Value.slice A3 q3 c3).ownBlock = some k) WW3 W from
              ⟨h.cell ((Hg3.out.cell 2).trans rfl) (fun e => by have := (HL3.out _ e).1; simp only at this; omega), h.cell ((HX3.out.cell 0).trans rfl) (fun e => HN3.out e), h.cell ((HX3.out.cell 1).trans rfl) (fun e => HN3.out e), h.cell HV3.out (fun e => by have := (HL3.out _ e).1; simp only at this; omega), h⟩)
            clear hv3 ho3
            go_wp2_with fail
            refine wp_region_phased 12 2 1 (fun W => W.cell? ⟨B, 2, none⟩ = some (.slice (some ⟨a, 0, none⟩) n n) ∧ W.cell? ⟨eb, 0, none⟩ = some (.int .i64 (x.1 : Int)) ∧ W.cell? ⟨eb, 1, none⟩ = some (.int .i64 (x.2 : Int)) ∧ W.cell? ⟨a, x.2, none⟩ = some (.slice A3 q3 c3) ∧ Fr (fun k => (Value.slice A3 q3 c3).ownBlock = some k) WW3 W) (by kernel_rfl) (by kernel_rfl) (HP3.out _ (Fr.refl _ _).drew) ?_
            simp only [List.take_succ_cons, List.take_zero, List.drop_succ_cons, List.drop_zero]
            iterate 12
              refine wpReads_cons rfl ?_ (fun W hS => ?_) ?_
              rotate_left
              · (obtain ⟨s0, s1, s2, s3, s4⟩ := hS; go_simp; try with_reducible rfl)
              simp only [Act.put, List.setIfInBounds_toArray, List.set_cons_zero, List.set_cons_succ]
            refine (show wpMid _ _ _ _ _ _ _ _ from ?_)
            simp only [wpMid]
            go_wp2
            refine midQ_ok (HP3.out _ ((Fr.refl _ _).drew.alloc _)) ?_
            have hown3 : WW3.drew.ownsRow H 3 1 (.slice A3 q3 c3) q3 (ivals (Gr.alls (l.take k) x.2)) := HO3.out
            rw [show (WW3.alloc (.cells #[.int .i64 (x.1 : Int)] 3)).drew = WW3.drew.alloc (.cells #[.int .i64 (x.1 : Int)] 3) from rfl]
            refine wpList_append_box WW3.drew _ _ rfl (.tmp 59) (.tmp 62) _ rfl H 3 i1 _ 1 8 Tryz.underlying37 hj hj0 hj1 hj2 rfl (by decide) _ _ _ rfl hown3 rfl rfl ?d1 ?d2 ?d3 ?d4 ?d5
            case d1 => simp [Value.oneCell']
            case d2 => unfold maxLen; omega
            case d3 => omega
            case d4 => show H ≤ WW3.heap.size; omega
            case d5 =>
              intro v4 w4 hown4 hg4 hn4
              obtain ⟨A4, c4, rfl⟩ := Reads.own_val hown4
              have F4 : Fr (fun k => (Value.slice A3 q3 c3).ownBlock = some k) WW3 w4 := ((Fr.refl _ WW3).drew).trans (Fr.of_grown hg4) (fun k hk => .inl hk)
              refine midQ_ok (HP3.out _ F4) ?_
              obtain ⟨s0, s1, s2, s3, s4⟩ := HP3.out _ F4
              have hBn : ¬ ((Value.slice A3 q3 c3).ownBlock = some a) := fun e => by have := (HL3.out _ e).1; omega
              have f4 : w4.frozen? ⟨a, x.2, none⟩ = false := by rw [F4.frozen (a := ⟨a, x.2, none⟩) HG3.out.ltA hBn]; exact HG3.out.frozenA x.2
              have HG4 := hide (GAt.turnA (w' := w4) (v' := .slice A4 (q3 + 1) c4) (l' := Gr.alls (l.take k) x.2 ++ [x.1]) HG3.out (i := x.2) (by rw [List.getElem?_set_ne xne]; exact map_at _ x2n) HV3.out
                ⟨hg4.os, hg4.tape, hg4.output, hg4.size, hg4.block⟩ (by
                  have h := hown4
                  rw [show (Gr.alls (l.take k) x.2 ++ [x.1]).length = q3 + 1 by simp [hq3], show ivals (Gr.alls (l.take k) x.2 ++ [x.1]) = ivals (Gr.alls (l.take k) x.2) ++ [.int .i64 (x.1 : Int)] by simp [ivals]]
                  exact h) (by
                  rcases hn4 with h | h
                  · exact .inl h
                  · exact .inr ⟨_, h, Nat.le_succ _⟩))
              have HF4 := hide ((HF3.out.trans F4 (fun k h => .inr (by have := (HL3.out _ h).1; omega))).setCell (p := ⟨a, x.2, none⟩) (.inr (by show w.heap.size ≤ a; omega)) (.slice A4 (q3 + 1) c4))
              have HX4 := hide (((HX3.out.fr F4 (fun e => HN3.out e)).far (p := ⟨a, x.2, none⟩) (by show eb ≠ a; omega) (.slice A4 (q3 + 1) c4)))
              have HY4 := hide ((HY3.out.fr F4 (fun e => by have := (HL3.out _ e).1; omega)).far (p := ⟨a, x.2, none⟩) (by show w.heap.size ≠ a; omega) (.slice A4 (q3 + 1) c4))
              have sz4 : H ≤ (w4.setCell ⟨a, x.2, none⟩ (.slice A4 (q3 + 1) c4)).heap.size := by have h1 := F4.size; simp [World.setCell]; omega
              clear s0 s1 s2 s4 F4 hown3 hown4 hg4 hn4 HP3 HG3 HF3 HX3 HL3 HN3 HV3 HO3 HY3
              go_wp2
              refine NoPanic.normal ?_
              generalize hWn3 : w4.setCell ⟨a, x.2, none⟩ (.slice A4 (q3 + 1) c4) = WW4 at *
              clear hWn3 s3 f4

              have e1 : (List.range n).map (Gr.outs (l.take (k + 1))) = ((List.range n).map (Gr.outs (l.take k))).set x.1 (Gr.outs (l.take k) x.1 ++ [x.2]) := by
                rw [HT.out, map_set]
                apply List.map_congr_left
                intro u _
                rw [outs_snoc2]
              have e2 : (List.range n).map (Gr.alls (l.take (k + 1))) = (((List.range n).map (Gr.alls (l.take k))).set x.1 (Gr.alls (l.take k) x.1 ++ [x.2])).set x.2 (Gr.alls (l.take k) x.2 ++ [x.1]) := by
                rw [HT.out, map_set, map_set]
                apply List.map_congr_left
                intro u _
                rw [alls_snoc _ _ xne]
              have HE1 := hide e1
              have HE2 := hide e2
              clear e1 e2
              go_wp2
              go_roundw
              case rel => exact ⟨k + 1, by omega, by go_num, by rw [HE1.out, HE2.out]; exact HG4.out, HF4.out, sz4, HY4.out⟩
              case measure => simp [intOf]; omega
      · obtain rfl : k = m := by omega
        have HG9 := hide HI.out.1
        rw [List.take_of_length_le (by rw [HM.out]; exact Nat.le_refl _)] at HG9
        have HF9 := hide HI.out.2.1
        have HB9 := hide HI.out.1.g
        have g0 := (HB9.out.cell 0).trans rfl
        have g1 := (HB9.out.cell 1).trans rfl
        have g2 := (HB9.out.cell 2).trans rfl
        have HY9 := hide HI.out.2.2.2
        have z0 := (HY9.out.cell 0).trans rfl
        have z1 := (HY9.out.cell 1).trans rfl
        have z2 := (HY9.out.cell 2).trans rfl
        have f0 := HY9.out.frozen 0
        have f1 := HY9.out.frozen 1
        have f2 := HY9.out.frozen 2
        go_wp2
        try simp only [Exit.inBlock, Exit.then]
        refine bodyPost_ret (results_cell1 rfl _ _ _ (.agg #[.int .i64 (n : Int), .slice (some ⟨o, 0, none⟩) n n, .slice (some ⟨a, 0, none⟩) n n]) ?hv) rfl ?_
        case hv => go_simp
        have F9 : Fr (fun k => k = w.heap.size) wr (((wr.setCell ⟨w.heap.size, 0, none⟩ (.int .i64 (n : Int))).setCell ⟨w.heap.size, 1, none⟩ (.slice (some ⟨o, 0, none⟩) n n)).setCell ⟨w.heap.size, 2, none⟩ (.slice (some ⟨a, 0, none⟩) n n)) :=
          (((Fr.refl (fun k => k = w.heap.size) wr).setCell (p := ⟨w.heap.size, 0, none⟩) (.inl rfl) _).setCell (p := ⟨w.heap.size, 1, none⟩) (.inl rfl) _).setCell (p := ⟨w.heap.size, 2, none⟩) (.inl rfl) _
        exact ⟨H, B, o, a, rfl, HG9.out.fr F9 (fun k _ hk e => by omega), HF9.out.trans F9 (fun k h => .inr (by omega))⟩
end Go.Proofs.YtjdbjahgimlhbaaGreat
end
section
set_option linter.unusedVariables false
set_option maxRecDepth 100000
namespace Go.Proofs.YtjdbjahgimlhbaaGreat
open Go.RowKit

/-- a row of numbers, a block by itself -/
def RowU (w : World) (g : Nat) (xs : List Nat) : Prop := Blk w g 57 (xs.map u64v).toArray
def half (n k x : Nat) : List Value := (List.replicate k x ++ List.replicate (n - k) 0).map u64v
theorem half_splice {n k d x : Nat} (h : k + d ≤ n) : splice (half n k x) k (List.replicate d (u64v x)) = half n (k + d) x := by
  unfold splice half
  rw [List.length_replicate, List.map_append, List.map_append, List.map_replicate, List.map_replicate, List.map_replicate, List.map_replicate]
  rw [List.take_append_of_le_length (by simp), List.take_of_length_le (by simp), List.drop_append, List.length_replicate, List.drop_eq_nil_of_le (by simp), List.nil_append, List.drop_replicate]
  rw [← List.append_assoc, List.replicate_append_replicate]
  congr 2
  omega
theorem half_len {n k x : Nat} (h : k ≤ n) : (half n k x).length = n := by simp [half]; omega
theorem half_get {n k x j : Nat} (h : j < k) : (half n k x)[j]? = some (u64v x) := by
  unfold half
  rw [List.getElem?_map, List.getElem?_append_left (by simpa using h), List.getElem?_replicate, if_pos h]
  rfl
theorem rep_mul (n : Nat) (hn : n ≤ 256) (w : World) : Calls Tryz.prog 120 #[.int .u64 1, .int .u64 (n : Int)] w fun e w' => e = .returned (.tuple #[.int .u64 0, .int .u64 (n : Int)]) ∧ w = w' := by
  have h := Tryz.bits_Mul 1 n (by omega) (by omega) w
  rw [Nat.one_mul, Nat.div_eq_of_lt (show n < 18446744073709551616 by omega), Nat.mod_eq_of_lt (show n < 18446744073709551616 by omega)] at h
  exact h.mono fun e w' h => ⟨h.1, h.2.symm⟩
set_option maxHeartbeats 1600000 in
theorem repeat_ok (n x xb c : Nat) (h1 : 1 ≤ n) (h2 : n ≤ 256) (w : World) (hx : RowU w xb [x]) :
    Calls Tryz.prog 111 #[.slice (some ⟨xb, 0, none⟩) 1 c, .int .i64 (n : Int)] w fun e w' => ∃ g, e = .returned (.slice (some ⟨g, 0, none⟩) n n) ∧ w.heap.size ≤ g ∧ RowU w' g (List.replicate n x) ∧ Fr (fun _ => False) w w' := by
  obtain ⟨i0, hi, hz0, hz1, hz2⟩ := info_parts u64_info
  have hmk := fun W => run_make_rowN (P := Tryz.prog) 47 57 i0 _ Tryz.underlying47 hi hz0 .i64 .i64 n n (Nat.le_refl _) (by rw [hz2]; omega) (by omega) W
  rw [hz1] at hmk
  have HM := hide (fun w => rep_mul n h2 w)
  have b1 : decide ((n : Int) < 0) = false := by simp
  have b2 : IntKind.i64.wrap (n : Int) = (n : Int) := by simp only [IntKind.wrap, IntKind.bits, IntKind.signed]; simp; omega
  have b3 : IntKind.u64.wrap (n : Int) = (n : Int) := by simp only [IntKind.wrap, IntKind.bits, IntKind.signed]; simp; omega
  have b4 : decide ((9223372036854775807 : Int) < (n : Int)) = false := by simp; omega
  have b5 : decide (9223372036854775807 < n) = false := by simp; omega
  have HX := hide (fun j v (h : ([u64v x] : List Value)[j]? = some v) => (show ∀ o, (w.alloc o).cell? ⟨xb, j, none⟩ = some v from fun o => by
    rw [(hx.alloc o).cell]
    simpa using h))
  clear hx
  go_enter Tryz.func111, Tryz.ntmps111
  go_wp2_with fail
  go_at_call 120
  refine (HM.out _).mono ?_
  rintro e w1 ⟨rfl, rfl⟩
  have HG0 := hide (show (w.alloc (.cells (madeCells #[.int .u64 0] n) 57)).heap[w.heap.size]? = some (.cells (half n 0 x).toArray 57 (0, 0)) from by
    have h := Blk.new w 57 (madeCells #[.int .u64 0] n)
    rw [madeCells_one] at h
    have e : (half n 0 x).toArray = (List.replicate n (.int .u64 0)).toArray := by simp [half, u64v]
    rw [madeCells_one, e]
    exact h)
  have F0 := hide ((Fr.refl (fun _ => False) w).alloc (.cells (madeCells #[.int .u64 0] n) 57))
  have hl := half_len (n := n) (k := 0) (x := x) (by omega)
  go_wp2_with (with_reducible refine wpList_copy_splice rfl (.tmp 31) (.tmp 32) _ _ rfl 57 Tryz.underlying47 (by kernel_rfl) _ _ n n 1 c rfl rfl w.heap.size 0 (half n 0 x) 57 ?c1 [u64v x] ?c2 ?c3 ?c4 ?c5 w.heap.size w ?c6 (Nat.le_refl _) ?c7)
  case c1 => exact HG0.out
  case c2 => exact (Nat.min_eq_left h1).symm
  case c3 => exact fun j v h => HX.out j v h _
  case c4 => simp [hl]; omega
  case c5 => simp [u64v, Value.oneCell']
  case c6 => exact F0.out.below (Nat.le_refl _) (fun _ h => h.elim)
  case c7 =>
    intro w2 HG2 hb2
    have HI2 := hide (show Blk w2 w.heap.size 57 (half n 1 x).toArray from by
      have h := HG2.out
      have e : Go.splice (half n 0 x) 0 [u64v x] = half n 1 x := half_splice (n := n) (k := 0) (d := 1) (x := x) (by omega)
      rw [e] at h
      exact h)
    have HF2 := hide (Fr.of_below hb2 (fun _ => False))
    clear HG2 hb2 HG0 F0 hmk
    go_wp2_with fail
    go_loopw [8] (fun i wr => ∃ k : Nat, 1 ≤ k ∧ k ≤ n ∧ i = .int .i64 (k : Int) ∧ Hid (Blk wr w.heap.size 57 (half n k x).toArray ∧ Fr (fun _ => False) w wr)) (fun i _ => n - (intOf i).toNat)
    case atStart => exact ⟨1, by omega, by omega, by first | rfl | (simp [goInt]), HI2.out, HF2.out⟩
    case round =>
      obtain ⟨k, hk1, hk, rfl, HI⟩ := hrel
      by_cases hlt : k < n
      · obtain ⟨d, hd⟩ : ∃ d, min k (n - k) = d := ⟨_, rfl⟩
        have hd1 : 1 ≤ d ∧ k + d ≤ n ∧ d ≤ k := by omega
        have HD := hide hd
        have hwk : IntKind.i64.wrap ((k : Int) + (d : Int)) = ((k + d : Nat) : Int) := by simp only [IntKind.wrap, IntKind.bits, IntKind.signed]; simp; omega
        have e0 : (0 : Int) ≤ (k : Int) := by omega
        have e1 : (k : Int) ≤ (n : Int) := by omega
        have e2 : decide ((k : Int) < (n : Int)) = true := by simp; omega
        go_wp2_with fail
        refine wp_region_ord [(0, true), (1, true), (2, true), (3, true), (4, true), (5, true), (6, true), (7, false), (8, true), (9, true)] (fun _ => True) (by kernel_rfl) (by kernel_rfl) trivial ?_
        iterate 7
          refine ord_read rfl ?_ ?_ (fun W hS => ?_) ?_
          · rfl
          rotate_left
          · (go_simp; try with_reducible rfl)
          simp only [List.getElem_toArray, List.getElem_cons_zero, List.getElem_cons_succ, Act.put, List.setIfInBounds_toArray, List.set_cons_zero, List.set_cons_succ]
        refine ord_act rfl ?_
        have HG := hide (show wr.drew.heap[w.heap.size]? = some (.cells (half n k x).toArray 57 (0, 0)) from HI.out.1)
        have hb := HI.out.2.drew.below (B := w.heap.size) (Nat.le_refl _) (fun _ h => h.elim)
        refine wpList_copy_splice rfl (.tmp 41) (.tmp 44) _ _ rfl 57 Tryz.underlying47 (by kernel_rfl) _ _ _ _ _ _ rfl rfl w.heap.size k (half n k x) 57 HG.out (List.replicate d (u64v x)) ?c2 ?c3 ?c4 ?c5 w.heap.size w hb (Nat.le_refl _) ?c8
        case c2 => rw [List.length_replicate]; exact HD.out.symm
        case c3 =>
          intro _
          refine ⟨if_neg (by omega), _, rfl, fun j v hj => ?_⟩
          have hjd : j < d := by
            have := (List.getElem?_eq_some_iff.1 hj).1
            simpa using this
          rw [List.getElem?_replicate, if_pos hjd] at hj
          rw [Addr.add_lit, Nat.zero_add, show wr.drew.cell? ⟨w.heap.size, j, none⟩ = wr.cell? ⟨w.heap.size, j, none⟩ from rfl, HI.out.1.cell, ← hj]
          have := half_get (n := n) (k := k) (x := x) (j := j) (by omega)
          simpa using this
        case c4 => rw [half_len (by omega)]; simp; omega
        case c5 => intro v hv; rw [List.eq_of_mem_replicate hv]; rfl
        case c8 =>
          intro w3 HG3 hb3
          have HI3 := hide (show Blk w3 w.heap.size 57 (half n (k + d) x).toArray from by
            have h := HG3.out
            rw [half_splice (by omega)] at h
            exact h)
          have HF3 := hide (Fr.of_below hb3 (fun _ => False))
          clear HG3 hb3 hb HG
          go_wp2
          simp only [midQ]
          iterate 2
            refine ord_read rfl ?_ ?_ (fun W hS => ?_) ?_
            · rfl
            rotate_left
            · (go_simp; try with_reducible rfl)
            simp only [List.getElem_toArray, List.getElem_cons_zero, List.getElem_cons_succ, Act.put, List.setIfInBounds_toArray, List.set_cons_zero, List.set_cons_succ]
          refine ord_done ?_
          refine NoPanic.normal ?_
          go_wp2
          go_roundw
          case rel => exact ⟨k + d, by omega, by omega, by first | rfl | (simp; done) | (rw [hwk]), HI3.out, HF3.out⟩
          case measure => simp [intOf]; omega
      · obtain rfl : k = n := by omega
        have HE := hide HI.out.1
        have HF := hide HI.out.2
        go_wp2
        go_ret
        refine ⟨_, rfl, Nat.le_refl _, ?_, HF.out⟩
        have h := HE.out
        unfold half at h
        rw [Nat.sub_self, List.replicate_zero, List.append_nil] at h
        exact h
theorem fill_ok (n x : Nat) (h1 : 1 ≤ n) (h2 : n ≤ 256) (w : World) :
    Calls Tryz.prog 75 #[.int .i64 (n : Int), .int .u64 (x : Int)] w fun e w' => ∃ g, e = .returned (.slice (some ⟨g, 0, none⟩) n n) ∧ w.heap.size ≤ g ∧ RowU w' g (List.replicate n x) ∧ Fr (fun _ => False) w w' := by
  have F1 := hide ((Fr.refl (fun _ => False) w).alloc (.cells #[.int .u64 (x : Int)] 57))
  have HR := hide (repeat_ok n x w.heap.size 1 h1 h2 (w.alloc (.cells #[.int .u64 (x : Int)] 57)) (show Blk _ _ _ _ by simpa [u64v] using Blk.new w 57 #[.int .u64 (x : Int)]))
  go_enter Tryz.func75, Tryz.ntmps75
  go_wp2_with fail
  go_at_call 111
  refine HR.out.mono ?_
  rintro e w1 ⟨g, rfl, hg, hr, hf⟩
  have HB := hide hr
  have HF := hide (F1.out.then_ hf)
  have hg2 : w.heap.size ≤ g := by simp at hg; omega
  clear hg hr hf
  go_wp2
  go_ret
  exact ⟨g, rfl, hg2, HB.out, HF.out⟩
end Go.Proofs.YtjdbjahgimlhbaaGreat
end
section
set_option linter.unusedVariables false
set_option maxRecDepth 100000
namespace Go.Proofs.YtjdbjahgimlhbaaGreat
open Go.RowKit
open Gr (E T)

section
variable {w w' : World} {g : Nat} {xs : List Nat}
theorem RowU.cell (h : RowU w g xs) {i : Nat} (hi : i < xs.length) : w.cell? ⟨g, i, none⟩ = some (.int .u64 ((xs.getD i 0 : Nat) : Int)) := by
  have := Blk.cell h i
  rw [this]
  simp [u64v, hi, List.getD]
theorem RowU.frozen (h : RowU w g xs) (i : Nat) : w.frozen? ⟨g, i, none⟩ = false := Blk.frozen h i
theorem RowU.fr {S : Nat → Prop} (h : RowU w g xs) (hf : Fr S w w') (hn : ¬ S g) : RowU w' g xs := Blk.fr h hf hn
theorem RowU.set (h : RowU w g xs) (i y : Nat) : RowU (w.setCell ⟨g, i, none⟩ (.int .u64 (y : Int))) g (xs.set i y) := by
  have := Blk.set_ h i (u64v y)
  unfold RowU
  rw [List.map_set]
  rw [show (Value.int .u64 (y : Int)) = u64v y from rfl]
  simpa using this
theorem RowU.far (h : RowU w g xs) {k : Nat} (hk : g ≠ k) (i : Nat) (u : Value) : RowU (w.setCell ⟨k, i, none⟩ u) g xs := Blk.far h (p := ⟨k, i, none⟩) hk u
theorem RowU.lt (h : RowU w g xs) : g < w.heap.size := Blk.lt h
end
/-- a vertex's edges, as triples -/
def rowT (l : List E) (u : Nat) : List T := (Gr.outs l u).map fun v : Nat => ((u : Int), (v : Int), (Gr.outs l u).length)
theorem edgs_lists (l : List E) : ∀ (m a : Nat), edgs (a : Int) (Gr.lists l a m) = (List.range m).flatMap fun k => rowT l (a + k)
  | 0, a => rfl
  | m + 1, a => by
    rw [Gr.lists_succ]
    show ((Gr.outs l a).map (fun v : Nat => (v : Int))).map (fun v => ((a : Int), v, ((Gr.outs l a).map (fun v : Nat => (v : Int))).length)) ++ edgs ((a : Int) + 1) (Gr.lists l (a + 1) m) = _
    rw [show ((a : Int) + 1) = ((a + 1 : Nat) : Int) by omega, edgs_lists l m (a + 1), List.range_succ_eq_map, List.flatMap_cons, List.flatMap_map]
    congr 1
    · unfold rowT
      rw [List.map_map, List.length_map]
      rfl
    · congr 1
      funext k
      rw [show a + 1 + k = a + k.succ by omega]
theorem tTrips_rows (l : List E) (n : Nat) : Gr.tTrips l n = (List.range n).flatMap (rowT l) := by
  have h := edgs_lists l n 0
  unfold Gr.tTrips Gr.shardT Gr.shardL
  have c0 : Gr.cut n 1 0 = 0 := by simp [Gr.cut]
  have c1 : Gr.cut n 1 (0 + 1) = n := by simp [Gr.cut]
  rw [c0, c1, Nat.sub_zero]
  simpa using h
/-- the sums behind k vertices -/
def sumK (X : List Nat) (l : List E) (n k : Nat) : List Nat := ((List.range k).flatMap (rowT l)).foldl (rank.step X) (List.replicate n 0)
theorem sumK_succ (X : List Nat) (l : List E) (n k : Nat) : sumK X l n (k + 1) = (rowT l k).foldl (rank.step X) (sumK X l n k) := by
  unfold sumK
  rw [List.range_succ, List.flatMap_append, List.foldl_append]
  simp
theorem sumK_len (X : List Nat) (l : List E) (n k : Nat) : (sumK X l n k).length = n := by
  unfold sumK
  rw [foldl_len (rank.step_len X)]; simp
def sumJ (X : List Nat) (l : List E) (n k j : Nat) : List Nat := ((rowT l k).take j).foldl (rank.step X) (sumK X l n k)
theorem sumJ_len (X : List Nat) (l : List E) (n k j : Nat) : (sumJ X l n k j).length = n := by
  unfold sumJ
  rw [foldl_len (rank.step_len X)]; exact sumK_len _ _ _ _
theorem sumJ_zero (X : List Nat) (l : List E) (n k : Nat) : sumJ X l n k 0 = sumK X l n k := by simp [sumJ]
theorem sumJ_all (X : List Nat) (l : List E) (n k : Nat) : sumJ X l n k (Gr.outs l k).length = sumK X l n (k + 1) := by
  rw [sumK_succ]
  unfold sumJ
  rw [List.take_of_length_le (by simp [rowT])]
theorem sumJ_succ (X : List Nat) (l : List E) (n k : Nat) {j : Nat} (hj : j < (Gr.outs l k).length) : sumJ X l n k (j + 1) = (sumJ X l n k j).set ((Gr.outs l k)[j]) (((sumJ X l n k j).getD ((Gr.outs l k)[j]) 0 + X.getD k 0 / (Gr.outs l k).length) % 18446744073709551616) := by
  have hj2 : j < (rowT l k).length := by simpa [rowT] using hj
  unfold sumJ
  rw [List.take_succ_eq_append_getElem hj2, List.foldl_append]
  simp [rowT, rank.step]
set_option maxHeartbeats 4000000 in
theorem trank_ok (H B o a n rounds : Nat) (l : List E) (w : World) (hG : GAt w H B o a n ((List.range n).map (Gr.outs l)) ((List.range n).map (Gr.alls l))) (hn : 1 ≤ n) (hn2 : n ≤ 256) (hr : rounds ≤ 64) (hlm : l.length ≤ 4000) (hl : ∀ e ∈ l, e.1 < n ∧ e.2 < n ∧ e.1 ≠ e.2) :
    Calls Tryz.prog 36 #[.agg #[.int .i64 (n : Int), .slice (some ⟨o, 0, none⟩) n n, .slice (some ⟨a, 0, none⟩) n n], .int .i64 (rounds : Int)] w fun e w' => ∃ g, e = .returned (.slice (some ⟨g, 0, none⟩) n n) ∧ w.heap.size ≤ g ∧ RowU w' g (Gr.trk l n rounds) ∧ Fr (fun _ => False) w w' := by
  obtain ⟨W1, hW1⟩ : ∃ W1, W1 = w.alloc (.cells #[.int .i64 (n : Int), .slice (some ⟨o, 0, none⟩) n n, .slice (some ⟨a, 0, none⟩) n n] 96) := ⟨_, rfl⟩
  have F1 : Fr (fun _ => False) w W1 := by rw [hW1]; exact (Fr.refl _ _).alloc _
  have b1 : Blk W1 w.heap.size 96 #[.int .i64 (n : Int), .slice (some ⟨o, 0, none⟩) n n, .slice (some ⟨a, 0, none⟩) n n] := by rw [hW1]; exact Blk.new _ _ _
  have HB := hide b1
  have HG := hide (hG.up F1)
  have HF1 := hide F1
  have HL := hide hl
  have HZ := hide hW1
  have s1 : W1.heap.size = w.heap.size + 1 := by rw [hW1]; simp
  have HLT := hide (show o < w.heap.size from hG.ltO)
  have HFL := hide (fun x w => fill_ok n x hn hn2 w)
  have c0 := (b1.cell 0).trans rfl
  clear hG F1 b1 hl hW1
  go_enter Tryz.func36, Tryz.ntmps36
  go_wp2_with fail
  rw [← HZ.out]
  go_at_call 75
  refine (HFL.out 4294967296 _).mono ?_
  rintro e w2 ⟨g, rfl, hg, hrow, hf⟩
  have HR2 := hide hrow
  have HF2 := hide hf
  have lg := hrow.lt
  clear hrow hf c0
  go_wp2_with fail
  go_loopw [17] (fun i wr => ∃ r : Nat, r ≤ rounds ∧ i = .int .i64 (r : Int) ∧ Hid (RowU wr g (Gr.trk l n r) ∧ Fr (fun _ => False) W1 wr)) (fun i _ => rounds - (intOf i).toNat)
  case atStart => exact ⟨0, by omega, rfl, HR2.out, HF2.out⟩
  case round =>
    obtain ⟨r, hrr, rfl, HI⟩ := hrel
    by_cases hlt : r < rounds
    · have HX := hide (Gr.trk_len l n r)
      have HNX := hide (show Gr.trk l n (r + 1) = (List.range n).map fun v => rank.cF ((sumK (Gr.trk l n r) l n n).getD v 0) from by
        simp only [Gr.trk]
        rw [tTrips_rows]
        rfl)
      generalize Gr.trk l n r = X at *
      have HBr := hide (HB.out.fr HI.out.2 id)
      have c0 := (HBr.out.cell 0).trans rfl
      go_wp2_with fail
      go_at_call 75
      refine (HFL.out 0 _).mono ?_
      rintro e w3 ⟨s, rfl, hs, hrow, hf⟩
      have HS3 := hide hrow
      have HR3 := hide (HI.out.1.fr hf id)
      have HF3 := hide (HI.out.2.then_ hf)
      have lgr := HI.out.1.lt
      have ls := hrow.lt
      have szr := HI.out.2.size
      have HB3 := hide (HBr.out.fr hf id)
      have d1 := (HB3.out.cell 1).trans rfl
      clear hrow hf HI HBr c0
      go_wp2_with fail
      go_loopw [25] (fun i wr => ∃ k : Nat, k ≤ n ∧ i = .int .i64 (k : Int) ∧ Hid (RowU wr s (sumK X l n k) ∧ Fr (fun x => x = s) w3 wr)) (fun i _ => n - (intOf i).toNat)
      case atStart => exact ⟨0, by omega, rfl, by simpa [sumK] using HS3.out, Fr.refl _ _⟩
      case round =>
        obtain ⟨k, hk, rfl, HJ⟩ := hrel
        by_cases hkn : k < n
        · have HFr := hide (HF3.out.trans HJ.out.2 (fun k h => .inr (by omega)))
          obtain ⟨A3, c3, hv, ho⟩ := HG.out.outRow (i := k) (l := Gr.outs l k) (map_at _ hkn)
          have HRD := hide (Reads.of_own ho)
          have hv2 := HFr.out.cell hv id
          have HST := hide (fun j (hj : j < (Gr.outs l k).length) => sumJ_succ X l n k hj)
          have HVN := hide (fun j (hj : j < (Gr.outs l k).length) => (show (Gr.outs l k)[j] < n from (HL.out _ ((Gr.outs_mem l k _).1 (List.getElem_mem hj))).2.1))
          have HAL := hide (sumJ_all X l n k)
          have HZE := hide (sumJ_zero X l n k)
          have HQB := hide (show (Gr.outs l k).length ≤ 4000 from Nat.le_trans (outs_len_le l k) hlm)
          generalize Gr.outs l k = ys at *
          obtain ⟨q, hq⟩ : ∃ q, ys.length = q := ⟨_, rfl⟩
          have HQ := hide hq
          rw [hq] at hv2 HRD HAL HQB
          have hqb := HQB.out
          have e0 : (0 : Int) ≤ (k : Int) := by omega
          have e1 : (k : Int) < (n : Int) := by omega
          clear hv ho hq
          generalize hwo : wr = wo at *
          go_wp2_with fail
          go_loopw [32] (fun i wr => ∃ j : Nat, j ≤ q ∧ i = .int .i64 (j : Int) ∧ Hid (RowU wr s (sumJ X l n k j) ∧ Fr (fun x => x = s) wo wr)) (fun i _ => q - (intOf i).toNat)
          case atStart => exact ⟨0, by omega, rfl, by rw [HZE.out]; exact HJ.out.1, Fr.refl _ _⟩
          case round =>
            obtain ⟨j, hj, rfl, HK⟩ := hrel
            by_cases hjq : j < q
            · have lj : j < ys.length := by rw [HQ.out]; exact hjq
              have HFk := hide (HFr.out.trans HK.out.2 (fun k h => .inr (by omega)))
              have HN1 := hide (HST.out j lj)
              have hvn := HVN.out j lj
              obtain ⟨b, o2, e, hb, hcs⟩ := (HRD.out.up HFk.out).2 (by omega)
              have hc := hcs j (.int .i64 (ys[j] : Int)) (by rw [ivals, List.getElem?_map, List.getElem?_eq_getElem lj]; rfl)
              subst e
              generalize ys[j]'lj = v at *
              have hc1 := HK.out.1.cell (i := v) (by rw [sumJ_len]; exact hvn)
              have hc2 := (HR3.out.fr (HJ.out.2.trans HK.out.2 (fun k h => .inl h)) (by omega)).cell (i := k) (by rw [HX.out]; exact hkn)
              have hfz := HK.out.1.frozen v
              generalize (sumJ X l n k j).getD v 0 = y at *
              generalize X.getD k 0 = x at *
              rw [HQ.out] at HN1
              have f0 : (0 : Int) ≤ (j : Int) := by omega
              have f1 : (j : Int) < (q : Int) := by omega
              have f2 : (0 : Int) ≤ (v : Int) := by omega
              have f3 : (v : Int) < (n : Int) := by omega
              have f4 : ¬ ((q : Int) = 0) := by omega
              have f4n : ¬ (q = 0) := by omega
              have f5 : IntKind.u64.wrap (q : Int) = (q : Int) := by simp only [IntKind.wrap, IntKind.bits, IntKind.signed]; simp; omega
              have f6 := rank.add_div y x q
              clear hcs
              go_wp2_with fail
              refine wp_region_phased 13 0 1 (fun W => W.cell? ⟨s, v, none⟩ = some (.int .u64 (y : Int)) ∧ W.cell? ⟨g, k, none⟩ = some (.int .u64 (x : Int)) ∧ W.frozen? ⟨s, v, none⟩ = false) (by kernel_rfl) (by kernel_rfl) ⟨hc1, hc2, hfz⟩ ?_
              simp only [List.take_succ_cons, List.take_zero, List.drop_succ_cons, List.drop_zero]
              iterate 13
                refine wpReads_cons rfl ?_ (fun W hS => ?_) ?_
                rotate_left
                · (obtain ⟨s0, s1, s2⟩ := hS; go_simp; try (first | with_reducible rfl | (rw [if_neg f4n])))
                simp only [Act.put, List.setIfInBounds_toArray, List.set_cons_zero, List.set_cons_succ]
              refine (show wpMid _ _ _ _ _ _ _ _ from ?_)
              simp only [wpMid]
              go_wp2
              refine NoPanic.normal ?_
              have hv64 : ((y : Int) + (x : Int) / (q : Int)) % 18446744073709551616 = (((y + x / q) % 18446744073709551616 : Nat) : Int) := by simp
              have HK2 := hide (show RowU (wr.drew.setCell ⟨s, v, none⟩ (.int .u64 (((y : Int) + (x : Int) / (q : Int)) % 18446744073709551616))) s (sumJ X l n k (j + 1)) by rw [HN1.out, hv64]; exact RowU.set (w := wr.drew) HK.out.1 v _)
              have HF2 := hide (HK.out.2.drew.setCell (p := ⟨s, v, none⟩) (.inl rfl) (.int .u64 (((y : Int) + (x : Int) / (q : Int)) % 18446744073709551616)))
              clear hc1 hc2 hfz hc f6 hv64
              go_wp2
              go_roundw
              case rel => exact ⟨j + 1, by omega, by go_num, HK2.out, HF2.out⟩
              case measure => simp [intOf]; omega
            · obtain rfl : j = q := by omega
              have HJ2 := hide (show RowU wr s (sumK X l n (k + 1)) by rw [← HAL.out]; exact HK.out.1)
              have HJF := hide (HJ.out.2.trans HK.out.2 (fun k h => .inl h))
              go_wp2
              go_roundw
              case rel => exact ⟨k + 1, by omega, by go_num, HJ2.out, HJF.out⟩
              case measure => simp [intOf]; omega
        · obtain rfl : k = n := by omega
          have HAC := hide (sumK_len X l k k)
          generalize sumK X l k k = ac at *
          have HRW := hide (HR3.out.fr HJ.out.2 (show g ≠ s by omega))
          generalize hwo : wr = wo at *
          go_wp2_with fail
          go_loopw [54] (fun i wr => ∃ v : Nat, v ≤ k ∧ i = .int .i64 (v : Int) ∧ Hid (RowU wr g (pre (fun u => rank.cF (ac.getD u 0)) v X) ∧ Fr (fun x => x = g) wo wr)) (fun i _ => k - (intOf i).toNat)
          case atStart => exact ⟨0, by omega, rfl, by rw [pre_zero]; exact HRW.out, Fr.refl _ _⟩
          case round =>
            obtain ⟨v, hv, rfl, HK⟩ := hrel
            by_cases hvk : v < k
            · have hc1 := (HJ.out.1.fr HK.out.2 (show s ≠ g by omega)).cell (i := v) (by rw [HAC.out]; exact hvk)
              have hlp : (pre (fun u => rank.cF (ac.getD u 0)) v X).length = k := by rw [pre_len _ (by rw [HX.out]; omega)]; exact HX.out
              have hc2 := HK.out.1.cell (i := v) (by rw [hlp]; exact hvk)
              have hfz := HK.out.1.frozen v
              have hcf : IntKind.u64.wrap (644245094 + IntKind.u64.wrap ((IntKind.u64.wrap (((ac.getD v 0 : Nat) : Int) * 850)).tdiv 1000)) = ((rank.cF (ac.getD v 0) : Nat) : Int) := by
                rw [Int.tdiv_eq_ediv_of_nonneg (by simp only [IntKind.wrap, IntKind.bits, IntKind.signed]; simp; omega)]
                exact rank.cF_eq _
              have HST := hide (show (pre (fun u => rank.cF (ac.getD u 0)) v X).set v (rank.cF (ac.getD v 0)) = pre (fun u => rank.cF (ac.getD u 0)) (v + 1) X from pre_set (fun u => rank.cF (ac.getD u 0)) (by rw [HX.out]; exact hvk))
              have HS2 := hide (RowU.set HK.out.1 v (rank.cF (ac.getD v 0)))
              rw [HST.out] at HS2
              have HF2 := hide (HK.out.2.setCell (p := ⟨g, v, none⟩) (.inl rfl) (.int .u64 ((rank.cF (ac.getD v 0) : Nat) : Int)))
              generalize rank.cF (ac.getD v 0) = z at *
              generalize ac.getD v 0 = y at *
              have f0 : (0 : Int) ≤ (v : Int) := by omega
              have f1 : (v : Int) < (k : Int) := by omega
              go_wp2
              go_roundw
              case rel => exact ⟨v + 1, by omega, by go_num, HS2.out, HF2.out⟩
              case measure => simp [intOf]; omega
            · obtain rfl : v = k := by omega
              have HRN := hide (show RowU wr g (Gr.trk l v (r + 1)) by
                rw [HNX.out, ← pre_full (fun u => rank.cF (ac.getD u 0)) HX.out]
                exact HK.out.1)
              have HFN := hide ((HF3.out.trans HJ.out.2 (fun k h => .inr (by omega))).trans HK.out.2 (fun k h => .inr (by omega)))
              go_wp2
              go_roundw
              case rel => exact ⟨r + 1, by omega, by go_num, HRN.out, HFN.out⟩
              case measure => simp [intOf]; omega
    · obtain rfl : r = rounds := by omega
      have HR9 := hide HI.out.1
      have HF9 := hide (HF1.out.trans HI.out.2 (fun k h => h.elim))
      go_wp2
      go_ret
      exact ⟨g, rfl, by omega, HR9.out, HF9.out⟩
end Go.Proofs.YtjdbjahgimlhbaaGreat
end
