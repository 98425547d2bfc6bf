/- Parts of the proof of KernelsTruth: no conditions of their own. -/
import Derived.Test.YtjdbjahgimlhbaaGreatKernelsTruthPk3
import Derived.Test.YtjdbjahgimlhbaaGreatKernelsTruthPk6
import Derived.Test.YtjdbjahgimlhbaaGreatKernelsTruthPk11
import Derived.Test.YtjdbjahgimlhbaaGreatKernelsTruthPk5
import Derived.Test.YtjdbjahgimlhbaaGreatKernelsTruthPk7
import Derived.Test.YtjdbjahgimlhbaaGreatKernelsTruthPk10
section
set_option linter.unusedVariables false
set_option maxRecDepth 100000
namespace Go.Proofs.YtjdbjahgimlhbaaGreat
open Go.RowKit
open Gr (E outs lists)

theorem may_any (a b : Nat) (w : World) (h : a < b) (hb : b ≤ 256) : Calls Tryz.prog 26 #[.agg #[.int .i64 (a : Int), .int .i64 (b : Int)]] w fun e w' => e = .returned (.bool true) ∧ Fr (fun _ => False) w w' := by
  go_enter Tryz.func26, Tryz.ntmps26
  go_wp2
  go_ret
  exact ⟨by simp; omega, (Fr.refl _ _).alloc _⟩
/-- the lists of so many vertices, from the first k edges -/
def rowsK (l : List E) (a m k : Nat) : List (List Nat) := (List.range m).map fun i => outs (l.take k) (a + i)
theorem rowsK_len (l : List E) (a m k : Nat) : (rowsK l a m k).length = m := by simp [rowsK]
theorem rowsK_at {l : List E} {a m k i : Nat} (hi : i < m) : (rowsK l a m k)[i]? = some (outs (l.take k) (a + i)) := by simp [rowsK, hi]
theorem outs_snoc (l : List E) (e : E) (v : Nat) : outs (l ++ [e]) v = if e.1 = v then outs l v ++ [e.2] else outs l v := by
  unfold outs
  rw [List.filter_append, List.map_append]
  by_cases h : e.1 = v
  · simp [h]
  · simp [h]
theorem rowsK_in {l : List E} {a m k : Nat} {e : E} (ht : l.take (k + 1) = l.take k ++ [e]) (h1 : a ≤ e.1) (h2 : e.1 < a + m) : rowsK l a m (k + 1) = (rowsK l a m k).set (e.1 - a) (outs (l.take k) e.1 ++ [e.2]) := by
  apply List.ext_getElem?
  intro i
  by_cases hi : i < m
  · rw [rowsK_at hi, ht, outs_snoc]
    by_cases hie : e.1 - a = i
    · rw [if_pos (by omega), ← hie, List.getElem?_set_self (by rw [rowsK_len]; omega), show a + (e.1 - a) = e.1 by omega]
    · rw [if_neg (by omega), List.getElem?_set_ne hie, rowsK_at hi]
  · rw [List.getElem?_eq_none (by rw [rowsK_len]; omega), List.getElem?_eq_none (by rw [List.length_set, rowsK_len]; omega)]
theorem rowsK_out {l : List E} {a m k : Nat} {e : E} (ht : l.take (k + 1) = l.take k ++ [e]) (h : e.1 < a ∨ a + m ≤ e.1) : rowsK l a m (k + 1) = rowsK l a m k := by
  unfold rowsK
  apply List.map_congr_left
  intro i hi
  have hi := List.mem_range.1 hi
  rw [ht, outs_snoc, if_neg (by omega)]
theorem outs_len (l : List E) (v : Nat) : (outs l v).length ≤ l.length := by
  unfold outs
  rw [List.length_map]
  exact List.length_filter_le _ _
theorem lists_rows (l : List E) (a m k : Nat) (h : l.length ≤ k) : (rowsK l a m k).map (fun l => l.map fun v : Nat => (v : Int)) = lists l a m := by
  unfold rowsK lists
  rw [List.map_map, List.take_of_length_le h]
  rfl
theorem rows_new {w : World} {H B m : Nat} {cs : Array Value} (hb : Blk w B 37 cs) (hc : cs = Array.replicate m (Value.slice none 0 0)) (h : B < H) (l : List E) (a : Nat) : RowsAt w H B (rowsK l a m 0) := by
  subst hc
  refine ⟨h, _, hb, by simp [rowsK], fun i x hx => ?_, fun i j u v hij hu hv => ?_⟩
  · have hi : i < m := by
      have := (List.getElem?_eq_some_iff.1 hx).1
      rwa [rowsK_len] at this
    rw [rowsK_at hi] at hx
    obtain rfl := Option.some.inj hx
    exact ⟨.slice none 0 0, by simp [hi], by simpa [outs, ivals] using World.ownsRow_nil w H 3 1⟩
  · left
    rw [Array.getElem?_replicate] at hu
    split at hu
    · obtain rfl := Option.some.inj hu; rfl
    · cases hu
theorem frT {w w' : World} {a b : Prop} (h : a ∧ b ∧ Fr (fun _ => False) w w') : Fr (fun _ => False) w w' := h.2.2
theorem held_drewM (w : World) : Fr (fun _ => False) w w.drew := (Fr.refl _ _).drew
set_option maxHeartbeats 4000000 in
theorem make_any (A : Option Addr) (n c a b : Nat) (l : List E) (w : World) (h : EdgesAt w A l) (hn : l.length = n) (hnx : n ≤ 4000) (hs : Gr.Sorted l) (hab : a < b) (hb : b ≤ 256) (hE : ∀ e ∈ l, e.1 < 256 ∧ e.2 < 256) :
    Calls Tryz.prog 16 #[.slice A n c, .agg #[.int .i64 (a : Int), .int .i64 (b : Int)]] w fun e w' => ∃ B, e = .returned (.agg #[.int .i64 (a : Int), .int .i64 (b : Int), .slice (some ⟨B, 0, none⟩) (b - a) (b - a)]) ∧ ListsIn w' w.heap.size w'.heap.size (some ⟨B, 0, none⟩) (b - a) (lists l a (b - a)) ∧ Fr (fun _ => False) w w' := by
  have H := hide h
  have HN := hide hn
  have HS := hide hs
  have HE := hide hE
  clear h hn hs hE
  obtain ⟨m, hm⟩ : ∃ m, b - a = m := ⟨_, rfl⟩
  rw [hm]
  obtain ⟨i0, hi, hz0, hz1, hz2⟩ := info_parts ints_info
  obtain ⟨i1, hj, hj0, hj1, hj2⟩ := info_parts int_info
  have hmk := fun w => run_make_rowN (P := Tryz.prog) 41 37 i0 _ rfl hi hz0 .i64 .i64 m m (Nat.le_refl _) (by rw [hz2]; omega) (by omega) w
  rw [hz1, show (Value.slice none 0 0).cells = #[.slice none 0 0] from rfl, madeCells_one, Nat.mul_one] at hmk
  have hw : IntKind.i64.wrap ((b : Int) - (a : Int)) = (m : Int) := by simp only [IntKind.wrap, IntKind.bits, IntKind.signed]; simp; omega
  go_enter Tryz.func16, Tryz.ntmps16
  go_wp2_with fail
  go_at_call 26
  refine (may_any a b _ hab hb).mono ?_
  rintro e w1 ⟨rfl, hf⟩
  have F1 := hide ((((Fr.refl (fun _ => False) w).alloc (.cells #[.int .i64 (a : Int), .int .i64 (b : Int)] 40)).alloc (.cells #[.int .i64 0, .int .i64 0, .slice none 0 0] 43)).then_ hf)
  have BP := hide (((Blk.new w 40 #[.int .i64 (a : Int), .int .i64 (b : Int)]).alloc (.cells #[.int .i64 0, .int .i64 0, .slice none 0 0] 43)).fr hf (fun h => h))
  have BR : Hid (Blk w1 (w.heap.size + 1) 43 #[.int .i64 0, .int .i64 0, .slice none 0 0]) := by
    have := (Blk.new (w.alloc (.cells #[.int .i64 (a : Int), .int .i64 (b : Int)] 40)) 43 #[.int .i64 0, .int .i64 0, .slice none 0 0]).fr hf (fun h => h)
    unfold Hid
    simpa using this
  clear hf
  have D := hide (held_drewM w1)
  have HO := hide (fun W (h : Fr (fun _ => False) w1 W) => show W.cell? ⟨w.heap.size, 0, none⟩ = some (.int .i64 (a : Int)) ∧ W.cell? ⟨w.heap.size, 1, none⟩ = some (.int .i64 (b : Int)) ∧ Fr (fun _ => False) w1 W from ⟨h.cell ((BP.out.cell 0).trans rfl) (fun h => h), h.cell ((BP.out.cell 1).trans rfl) (fun h => h), h⟩)
  go_wp2_with fail
  go_region_held3 (fun W => W.cell? ⟨w.heap.size, 0, none⟩ = some (.int .i64 (a : Int)) ∧ W.cell? ⟨w.heap.size, 1, none⟩ = some (.int .i64 (b : Int)) ∧ Fr (fun _ => False) w1 W)
    (first | exact HO.out _ D.out | exact HO.out _ ((frT (by assumption)).alloc _) | exact HO.out _ (((Fr.refl _ _).alloc _).alloc _).drew)
    (first | fail)
  · have BB := hide (show Blk ((w1.alloc (.cells (Array.replicate m (.slice none 0 0)) 37)).alloc (.cells #[.int .i64 (a : Int), .int .i64 (b : Int), .slice (some ⟨w1.heap.size, 0, none⟩) m m] 43)).drew w1.heap.size 37 (Array.replicate m (.slice none 0 0)) from ((Blk.new w1 _ _).alloc _).drew)
    have BS := hide (show Blk ((w1.alloc (.cells (Array.replicate m (.slice none 0 0)) 37)).alloc (.cells #[.int .i64 (a : Int), .int .i64 (b : Int), .slice (some ⟨w1.heap.size, 0, none⟩) m m] 43)).drew (w1.heap.size + 1) 43 #[.int .i64 (a : Int), .int .i64 (b : Int), .slice (some ⟨w1.heap.size, 0, none⟩) m m] by
      have := (Blk.new (w1.alloc (.cells (Array.replicate m (.slice none 0 0)) 37)) 43 #[.int .i64 (a : Int), .int .i64 (b : Int), .slice (some ⟨w1.heap.size, 0, none⟩) m m]).drew
      simpa using this)
    have FW := hide (show Fr (fun _ => False) w1 ((w1.alloc (.cells (Array.replicate m (.slice none 0 0)) 37)).alloc (.cells #[.int .i64 (a : Int), .int .i64 (b : Int), .slice (some ⟨w1.heap.size, 0, none⟩) m m] 43)).drew from (((Fr.refl _ _).alloc _).alloc _).drew)
    generalize ((w1.alloc (.cells (Array.replicate m (.slice none 0 0)) 37)).alloc (.cells #[.int .i64 (a : Int), .int .i64 (b : Int), .slice (some ⟨w1.heap.size, 0, none⟩) m m] 43)).drew = W1 at *
    obtain ⟨HH, hHH⟩ : ∃ x, W1.heap.size = x := ⟨_, rfl⟩
    have lB := BB.out.lt
    have lS := BS.out.lt
    have lP := BP.out.lt
    have lR := BR.out.lt
    have lW := F1.out.size
    have lW1 := FW.out.size
    have BP1 := hide (BP.out.fr FW.out (fun h => h))
    have BR1 := hide (BR.out.fr FW.out (fun h => h))
    have HR0 := hide (rows_new BB.out rfl (show w1.heap.size < HH by omega) l a)
    have F2 := hide (F1.out.then_ FW.out)
    clear BB BP BR F1 FW D HO
    go_wp2_with fail
    go_loopw [24] (fun i wr => ∃ k : Nat, k ≤ n ∧ i = .int .i64 k ∧ Hid (RowsAt wr HH w1.heap.size (rowsK l a m k) ∧ Fr (fun k => k = w1.heap.size) W1 wr)) (fun i _ => n - (intOf i).toNat)
    case atStart => exact ⟨0, by omega, rfl, HR0.out, Fr.refl _ _⟩
    case round =>
      obtain ⟨k, hk, rfl, HI⟩ := hrel
      by_cases hlt : k < n
      · have lk : k < l.length := by rw [HN.out]; exact hlt
        have HF := hide (F2.out.trans HI.out.2 (fun k h => .inr (by omega)))
        obtain ⟨b2, o2, rfl, hb2, hr⟩ := EdgesAt.cells (k := k) (show EdgesAt wr A l from by
          have := (H.out.fr (F2.out.mono (S' := fun k => k = w1.heap.size) (fun k h => h.elim) |>.trans HI.out.2 (fun k h => .inl h)) (Nat.le_refl _) (by intro k h; omega)).more HF.out.size
          exact this) lk
        have HT := hide (show l.take (k + 1) = l.take k ++ [l[k]] from List.take_succ_eq_append_getElem lk)
        obtain ⟨e1, e2⟩ := HE.out _ (List.getElem_mem lk)
        generalize l[k]'lk = y at *
        obtain ⟨u, v⟩ := y
        simp only at e1 e2
        have y0 := hr 0 _ rfl
        have y1 := hr 1 _ rfl
        rw [Nat.mul_comm 2 k, Nat.add_zero] at y0
        rw [Nat.mul_comm 2 k] at y1
        clear hr
        have HP := hide (BP1.out.fr HI.out.2 (by omega))
        have HSx := hide (BS.out.fr HI.out.2 (by omega))
        have p0 : ∀ o, (wr.alloc o).cell? ⟨w.heap.size, 0, none⟩ = some (.int .i64 (a : Int)) := fun o => ((HP.out.alloc o).cell 0).trans rfl
        have p1 : ∀ o, (wr.alloc o).cell? ⟨w.heap.size, 1, none⟩ = some (.int .i64 (b : Int)) := fun o => ((HP.out.alloc o).cell 1).trans rfl
        by_cases hu : a ≤ u ∧ u < b
        · obtain ⟨hu1, hu2⟩ := hu
          obtain ⟨d, hd⟩ : ∃ d, u - a = d := ⟨_, rfl⟩
          have had : a + d = u := by omega
          obtain ⟨A3, c3, hv3, ho3⟩ := HI.out.1.row (rowsK_at (l := l) (a := a) (m := m) (k := k) (i := d) (by omega))
          rw [had] at hv3 ho3
          have HQ := hide (rowsK_in (a := a) (m := m) HT.out hu1 (show u < a + m by omega))
          have HL3 := hide ho3.lt
          have hql : (outs (l.take k) u).length ≤ 4000 := by
            have h1 := outs_len (l.take k) u
            have h2 := HN.out
            simp at h1
            omega
          obtain ⟨q, hq⟩ : ∃ q, (outs (l.take k) u).length = q := ⟨_, rfl⟩
          rw [hq] at hv3 ho3 HL3 hql
          have HO3 := hide (ho3.alloc (.cells #[.int .i64 (u : Int), .int .i64 (v : Int)] 59))
          have HV3 := hide (((Fr.refl (fun _ => False) wr).alloc (.cells #[.int .i64 (u : Int), .int .i64 (v : Int)] 59)).cell hv3 (fun h => h))
          have lw := HI.out.2.size
          have lP2 := HP.out.lt
          have lS2 := HSx.out.lt
          clear hv3 ho3
          go_wp2_with fail
          have HX := hide (Blk.new wr 59 #[.int .i64 (u : Int), .int .i64 (v : Int)])
          have HP2 := hide (HP.out.alloc (.cells #[.int .i64 (u : Int), .int .i64 (v : Int)] 59))
          have HS2 := hide (HSx.out.alloc (.cells #[.int .i64 (u : Int), .int .i64 (v : Int)] 59))
          have HR2 := hide (HI.out.1.fr ((Fr.refl (fun _ => False) wr).alloc (.cells #[.int .i64 (u : Int), .int .i64 (v : Int)] 59)))
          have FX := hide (HI.out.2.alloc (.cells #[.int .i64 (u : Int), .int .i64 (v : Int)] 59))
          have LX := hide (show (wr.alloc (.cells #[.int .i64 (u : Int), .int .i64 (v : Int)] 59)).heap.size = wr.heap.size + 1 by simp)
          generalize wr.alloc (.cells #[.int .i64 (u : Int), .int .i64 (v : Int)] 59) = W2 at *
          clear y0 y1 p0 p1
          have hwd : IntKind.i64.wrap ((u : Int) - (a : Int)) = (d : Int) := by simp only [IntKind.wrap, IntKind.bits, IntKind.signed]; simp; omega
          have bd0 : (0 : Int) ≤ (d : Int) := by omega
          have bd1 : (d : Int) < (m : Int) := by omega
          have HO2 := hide (fun W (h : Fr (fun k => (Value.slice A3 q c3).ownBlock = some k) W2 W) => show W.cell? ⟨(w1.heap.size+1), 2, none⟩ = some (.slice (some ⟨w1.heap.size, 0, none⟩) m m) ∧ W.cell? ⟨wr.heap.size, 0, none⟩ = some (.int .i64 (u : Int)) ∧ W.cell? ⟨wr.heap.size, 1, none⟩ = some (.int .i64 (v : Int)) ∧ W.cell? ⟨w.heap.size, 0, none⟩ = some (.int .i64 (a : Int)) ∧ W.cell? ⟨w1.heap.size, d, none⟩ = some (.slice A3 q c3) ∧ Fr (fun k => (Value.slice A3 q c3).ownBlock = some k) W2 W from
            ⟨h.cell ((HS2.out.cell 2).trans rfl) (fun e => by have := (HL3.out _ e).1; simp only at this; omega), h.cell ((HX.out.cell 0).trans rfl) (fun e => by have := (HL3.out _ e).2; simp only at this; omega), h.cell ((HX.out.cell 1).trans rfl) (fun e => by have := (HL3.out _ e).2; simp only at this; omega),
              h.cell ((HP2.out.cell 0).trans rfl) (fun e => by have := (HL3.out _ e).1; simp only at this; omega), h.cell HV3.out (fun e => by have := (HL3.out _ e).1; simp only at this; omega), h⟩)
          refine wp_region_phased 18 2 1 (fun W => W.cell? ⟨(w1.heap.size+1), 2, none⟩ = some (.slice (some ⟨w1.heap.size, 0, none⟩) m m) ∧ W.cell? ⟨wr.heap.size, 0, none⟩ = some (.int .i64 (u : Int)) ∧ W.cell? ⟨wr.heap.size, 1, none⟩ = some (.int .i64 (v : Int)) ∧ W.cell? ⟨w.heap.size, 0, none⟩ = some (.int .i64 (a : Int)) ∧ W.cell? ⟨w1.heap.size, d, none⟩ = some (.slice A3 q c3) ∧ Fr (fun k => (Value.slice A3 q c3).ownBlock = some k) W2 W)
            (by kernel_rfl) (by kernel_rfl) (HO2.out _ (Fr.refl _ _).drew) ?_
          simp only [List.take_succ_cons, List.take_zero, List.drop_succ_cons, List.drop_zero]
          iterate 18
            refine wpReads_cons rfl ?_ (fun W hS => ?_) ?_
            rotate_left
            · (obtain ⟨s0, s1, s2, s3, s4, s5⟩ := hS; go_simp; try with_reducible rfl)
            simp only [Act.put, List.setIfInBounds_toArray, List.set_cons_zero, List.set_cons_succ]
          refine (show wpMid _ _ _ _ _ _ _ _ from ?_)
          simp only [wpMid]
          go_wp2
          refine midQ_ok (HO2.out _ ((Fr.refl _ _).drew.alloc _)) ?_
          have hown3 : W2.drew.ownsRow HH 3 1 (.slice A3 q c3) q (ivals (outs (l.take k) u)) := HO3.out
          rw [show (W2.alloc (.cells #[.int .i64 (v : Int)] 3)).drew = W2.drew.alloc (.cells #[.int .i64 (v : Int)] 3) from rfl]
          refine wpList_append_box W2.drew _ _ rfl (.tmp 55) (.tmp 58) _ rfl HH 3 i1 _ 1 8 Tryz.underlying37 hj hj0 hj1 hj2 rfl (by decide) _ _ _ rfl hown3 rfl rfl ?d1 ?d2 ?d3 ?d4 ?d5
          case d1 => simp [Value.oneCell']
          case d2 => unfold maxLen; omega
          case d3 => omega
          case d4 => have h1 := LX.out; have h2 := W2.drew.heap.size; show HH ≤ W2.heap.size; omega
          case d5 =>
            intro v4 w4 hown4 hg4 hn4
            obtain ⟨A4, c4, rfl⟩ := Reads.own_val hown4
            have F4 : Fr (fun k => (Value.slice A3 q c3).ownBlock = some k) W2 w4 := ((Fr.refl _ W2).drew).trans (Fr.of_grown hg4) (fun k hk => .inl hk)
            have HF4 := hide F4
            refine midQ_ok (HO2.out _ F4) ?_
            obtain ⟨s0, s1, s2, s3, s4, s5⟩ := HO2.out _ F4
            have hBn : ¬ ((Value.slice A3 q c3).ownBlock = some (w1.heap.size)) := fun e => by have := (HL3.out _ e).1; omega
            have f4 : w4.frozen? ⟨w1.heap.size, d, none⟩ = false := by rw [F4.frozen (a := ⟨w1.heap.size, d, none⟩) HR2.out.lt hBn]; exact HR2.out.frozen d
            have HR4 := hide (RowsAt.turn (w' := w4) (v' := .slice A4 (q + 1) c4) (l' := outs (l.take k) u ++ [v]) HR2.out (i := d) (by have := rowsK_at (l := l) (a := a) (m := m) (k := k) (i := d) (by omega); rw [had] at this; exact this) HV3.out
              ⟨hg4.os, hg4.tape, hg4.output, hg4.size, hg4.block⟩ (by
                have h := hown4
                rw [show (outs (l.take k) u ++ [v]).length = q + 1 by simp [hq], show ivals (outs (l.take k) u ++ [v]) = ivals (outs (l.take k) u) ++ [.int .i64 (v : Int)] by simp [ivals]]
                exact h) (by
                rcases hn4 with h | h
                · exact .inl h
                · exact .inr ⟨_, h, Nat.le_succ _⟩))
            have FQ := hide ((FX.out.trans F4 (fun k h => .inr (by have := (HL3.out _ h).1; omega))).setCell (p := ⟨w1.heap.size, d, none⟩) (.inl rfl) (.slice A4 (q + 1) c4))
            clear s0 s1 s2 s3 s5 F4 hown3 hown4 hg4 hn4 HO2
            go_wp2
            refine NoPanic.normal ?_
            go_wp2
            go_roundw
            case rel =>
              refine ⟨k + 1, by omega, by go_num, ?_, FQ.out⟩
              rw [HQ.out, hd]
              exact HR4.out
            case measure => simp [intOf]; omega
        · have HQ := hide (rowsK_out (a := a) (m := m) HT.out (show u < a ∨ a + m ≤ u by omega))
          have HR4 := hide (HI.out.1.fr ((Fr.refl (fun _ => False) wr).alloc (.cells #[.int .i64 (u : Int), .int .i64 (v : Int)] 59)))
          have FQ := hide (HI.out.2.alloc (.cells #[.int .i64 (u : Int), .int .i64 (v : Int)] 59))
          have hcase : u < a ∨ (a ≤ u ∧ b ≤ u) := by omega
          rcases hcase with hc | ⟨hc1, hc2⟩
          · go_wp2
            go_roundw
            case rel => exact ⟨k + 1, by omega, by go_num, by rw [HQ.out]; exact HR4.out, FQ.out⟩
            case measure => simp [intOf]; omega
          · go_wp2
            go_roundw
            case rel => exact ⟨k + 1, by omega, by go_num, by rw [HQ.out]; exact HR4.out, FQ.out⟩
            case measure => simp [intOf]; omega
      · obtain rfl : k = n := by omega
        have hfull : l.take k = l := List.take_of_length_le (by rw [HN.out]; exact Nat.le_refl _)
        have HLL := hide (fun i (h : i < m) => (show (rowsK l a m k)[i]? = some (outs l (a + i)) by have := rowsK_at (l := l) (a := a) (k := k) h; rwa [hfull] at this))
        have HSr := hide (BS.out.fr HI.out.2 (by omega))
        have lw := HI.out.2.size
        have x2 : wr.cell? ⟨(w1.heap.size+1), 2, none⟩ = some (.slice (some ⟨w1.heap.size, 0, none⟩) m m) := (HSr.out.cell 2).trans rfl
        have HLR := hide (lists_rows l a m k (by rw [HN.out]; exact Nat.le_refl _))
        have HLN := hide (rowsK_len l a m k)
        generalize rowsK l a m k = LL at *
        go_wp2_with fail
        go_loopw [65] (fun i wq => ∃ j : Nat, j ≤ m ∧ i = .int .i64 j ∧ Hid (RowsAt wq HH w1.heap.size LL ∧ Fr (fun k => k = w1.heap.size) W1 wq)) (fun i _ => m - (intOf i).toNat)
        case atStart => exact ⟨0, by omega, rfl, HI.out.1, HI.out.2⟩
        case round =>
          obtain ⟨j, hj', rfl, HJ⟩ := hrel
          by_cases hjm : j < m
          · obtain ⟨A3, c3, hv3, ho3⟩ := HJ.out.1.row (HLL.out j hjm)
            have HO3 := hide ho3
            have hql : (outs l (a + j)).length ≤ 4096 := by have := outs_len l (a + j); have := HN.out; omega
            have HPS := hide (Gr.outs_sorted HS.out (a + j))
            obtain ⟨zs, hzs⟩ : ∃ zs, outs l (a + j) = zs := ⟨_, rfl⟩
            have HLj := hide (HLL.out j hjm)
            rw [hzs] at hv3 HO3 hql HPS HLj
            clear ho3
            have HSq := hide (BS.out.fr HJ.out.2 (by omega))
            have x3 : wr.cell? ⟨(w1.heap.size+1), 2, none⟩ = some (.slice (some ⟨w1.heap.size, 0, none⟩) m m) := (HSq.out.cell 2).trans rfl
            have HV3 := hide hv3
            have HL3 := hide HO3.out.lt
            have lwq := HJ.out.2.size
            clear x2
            go_wp2_with fail
            go_at_call 27
            refine (sort_own HO3.out HPS.out hql).mono ?_
            rintro e w5 ⟨rfl, hg5, ho5⟩
            have F5 : Fr (fun k => (Value.slice A3 zs.length c3).ownBlock = some k) wr w5 := Fr.of_grown hg5
            have HR5 := hide (HJ.out.1.same HLj.out HV3.out hg5 ho5)
            have HO5 := hide ho5
            have HV5 := hide (F5.cell HV3.out (fun e => by have := (HL3.out _ e).1; simp only at this; omega))
            have x5 : w5.cell? ⟨(w1.heap.size+1), 2, none⟩ = some (.slice (some ⟨w1.heap.size, 0, none⟩) m m) := F5.cell x3 (fun e => by have := (HL3.out _ e).1; simp only at this; omega)
            have FQ5 := hide (HJ.out.2.trans F5 (fun k h => .inr (by have := (HL3.out _ h).1; omega)))
            clear hg5 ho5 F5 x3 hv3
            go_wp2_with fail
            refine wp_region_phased 4 1 1 (fun W => W.cell? ⟨(w1.heap.size+1), 2, none⟩ = some (.slice (some ⟨w1.heap.size, 0, none⟩) m m)) (by kernel_rfl) (by kernel_rfl) x5 ?_
            simp only [List.take_succ_cons, List.take_zero, List.drop_succ_cons, List.drop_zero]
            iterate 4
              refine wpReads_cons rfl ?_ (fun W hS => ?_) ?_
              rotate_left
              · (go_simp; try with_reducible rfl)
              simp only [Act.put, List.setIfInBounds_toArray, List.set_cons_zero, List.set_cons_succ]
            refine (show wpMid _ _ _ _ _ _ _ _ from ?_)
            simp only [wpMid]
            go_wp2_with fail
            go_at_call 28
            refine (compact_own (w := w5.drew) HO5.out HPS.out hql).mono ?_
            rintro e w6 ⟨rfl, hg6, ho6⟩
            have F6 : Fr (fun k => (Value.slice A3 zs.length c3).ownBlock = some k) w5 w6 := ((Fr.refl _ w5).drew).trans (Fr.of_grown hg6) (fun k hk => .inl hk)
            have HR6 := hide (HR5.out.same HLj.out HV5.out ⟨hg6.os, hg6.tape, hg6.output, hg6.size, hg6.block⟩ ho6)
            have HV6 := hide (F6.cell HV5.out (fun e => by have := (HL3.out _ e).1; simp only at this; omega))
            have x6 : w6.cell? ⟨(w1.heap.size+1), 2, none⟩ = some (.slice (some ⟨w1.heap.size, 0, none⟩) m m) := F6.cell x5 (fun e => by have := (HL3.out _ e).1; simp only at this; omega)
            have FQ6 := hide (FQ5.out.trans F6 (fun k h => .inr (by have := (HL3.out _ h).1; omega)))
            have HR7 := hide (RowsAt.turn (w' := w6) (v' := .slice A3 zs.length c3) (l' := zs) HR6.out HLj.out HV6.out ⟨rfl, rfl, rfl, Nat.le_refl _, fun _ _ _ => rfl⟩ ho6 (.inl rfl))
            have HLs := hide (show LL.set j zs = LL by
              obtain ⟨h1, h2⟩ := List.getElem?_eq_some_iff.1 HLj.out
              rw [← h2]; exact List.set_getElem_self h1)
            have FQ7 := hide (FQ6.out.setCell (p := ⟨w1.heap.size, j, none⟩) (.inl rfl) (.slice A3 zs.length c3))
            clear hg6 ho6 F6 x5
            try go_wp2
            refine midQ_ok x6 ?_
            have c6 := HV6.out
            have f6 : w6.frozen? ⟨w1.heap.size, j, none⟩ = false := HR6.out.frozen j
            clear x6
            go_wp2
            refine NoPanic.normal ?_
            go_wp2
            go_roundw
            case rel => exact ⟨j + 1, by omega, by go_num, by have := HR7.out; rw [HLs.out] at this; exact this, FQ7.out⟩
            case measure => simp [intOf]; omega
          · obtain rfl : j = m := by omega
            have HSq := hide (BS.out.fr HJ.out.2 (by omega))
            have HRq := hide (BR1.out.fr HJ.out.2 (by omega))
            have x0 : wr.cell? ⟨(w1.heap.size+1), 0, none⟩ = some (.int .i64 (a : Int)) := (HSq.out.cell 0).trans rfl
            have x1 : wr.cell? ⟨(w1.heap.size+1), 1, none⟩ = some (.int .i64 (b : Int)) := (HSq.out.cell 1).trans rfl
            have x3 : wr.cell? ⟨(w1.heap.size+1), 2, none⟩ = some (.slice (some ⟨w1.heap.size, 0, none⟩) j j) := (HSq.out.cell 2).trans rfl
            have z0 : wr.cell? ⟨w.heap.size + 1, 0, none⟩ = some (.int .i64 0) := (HRq.out.cell 0).trans rfl
            have z1 : wr.cell? ⟨w.heap.size + 1, 1, none⟩ = some (.int .i64 0) := (HRq.out.cell 1).trans rfl
            have z2 : wr.cell? ⟨w.heap.size + 1, 2, none⟩ = some (.slice none 0 0) := (HRq.out.cell 2).trans rfl
            have zf0 := HRq.out.frozen 0
            have zf1 := HRq.out.frozen 1
            have zf2 := HRq.out.frozen 2
            clear x2
            have HB4 := ((HRq.out.set_ 0 (.int .i64 (a : Int))).set_ 1 (.int .i64 (b : Int))).set_ 2 (.slice (some ⟨w1.heap.size, 0, none⟩) j j)
            have HR4 := hide (((HJ.out.1.far (g := w.heap.size + 1) (i := 0) (.int .i64 (a : Int)) (by omega) (by omega)).far (g := w.heap.size + 1) (i := 1) (.int .i64 (b : Int)) (by omega) (by omega)).far (g := w.heap.size + 1) (i := 2) (.slice (some ⟨w1.heap.size, 0, none⟩) j j) (by omega) (by omega))
            have FF := hide ((((F2.out.trans HJ.out.2 (fun k h => .inr (by omega))).setCell (p := ⟨w.heap.size + 1, 0, none⟩) (.inr (Nat.le_succ _)) (.int .i64 (a : Int))).setCell (p := ⟨w.heap.size + 1, 1, none⟩) (.inr (Nat.le_succ _)) (.int .i64 (b : Int))).setCell (p := ⟨w.heap.size + 1, 2, none⟩) (.inr (Nat.le_succ _)) (.slice (some ⟨w1.heap.size, 0, none⟩) j j))
            have e0 := (HB4.cell 0).trans rfl
            have e1 := (HB4.cell 1).trans rfl
            have e2 := (HB4.cell 2).trans rfl
            clear HB4
            go_wp2
            (try simp only [Exit.inBlock, Exit.then])
            refine bodyPost_ret (by simp [results, Tryz.results16, go_sem, e0, e1, e2]; try rfl) rfl ?_
            refine ⟨_, rfl, ?_, FF.out⟩
            intro S w' hf' hs'
            rw [← HLR.out]
            exact (HR4.out.frS hf' (fun k hk => by
              rcases hk with rfl | ⟨h1, h2⟩
              · exact hs' _ (by omega) HR4.out.lt
              · exact hs' _ (by omega) h2)).lists HLN.out (fun x hx => by
              obtain ⟨i, hi', rfl⟩ := List.getElem_of_mem hx
              have h1 := HLL.out i (by rw [← HLN.out]; exact hi')
              rw [List.getElem?_eq_getElem hi'] at h1
              rw [Option.some.inj h1]
              have := outs_len l (a + i)
              have := HN.out
              omega)
  · have BS := hide (show Blk ((w1.alloc (.cells #[.int .i64 (a : Int), .int .i64 (b : Int), .slice (some ⟨w1.heap.size + 1, 0, none⟩) m m] 43)).alloc (.cells (Array.replicate m (.slice none 0 0)) 37)).drew w1.heap.size 43 #[.int .i64 (a : Int), .int .i64 (b : Int), .slice (some ⟨w1.heap.size + 1, 0, none⟩) m m] from ((Blk.new w1 _ _).alloc _).drew)
    have BB := hide (show Blk ((w1.alloc (.cells #[.int .i64 (a : Int), .int .i64 (b : Int), .slice (some ⟨w1.heap.size + 1, 0, none⟩) m m] 43)).alloc (.cells (Array.replicate m (.slice none 0 0)) 37)).drew (w1.heap.size + 1) 37 (Array.replicate m (.slice none 0 0)) by
      have := (Blk.new (w1.alloc (.cells #[.int .i64 (a : Int), .int .i64 (b : Int), .slice (some ⟨w1.heap.size + 1, 0, none⟩) m m] 43)) 37 (Array.replicate m (.slice none 0 0))).drew
      simpa using this)
    have FW := hide (show Fr (fun _ => False) w1 ((w1.alloc (.cells #[.int .i64 (a : Int), .int .i64 (b : Int), .slice (some ⟨w1.heap.size + 1, 0, none⟩) m m] 43)).alloc (.cells (Array.replicate m (.slice none 0 0)) 37)).drew from (((Fr.refl _ _).alloc _).alloc _).drew)
    generalize ((w1.alloc (.cells #[.int .i64 (a : Int), .int .i64 (b : Int), .slice (some ⟨w1.heap.size + 1, 0, none⟩) m m] 43)).alloc (.cells (Array.replicate m (.slice none 0 0)) 37)).drew = W1 at *
    obtain ⟨HH, hHH⟩ : ∃ x, W1.heap.size = x := ⟨_, rfl⟩
    have lB := BB.out.lt
    have lS := BS.out.lt
    have lP := BP.out.lt
    have lR := BR.out.lt
    have lW := F1.out.size
    have lW1 := FW.out.size
    have BP1 := hide (BP.out.fr FW.out (fun h => h))
    have BR1 := hide (BR.out.fr FW.out (fun h => h))
    have HR0 := hide (rows_new BB.out rfl (show (w1.heap.size+1) < HH by omega) l a)
    have F2 := hide (F1.out.then_ FW.out)
    clear BB BP BR F1 FW D HO
    go_wp2_with fail
    go_loopw [24] (fun i wr => ∃ k : Nat, k ≤ n ∧ i = .int .i64 k ∧ Hid (RowsAt wr HH (w1.heap.size+1) (rowsK l a m k) ∧ Fr (fun k => k = (w1.heap.size+1)) W1 wr)) (fun i _ => n - (intOf i).toNat)
    case atStart => exact ⟨0, by omega, rfl, HR0.out, Fr.refl _ _⟩
    case round =>
      obtain ⟨k, hk, rfl, HI⟩ := hrel
      by_cases hlt : k < n
      · have lk : k < l.length := by rw [HN.out]; exact hlt
        have HF := hide (F2.out.trans HI.out.2 (fun k h => .inr (by omega)))
        obtain ⟨b2, o2, rfl, hb2, hr⟩ := EdgesAt.cells (k := k) (show EdgesAt wr A l from by
          have := (H.out.fr (F2.out.mono (S' := fun k => k = (w1.heap.size+1)) (fun k h => h.elim) |>.trans HI.out.2 (fun k h => .inl h)) (Nat.le_refl _) (by intro k h; omega)).more HF.out.size
          exact this) lk
        have HT := hide (show l.take (k + 1) = l.take k ++ [l[k]] from List.take_succ_eq_append_getElem lk)
        obtain ⟨e1, e2⟩ := HE.out _ (List.getElem_mem lk)
        generalize l[k]'lk = y at *
        obtain ⟨u, v⟩ := y
        simp only at e1 e2
        have y0 := hr 0 _ rfl
        have y1 := hr 1 _ rfl
        rw [Nat.mul_comm 2 k, Nat.add_zero] at y0
        rw [Nat.mul_comm 2 k] at y1
        clear hr
        have HP := hide (BP1.out.fr HI.out.2 (by omega))
        have HSx := hide (BS.out.fr HI.out.2 (by omega))
        have p0 : ∀ o, (wr.alloc o).cell? ⟨w.heap.size, 0, none⟩ = some (.int .i64 (a : Int)) := fun o => ((HP.out.alloc o).cell 0).trans rfl
        have p1 : ∀ o, (wr.alloc o).cell? ⟨w.heap.size, 1, none⟩ = some (.int .i64 (b : Int)) := fun o => ((HP.out.alloc o).cell 1).trans rfl
        by_cases hu : a ≤ u ∧ u < b
        · obtain ⟨hu1, hu2⟩ := hu
          obtain ⟨d, hd⟩ : ∃ d, u - a = d := ⟨_, rfl⟩
          have had : a + d = u := by omega
          obtain ⟨A3, c3, hv3, ho3⟩ := HI.out.1.row (rowsK_at (l := l) (a := a) (m := m) (k := k) (i := d) (by omega))
          rw [had] at hv3 ho3
          have HQ := hide (rowsK_in (a := a) (m := m) HT.out hu1 (show u < a + m by omega))
          have HL3 := hide ho3.lt
          have hql : (outs (l.take k) u).length ≤ 4000 := by
            have h1 := outs_len (l.take k) u
            have h2 := HN.out
            simp at h1
            omega
          obtain ⟨q, hq⟩ : ∃ q, (outs (l.take k) u).length = q := ⟨_, rfl⟩
          rw [hq] at hv3 ho3 HL3 hql
          have HO3 := hide (ho3.alloc (.cells #[.int .i64 (u : Int), .int .i64 (v : Int)] 59))
          have HV3 := hide (((Fr.refl (fun _ => False) wr).alloc (.cells #[.int .i64 (u : Int), .int .i64 (v : Int)] 59)).cell hv3 (fun h => h))
          have lw := HI.out.2.size
          have lP2 := HP.out.lt
          have lS2 := HSx.out.lt
          clear hv3 ho3
          go_wp2_with fail
          have HX := hide (Blk.new wr 59 #[.int .i64 (u : Int), .int .i64 (v : Int)])
          have HP2 := hide (HP.out.alloc (.cells #[.int .i64 (u : Int), .int .i64 (v : Int)] 59))
          have HS2 := hide (HSx.out.alloc (.cells #[.int .i64 (u : Int), .int .i64 (v : Int)] 59))
          have HR2 := hide (HI.out.1.fr ((Fr.refl (fun _ => False) wr).alloc (.cells #[.int .i64 (u : Int), .int .i64 (v : Int)] 59)))
          have FX := hide (HI.out.2.alloc (.cells #[.int .i64 (u : Int), .int .i64 (v : Int)] 59))
          have LX := hide (show (wr.alloc (.cells #[.int .i64 (u : Int), .int .i64 (v : Int)] 59)).heap.size = wr.heap.size + 1 by simp)
          generalize wr.alloc (.cells #[.int .i64 (u : Int), .int .i64 (v : Int)] 59) = W2 at *
          clear y0 y1 p0 p1
          have hwd : IntKind.i64.wrap ((u : Int) - (a : Int)) = (d : Int) := by simp only [IntKind.wrap, IntKind.bits, IntKind.signed]; simp; omega
          have bd0 : (0 : Int) ≤ (d : Int) := by omega
          have bd1 : (d : Int) < (m : Int) := by omega
          have HO2 := hide (fun W (h : Fr (fun k => (Value.slice A3 q c3).ownBlock = some k) W2 W) => show W.cell? ⟨w1.heap.size, 2, none⟩ = some (.slice (some ⟨(w1.heap.size+1), 0, none⟩) m m) ∧ W.cell? ⟨wr.heap.size, 0, none⟩ = some (.int .i64 (u : Int)) ∧ W.cell? ⟨wr.heap.size, 1, none⟩ = some (.int .i64 (v : Int)) ∧ W.cell? ⟨w.heap.size, 0, none⟩ = some (.int .i64 (a : Int)) ∧ W.cell? ⟨(w1.heap.size+1), d, none⟩ = some (.slice A3 q c3) ∧ Fr (fun k => (Value.slice A3 q c3).ownBlock = some k) W2 W from
            ⟨h.cell ((HS2.out.cell 2).trans rfl) (fun e => by have := (HL3.out _ e).1; simp only at this; omega), h.cell ((HX.out.cell 0).trans rfl) (fun e => by have := (HL3.out _ e).2; simp only at this; omega), h.cell ((HX.out.cell 1).trans rfl) (fun e => by have := (HL3.out _ e).2; simp only at this; omega),
              h.cell ((HP2.out.cell 0).trans rfl) (fun e => by have := (HL3.out _ e).1; simp only at this; omega), h.cell HV3.out (fun e => by have := (HL3.out _ e).1; simp only at this; omega), h⟩)
          refine wp_region_phased 18 2 1 (fun W => W.cell? ⟨w1.heap.size, 2, none⟩ = some (.slice (some ⟨(w1.heap.size+1), 0, none⟩) m m) ∧ W.cell? ⟨wr.heap.size, 0, none⟩ = some (.int .i64 (u : Int)) ∧ W.cell? ⟨wr.heap.size, 1, none⟩ = some (.int .i64 (v : Int)) ∧ W.cell? ⟨w.heap.size, 0, none⟩ = some (.int .i64 (a : Int)) ∧ W.cell? ⟨(w1.heap.size+1), d, none⟩ = some (.slice A3 q c3) ∧ Fr (fun k => (Value.slice A3 q c3).ownBlock = some k) W2 W)
            (by kernel_rfl) (by kernel_rfl) (HO2.out _ (Fr.refl _ _).drew) ?_
          simp only [List.take_succ_cons, List.take_zero, List.drop_succ_cons, List.drop_zero]
          iterate 18
            refine wpReads_cons rfl ?_ (fun W hS => ?_) ?_
            rotate_left
            · (obtain ⟨s0, s1, s2, s3, s4, s5⟩ := hS; go_simp; try with_reducible rfl)
            simp only [Act.put, List.setIfInBounds_toArray, List.set_cons_zero, List.set_cons_succ]
          refine (show wpMid _ _ _ _ _ _ _ _ from ?_)
          simp only [wpMid]
          go_wp2
          refine midQ_ok (HO2.out _ ((Fr.refl _ _).drew.alloc _)) ?_
          have hown3 : W2.drew.ownsRow HH 3 1 (.slice A3 q c3) q (ivals (outs (l.take k) u)) := HO3.out
          rw [show (W2.alloc (.cells #[.int .i64 (v : Int)] 3)).drew = W2.drew.alloc (.cells #[.int .i64 (v : Int)] 3) from rfl]
          refine wpList_append_box W2.drew _ _ rfl (.tmp 55) (.tmp 58) _ rfl HH 3 i1 _ 1 8 Tryz.underlying37 hj hj0 hj1 hj2 rfl (by decide) _ _ _ rfl hown3 rfl rfl ?d1 ?d2 ?d3 ?d4 ?d5
          case d1 => simp [Value.oneCell']
          case d2 => unfold maxLen; omega
          case d3 => omega
          case d4 => have h1 := LX.out; have h2 := W2.drew.heap.size; show HH ≤ W2.heap.size; omega
          case d5 =>
            intro v4 w4 hown4 hg4 hn4
            obtain ⟨A4, c4, rfl⟩ := Reads.own_val hown4
            have F4 : Fr (fun k => (Value.slice A3 q c3).ownBlock = some k) W2 w4 := ((Fr.refl _ W2).drew).trans (Fr.of_grown hg4) (fun k hk => .inl hk)
            have HF4 := hide F4
            refine midQ_ok (HO2.out _ F4) ?_
            obtain ⟨s0, s1, s2, s3, s4, s5⟩ := HO2.out _ F4
            have hBn : ¬ ((Value.slice A3 q c3).ownBlock = some ((w1.heap.size+1))) := fun e => by have := (HL3.out _ e).1; omega
            have f4 : w4.frozen? ⟨(w1.heap.size+1), d, none⟩ = false := by rw [F4.frozen (a := ⟨(w1.heap.size+1), d, none⟩) HR2.out.lt hBn]; exact HR2.out.frozen d
            have HR4 := hide (RowsAt.turn (w' := w4) (v' := .slice A4 (q + 1) c4) (l' := outs (l.take k) u ++ [v]) HR2.out (i := d) (by have := rowsK_at (l := l) (a := a) (m := m) (k := k) (i := d) (by omega); rw [had] at this; exact this) HV3.out
              ⟨hg4.os, hg4.tape, hg4.output, hg4.size, hg4.block⟩ (by
                have h := hown4
                rw [show (outs (l.take k) u ++ [v]).length = q + 1 by simp [hq], show ivals (outs (l.take k) u ++ [v]) = ivals (outs (l.take k) u) ++ [.int .i64 (v : Int)] by simp [ivals]]
                exact h) (by
                rcases hn4 with h | h
                · exact .inl h
                · exact .inr ⟨_, h, Nat.le_succ _⟩))
            have FQ := hide ((FX.out.trans F4 (fun k h => .inr (by have := (HL3.out _ h).1; omega))).setCell (p := ⟨(w1.heap.size+1), d, none⟩) (.inl rfl) (.slice A4 (q + 1) c4))
            clear s0 s1 s2 s3 s5 F4 hown3 hown4 hg4 hn4 HO2
            go_wp2
            refine NoPanic.normal ?_
            go_wp2
            go_roundw
            case rel =>
              refine ⟨k + 1, by omega, by go_num, ?_, FQ.out⟩
              rw [HQ.out, hd]
              exact HR4.out
            case measure => simp [intOf]; omega
        · have HQ := hide (rowsK_out (a := a) (m := m) HT.out (show u < a ∨ a + m ≤ u by omega))
          have HR4 := hide (HI.out.1.fr ((Fr.refl (fun _ => False) wr).alloc (.cells #[.int .i64 (u : Int), .int .i64 (v : Int)] 59)))
          have FQ := hide (HI.out.2.alloc (.cells #[.int .i64 (u : Int), .int .i64 (v : Int)] 59))
          have hcase : u < a ∨ (a ≤ u ∧ b ≤ u) := by omega
          rcases hcase with hc | ⟨hc1, hc2⟩
          · go_wp2
            go_roundw
            case rel => exact ⟨k + 1, by omega, by go_num, by rw [HQ.out]; exact HR4.out, FQ.out⟩
            case measure => simp [intOf]; omega
          · go_wp2
            go_roundw
            case rel => exact ⟨k + 1, by omega, by go_num, by rw [HQ.out]; exact HR4.out, FQ.out⟩
            case measure => simp [intOf]; omega
      · obtain rfl : k = n := by omega
        have hfull : l.take k = l := List.take_of_length_le (by rw [HN.out]; exact Nat.le_refl _)
        have HLL := hide (fun i (h : i < m) => (show (rowsK l a m k)[i]? = some (outs l (a + i)) by have := rowsK_at (l := l) (a := a) (k := k) h; rwa [hfull] at this))
        have HSr := hide (BS.out.fr HI.out.2 (by omega))
        have lw := HI.out.2.size
        have x2 : wr.cell? ⟨w1.heap.size, 2, none⟩ = some (.slice (some ⟨(w1.heap.size+1), 0, none⟩) m m) := (HSr.out.cell 2).trans rfl
        have HLR := hide (lists_rows l a m k (by rw [HN.out]; exact Nat.le_refl _))
        have HLN := hide (rowsK_len l a m k)
        generalize rowsK l a m k = LL at *
        go_wp2_with fail
        go_loopw [65] (fun i wq => ∃ j : Nat, j ≤ m ∧ i = .int .i64 j ∧ Hid (RowsAt wq HH (w1.heap.size+1) LL ∧ Fr (fun k => k = (w1.heap.size+1)) W1 wq)) (fun i _ => m - (intOf i).toNat)
        case atStart => exact ⟨0, by omega, rfl, HI.out.1, HI.out.2⟩
        case round =>
          obtain ⟨j, hj', rfl, HJ⟩ := hrel
          by_cases hjm : j < m
          · obtain ⟨A3, c3, hv3, ho3⟩ := HJ.out.1.row (HLL.out j hjm)
            have HO3 := hide ho3
            have hql : (outs l (a + j)).length ≤ 4096 := by have := outs_len l (a + j); have := HN.out; omega
            have HPS := hide (Gr.outs_sorted HS.out (a + j))
            obtain ⟨zs, hzs⟩ : ∃ zs, outs l (a + j) = zs := ⟨_, rfl⟩
            have HLj := hide (HLL.out j hjm)
            rw [hzs] at hv3 HO3 hql HPS HLj
            clear ho3
            have HSq := hide (BS.out.fr HJ.out.2 (by omega))
            have x3 : wr.cell? ⟨w1.heap.size, 2, none⟩ = some (.slice (some ⟨(w1.heap.size+1), 0, none⟩) m m) := (HSq.out.cell 2).trans rfl
            have HV3 := hide hv3
            have HL3 := hide HO3.out.lt
            have lwq := HJ.out.2.size
            clear x2
            go_wp2_with fail
            go_at_call 27
            refine (sort_own HO3.out HPS.out hql).mono ?_
            rintro e w5 ⟨rfl, hg5, ho5⟩
            have F5 : Fr (fun k => (Value.slice A3 zs.length c3).ownBlock = some k) wr w5 := Fr.of_grown hg5
            have HR5 := hide (HJ.out.1.same HLj.out HV3.out hg5 ho5)
            have HO5 := hide ho5
            have HV5 := hide (F5.cell HV3.out (fun e => by have := (HL3.out _ e).1; simp only at this; omega))
            have x5 : w5.cell? ⟨w1.heap.size, 2, none⟩ = some (.slice (some ⟨(w1.heap.size+1), 0, none⟩) m m) := F5.cell x3 (fun e => by have := (HL3.out _ e).1; simp only at this; omega)
            have FQ5 := hide (HJ.out.2.trans F5 (fun k h => .inr (by have := (HL3.out _ h).1; omega)))
            clear hg5 ho5 F5 x3 hv3
            go_wp2_with fail
            refine wp_region_phased 4 1 1 (fun W => W.cell? ⟨w1.heap.size, 2, none⟩ = some (.slice (some ⟨(w1.heap.size+1), 0, none⟩) m m)) (by kernel_rfl) (by kernel_rfl) x5 ?_
            simp only [List.take_succ_cons, List.take_zero, List.drop_succ_cons, List.drop_zero]
            iterate 4
              refine wpReads_cons rfl ?_ (fun W hS => ?_) ?_
              rotate_left
              · (go_simp; try with_reducible rfl)
              simp only [Act.put, List.setIfInBounds_toArray, List.set_cons_zero, List.set_cons_succ]
            refine (show wpMid _ _ _ _ _ _ _ _ from ?_)
            simp only [wpMid]
            go_wp2_with fail
            go_at_call 28
            refine (compact_own (w := w5.drew) HO5.out HPS.out hql).mono ?_
            rintro e w6 ⟨rfl, hg6, ho6⟩
            have F6 : Fr (fun k => (Value.slice A3 zs.length c3).ownBlock = some k) w5 w6 := ((Fr.refl _ w5).drew).trans (Fr.of_grown hg6) (fun k hk => .inl hk)
            have HR6 := hide (HR5.out.same HLj.out HV5.out ⟨hg6.os, hg6.tape, hg6.output, hg6.size, hg6.block⟩ ho6)
            have HV6 := hide (F6.cell HV5.out (fun e => by have := (HL3.out _ e).1; simp only at this; omega))
            have x6 : w6.cell? ⟨w1.heap.size, 2, none⟩ = some (.slice (some ⟨(w1.heap.size+1), 0, none⟩) m m) := F6.cell x5 (fun e => by have := (HL3.out _ e).1; simp only at this; omega)
            have FQ6 := hide (FQ5.out.trans F6 (fun k h => .inr (by have := (HL3.out _ h).1; omega)))
            have HR7 := hide (RowsAt.turn (w' := w6) (v' := .slice A3 zs.length c3) (l' := zs) HR6.out HLj.out HV6.out ⟨rfl, rfl, rfl, Nat.le_refl _, fun _ _ _ => rfl⟩ ho6 (.inl rfl))
            have HLs := hide (show LL.set j zs = LL by
              obtain ⟨h1, h2⟩ := List.getElem?_eq_some_iff.1 HLj.out
              rw [← h2]; exact List.set_getElem_self h1)
            have FQ7 := hide (FQ6.out.setCell (p := ⟨(w1.heap.size+1), j, none⟩) (.inl rfl) (.slice A3 zs.length c3))
            clear hg6 ho6 F6 x5
            try go_wp2
            refine midQ_ok x6 ?_
            have c6 := HV6.out
            have f6 : w6.frozen? ⟨(w1.heap.size+1), j, none⟩ = false := HR6.out.frozen j
            clear x6
            go_wp2
            refine NoPanic.normal ?_
            go_wp2
            go_roundw
            case rel => exact ⟨j + 1, by omega, by go_num, by have := HR7.out; rw [HLs.out] at this; exact this, FQ7.out⟩
            case measure => simp [intOf]; omega
          · obtain rfl : j = m := by omega
            have HSq := hide (BS.out.fr HJ.out.2 (by omega))
            have HRq := hide (BR1.out.fr HJ.out.2 (by omega))
            have x0 : wr.cell? ⟨w1.heap.size, 0, none⟩ = some (.int .i64 (a : Int)) := (HSq.out.cell 0).trans rfl
            have x1 : wr.cell? ⟨w1.heap.size, 1, none⟩ = some (.int .i64 (b : Int)) := (HSq.out.cell 1).trans rfl
            have x3 : wr.cell? ⟨w1.heap.size, 2, none⟩ = some (.slice (some ⟨(w1.heap.size+1), 0, none⟩) j j) := (HSq.out.cell 2).trans rfl
            have z0 : wr.cell? ⟨w.heap.size + 1, 0, none⟩ = some (.int .i64 0) := (HRq.out.cell 0).trans rfl
            have z1 : wr.cell? ⟨w.heap.size + 1, 1, none⟩ = some (.int .i64 0) := (HRq.out.cell 1).trans rfl
            have z2 : wr.cell? ⟨w.heap.size + 1, 2, none⟩ = some (.slice none 0 0) := (HRq.out.cell 2).trans rfl
            have zf0 := HRq.out.frozen 0
            have zf1 := HRq.out.frozen 1
            have zf2 := HRq.out.frozen 2
            clear x2
            have HB4 := ((HRq.out.set_ 0 (.int .i64 (a : Int))).set_ 1 (.int .i64 (b : Int))).set_ 2 (.slice (some ⟨(w1.heap.size+1), 0, none⟩) j j)
            have HR4 := hide (((HJ.out.1.far (g := w.heap.size + 1) (i := 0) (.int .i64 (a : Int)) (by omega) (by omega)).far (g := w.heap.size + 1) (i := 1) (.int .i64 (b : Int)) (by omega) (by omega)).far (g := w.heap.size + 1) (i := 2) (.slice (some ⟨(w1.heap.size+1), 0, none⟩) j j) (by omega) (by omega))
            have FF := hide ((((F2.out.trans HJ.out.2 (fun k h => .inr (by omega))).setCell (p := ⟨w.heap.size + 1, 0, none⟩) (.inr (Nat.le_succ _)) (.int .i64 (a : Int))).setCell (p := ⟨w.heap.size + 1, 1, none⟩) (.inr (Nat.le_succ _)) (.int .i64 (b : Int))).setCell (p := ⟨w.heap.size + 1, 2, none⟩) (.inr (Nat.le_succ _)) (.slice (some ⟨(w1.heap.size+1), 0, none⟩) j j))
            have e0 := (HB4.cell 0).trans rfl
            have e1 := (HB4.cell 1).trans rfl
            have e2 := (HB4.cell 2).trans rfl
            clear HB4
            go_wp2
            (try simp only [Exit.inBlock, Exit.then])
            refine bodyPost_ret (by simp [results, Tryz.results16, go_sem, e0, e1, e2]; try rfl) rfl ?_
            refine ⟨_, rfl, ?_, FF.out⟩
            intro S w' hf' hs'
            rw [← HLR.out]
            exact (HR4.out.frS hf' (fun k hk => by
              rcases hk with rfl | ⟨h1, h2⟩
              · exact hs' _ (by omega) HR4.out.lt
              · exact hs' _ (by omega) h2)).lists HLN.out (fun x hx => by
              obtain ⟨i, hi', rfl⟩ := List.getElem_of_mem hx
              have h1 := HLL.out i (by rw [← HLN.out]; exact hi')
              rw [List.getElem?_eq_getElem hi'] at h1
              rw [Option.some.inj h1]
              have := outs_len l (a + i)
              have := HN.out
              omega)
end Go.Proofs.YtjdbjahgimlhbaaGreat
end
section
set_option linter.unusedVariables false
set_option maxRecDepth 100000
namespace Go.Proofs.YtjdbjahgimlhbaaGreat
open Go.RowKit
open Gr (E outs lists)

/-- shards, one behind the other: from, to, lists -/
def shc (n s : Nat) : Nat → List Nat → List Value
  | _, [] => []
  | k, b :: bs => .int .i64 ((Gr.cut n s k : Nat) : Int) :: .int .i64 ((Gr.cut n s (k + 1) : Nat) : Int) :: .slice (some ⟨b, 0, none⟩) (Gr.cut n s (k + 1) - Gr.cut n s k) (Gr.cut n s (k + 1) - Gr.cut n s k) :: shc n s (k + 1) bs
theorem shc_snoc (n s B : Nat) : ∀ (bs : List Nat) (k : Nat), shc n s k (bs ++ [B]) = shc n s k bs ++ [.int .i64 ((Gr.cut n s (k + bs.length) : Nat) : Int), .int .i64 ((Gr.cut n s (k + bs.length + 1) : Nat) : Int), .slice (some ⟨B, 0, none⟩) (Gr.cut n s (k + bs.length + 1) - Gr.cut n s (k + bs.length)) (Gr.cut n s (k + bs.length + 1) - Gr.cut n s (k + bs.length))]
  | [], k => rfl
  | b :: bs, k => by
    simp only [List.cons_append, shc, shc_snoc n s B bs (k + 1), List.length_cons]
    rw [show k + 1 + bs.length = k + (bs.length + 1) by omega]
theorem shc_at (n s : Nat) : ∀ (bs : List Nat) (k j : Nat), j < bs.length → (shc n s k bs)[j * 3]? = some (.int .i64 ((Gr.cut n s (k + j) : Nat) : Int)) ∧ (shc n s k bs)[j * 3 + 1]? = some (.int .i64 ((Gr.cut n s (k + j + 1) : Nat) : Int)) ∧
    (shc n s k bs)[j * 3 + 2]? = some (.slice (some ⟨bs.getD j 0, 0, none⟩) (Gr.cut n s (k + j + 1) - Gr.cut n s (k + j)) (Gr.cut n s (k + j + 1) - Gr.cut n s (k + j)))
  | [], k, j, h => absurd h (by simp)
  | b :: bs, k, 0, h => by simp [shc]
  | b :: bs, k, j + 1, h => by
    have := shc_at n s bs (k + 1) j (by simpa using h)
    rw [show k + 1 + j = k + (j + 1) by omega] at this
    rw [show (j + 1) * 3 = j * 3 + 1 + 1 + 1 by omega, show j * 3 + 1 + 1 + 1 + 1 = (j * 3 + 1) + 1 + 1 + 1 by omega, show j * 3 + 1 + 1 + 1 + 2 = (j * 3 + 2) + 1 + 1 + 1 by omega]
    simpa [shc] using this
/-- shards in memory, all of it below K -/
def ShardsAt (w : World) (K : Nat) (A : Option Addr) (n s : Nat) (l : List E) : Prop :=
  K ≤ w.heap.size ∧ ∃ b o, A = some ⟨b, o, none⟩ ∧ b < K ∧ ∀ j, j < s → ∃ A', w.cell? ⟨b, o + j * 3, none⟩ = some (.int .i64 ((Gr.cut n s j : Nat) : Int)) ∧ w.cell? ⟨b, o + j * 3 + 1, none⟩ = some (.int .i64 ((Gr.cut n s (j + 1) : Nat) : Int)) ∧
    w.cell? ⟨b, o + j * 3 + 2, none⟩ = some (.slice A' (Gr.cut n s (j + 1) - Gr.cut n s j) (Gr.cut n s (j + 1) - Gr.cut n s j)) ∧ ListsAt w K A' (Gr.cut n s (j + 1) - Gr.cut n s j) (Gr.shardL l n s j)
theorem ShardsAt.fr {S : Nat → Prop} {w w' : World} {K n s : Nat} {A : Option Addr} {l : List E} (h : ShardsAt w K A n s l) (hf : Fr S w w') (hs : ∀ k, S k → K ≤ k) : ShardsAt w' K A n s l := by
  obtain ⟨h0, b, o, h1, h2, h3⟩ := h
  have hn : ¬ S b := fun h => by have := hs _ h; omega
  refine ⟨Nat.le_trans h0 hf.size, b, o, h1, h2, fun j hj => ?_⟩
  obtain ⟨A', e1, e2, e3, e4⟩ := h3 j hj
  exact ⟨A', hf.cell e1 hn, hf.cell e2 hn, hf.cell e3 hn, e4.fr hf h0 hs⟩
theorem shards_of_own {w : World} {base n s c : Nat} {A : Option Addr} {bs : List Nat} {l : List E} (h0 : 0 < s) (hb : bs.length = s) (ho : w.ownsRow base 43 3 (.slice A s c) s (shc n s 0 bs))
    (hl : ∀ j, j < s → ListsAt w w.heap.size (some ⟨bs.getD j 0, 0, none⟩) (Gr.cut n s (j + 1) - Gr.cut n s j) (Gr.shardL l n s j)) : ShardsAt w w.heap.size A n s l := by
  obtain ⟨b, o, e, hlt, hc⟩ := (Reads.of_own ho).2 h0
  refine ⟨Nat.le_refl _, b, o, e, hlt, fun j hj => ?_⟩
  obtain ⟨h1, h2, h3⟩ := shc_at n s bs 0 j (by omega)
  rw [Nat.zero_add] at h1 h2 h3
  exact ⟨_, hc _ _ h1, by have := hc _ _ h2; rwa [← Nat.add_assoc] at this, by have := hc _ _ h3; rwa [← Nat.add_assoc] at this, hl j hj⟩
theorem shard_info : (Tryz.prog.info? 43).map (fun i => (i.zero, i.size, i.bytes)) = some (some (.agg #[.int .i64 0, .int .i64 0, .slice none 0 0]), 3, 40) := by kernel_rfl
/-- how many shards -/
def shN (n many : Nat) : Nat := 1 + many % min n 16
theorem shN_ok {n : Nat} (h : 1 ≤ n) (many : Nat) : 1 ≤ shN n many ∧ shN n many ≤ n ∧ shN n many ≤ 16 := by
  have := Nat.mod_lt many (show 0 < min n 16 by omega)
  unfold shN
  omega
set_option maxHeartbeats 400000 in
theorem shards_any (A : Option Addr) (n q c many : Nat) (l : List E) (w : World) (h : EdgesAt w A l) (hm : l.length = q) (hmx : q ≤ 4000) (hs : Gr.Sorted l) (hn : 1 ≤ n) (hn2 : n ≤ 60) (hmany : many < 256) (hE : ∀ e ∈ l, e.1 < n ∧ e.2 < n ∧ e.1 ≠ e.2) :
    Calls Tryz.prog 7 #[.int .i64 (n : Int), .slice A q c, .int .u8 (many : Int)] w fun e w' => ∃ A' c', e = .returned (.slice A' (shN n many) c') ∧ ShardsAt w' w'.heap.size A' n (shN n many) l ∧ Fr (fun _ => False) w w' := by
  have H := hide h
  have HM := hide hm
  have HS := hide hs
  have HE := hide hE
  obtain ⟨h1s, hsn, hs16⟩ := shN_ok hn many
  obtain ⟨i0, hi, hz0, hz1, hz2⟩ := info_parts shard_info
  clear h hm hs hE
  have hg : wrap64 (1 + (many : Int) % min (n : Int) 16) = ((shN n many : Nat) : Int) := by
    have e : min (n : Int) 16 = ((min n 16 : Nat) : Int) := by omega
    have e2 : (many : Int) % ((min n 16 : Nat) : Int) = ((many % min n 16 : Nat) : Int) := rfl
    rw [e, e2]
    unfold shN at *
    unfold wrap64
    omega
  generalize shN n many = s at *
  go_enter Tryz.func7, Tryz.ntmps7
  go_wp2_with fail
  go_at_call 15
  rw [hg]
  refine (cut_any n s _ h1s hsn hs16 (by omega)).mono ?_
  rintro e w1 ⟨g, rfl, hg1, hp, hf⟩
  have HP := hide hp
  have HF := hide hf
  have lg := hp.1
  clear hp hf
  go_wp2_with fail
  go_loopw [9, 10] (fun v i wr => ∃ (k : Nat) (bs : List Nat) (A' : Option Addr) (c' : Nat), k ≤ s ∧ i = .int .i64 k ∧ v = .slice A' k c' ∧ bs.length = k ∧ Hid (wr.ownsRow w1.heap.size 43 3 (.slice A' k c') k (shc n s 0 bs) ∧ (∀ j, j < k → ∃ lo hi, ListsIn wr lo hi (some ⟨bs.getD j 0, 0, none⟩) (Gr.cut n s (j + 1) - Gr.cut n s j) (Gr.shardL l n s j) ∧ hi ≤ wr.heap.size ∧ ∀ g, (Value.slice A' k c').ownBlock = some g → g < lo ∨ hi ≤ g) ∧ Fr (fun _ => False) w1 wr)) (fun _ i _ => s - (intOf i).toNat)
  case atStart => exact ⟨0, [], none, 0, by omega, rfl, rfl, rfl, World.ownsRow_nil _ _ _ _, fun j h => absurd h (by omega), Fr.refl _ _⟩
  case round =>
    obtain ⟨k, bs, A', c', hk, rfl, rfl, hbs, HI⟩ := hrel
    by_cases hlt : k < s
    · have HPk := hide ((HP.out.fr HI.out.2.2 (fun h => h)).2 k hlt)
      have p0 := HPk.out.1
      have p1 := HPk.out.2
      have hlt2 := Gr.cut_lt (n := n) (s := s) (k := k) (by omega) hsn
      have hle2 := Gr.cut_le (n := n) (s := s) (k := k + 1) (by omega) (by omega)
      go_wp2_with fail
      go_at_call 16
      refine (make_any A q c (Gr.cut n s k) (Gr.cut n s (k + 1)) l _ (H.out.up (HF.out.then_ HI.out.2.2)) HM.out hmx HS.out hlt2 (by omega) (fun e he => by have := HE.out e he; omega)).mono ?_
      rintro e w2 ⟨B, rfl, hl2, hf2⟩
      obtain ⟨m, hm⟩ : ∃ m, Gr.cut n s (k + 1) - Gr.cut n s k = m := ⟨_, rfl⟩
      have HL2 := hide hl2
      have HF2 := hide (HI.out.2.2.then_ hf2)
      have hown2 := own_fr HI.out.1 hf2
      have hf2w := hide hf2
      have hb2 := HF2.out.size
      rw [hm]
      clear hl2 hf2 p0 p1
      go_wp2_with (at_builtin; refine wpList_append_box w2 _ _ rfl (.tmp 30) (.tmp 37) _ rfl w1.heap.size 43 i0 _ 3 40 Tryz.underlying35 hi hz0 hz1 hz2 rfl (by decide) _ _ _ rfl hown2 rfl rfl ?xc1 ?xc2 ?xc3 ?xc4 ?xc5)
      case xc1 => simp [Value.oneCell']
      case xc2 => unfold maxLen; omega
      case xc3 => omega
      case xc4 => exact hb2
      case xc5 =>
        intro v3 w3 hown3 hg3 hn3
        have F3 : Fr (fun _ => False) w1 w3 := HF2.out.grown hg3 (fun k hk => .inr ((hown2.lt k hk).1))
        obtain ⟨A3, c3, rfl⟩ := Reads.own_val hown3
        have HI3 := hide (show w3.ownsRow w1.heap.size 43 3 (.slice A3 (k + 1) c3) (k + 1) (shc n s 0 (bs ++ [B])) ∧ (∀ j, j < k + 1 → ∃ lo hi, ListsIn w3 lo hi (some ⟨(bs ++ [B]).getD j 0, 0, none⟩) (Gr.cut n s (j + 1) - Gr.cut n s j) (Gr.shardL l n s j) ∧ hi ≤ w3.heap.size ∧ ∀ g, (Value.slice A3 (k + 1) c3).ownBlock = some g → g < lo ∨ hi ≤ g) ∧ Fr (fun _ => False) w1 w3 from by
          refine ⟨?_, fun j hj => ?_, F3⟩
          · rw [shc_snoc, hbs, Nat.zero_add, hm]
            exact hown3
          · have F23 : Fr (fun g => (Value.slice A' k c').ownBlock = some g) w2 w3 := Fr.of_grown hg3
            have hnew : ∀ g, (Value.slice A3 (k + 1) c3).ownBlock = some g → (Value.slice A' k c').ownBlock = some g ∨ w2.heap.size ≤ g := fun g hg => by
              rcases hn3 with h | h
              · rw [h] at hg; exact .inl hg
              · rw [h] at hg; obtain rfl := Option.some.inj hg; exact .inr (by omega)
            by_cases hjk : j = k
            · subst hjk
              have e1 : (bs ++ [B]).getD j 0 = B := by simp [List.getD, ← hbs]
              rw [e1]
              refine ⟨wr.heap.size, w2.heap.size, HL2.out.fr F23 (fun g h1 h2 h3 => by have := (HI.out.1.lt g h3).2; omega), F23.size, fun g hg => ?_⟩
              rcases hnew g hg with h | h
              · exact .inl (HI.out.1.lt g h).2
              · exact .inr h
            · have hj2 : j < k := by omega
              have e1 : (bs ++ [B]).getD j 0 = bs.getD j 0 := by simp [List.getD, List.getElem?_append_left (show j < bs.length by omega)]
              rw [e1]
              obtain ⟨lo, hi', q1, q2, q3⟩ := HI.out.2.1 j hj2
              have hsz := hf2w.out.size
              refine ⟨lo, hi', (q1.fr hf2w.out (fun _ _ _ h => h)).fr F23 (fun g h1 h2 h3 => by have := q3 g h3; omega), by have := F23.size; omega, fun g hg => ?_⟩
              rcases hnew g hg with h | h
              · exact q3 g h
              · exact .inr (by omega))
        clear hown2 hown3 hg3 F3 hn3
        go_wp2
        go_roundw
        case rel => exact ⟨k + 1, bs ++ [B], A3, c3, by omega, by go_num, rfl, by simp [hbs], HI3.out⟩
        case measure => simp [intOf]; omega
    · obtain rfl : k = s := by omega
      have h0k : 0 < k := h1s
      have HA := hide (shards_of_own h0k hbs HI.out.1 (fun j hj => (HI.out.2.1 j hj).elim fun _ h => h.elim fun _ h => h.1.lists))
      have HFF := hide (HF.out.then_ HI.out.2.2)
      clear HI
      go_wp2
      go_ret
      exact ⟨_, _, rfl, HA.out, HFF.out⟩
end Go.Proofs.YtjdbjahgimlhbaaGreat
end
section
set_option linter.unusedVariables false
set_option maxRecDepth 100000
namespace Go.Proofs.YtjdbjahgimlhbaaGreat
open Go.RowKit
open Gr (E T)

theorem ShardsAt.at {w : World} {K b o n s i : Nat} {l : List E} (h : ShardsAt w K (some ⟨b, o, none⟩) n s l) (hi : i < s) : ∃ A vs, w.cell? ⟨b, o + i * 3, none⟩ = some (.int .i64 ((Gr.cut n s i : Nat) : Int)) ∧ w.cell? ⟨b, o + i * 3 + 1, none⟩ = some (.int .i64 ((Gr.cut n s (i + 1) : Nat) : Int)) ∧
    w.cell? ⟨b, o + i * 3 + 2, none⟩ = some (.slice A (Gr.cut n s (i + 1) - Gr.cut n s i) (Gr.cut n s (i + 1) - Gr.cut n s i)) ∧ ∀ (S : Nat → Prop) w', Fr S w w' → (∀ k, S k → K ≤ k) → LsAt w' vs A (Gr.cut n s (i + 1) - Gr.cut n s i) (Gr.shardL l n s i) := by
  obtain ⟨h0, b', o', e, hb, h3⟩ := h
  injection e with e
  injection e with e1 e2
  subst e1
  subst e2
  obtain ⟨A, x0, x1, x2, hl⟩ := h3 i hi
  obtain ⟨vs, hv⟩ := hl.name
  exact ⟨A, vs, x0, x1, x2, fun S w' hf hS => hv S w' hf h0 hS⟩
theorem ShardsAt.addr {w : World} {K n s : Nat} {A : Option Addr} {l : List E} (h : ShardsAt w K A n s l) : ∃ b o, A = some ⟨b, o, none⟩ ∧ b < K := by
  obtain ⟨h0, b', o', e, hb, h3⟩ := h
  exact ⟨_, _, e, hb⟩

/-- what some shards come to, one behind the other -/
def accL (step : List Nat → T → List Nat) (l : List E) (n s : Nat) (ys : List Nat) (o : List Nat) : List Nat := o.foldl (fun t j => (Gr.shardT l n s j).foldl step t) ys
theorem accL_nil (step : List Nat → T → List Nat) (l : List E) (n s : Nat) (ys : List Nat) : accL step l n s ys [] = ys := rfl
theorem accL_snoc (step : List Nat → T → List Nat) (l : List E) (n s : Nat) (ys o : List Nat) (j : Nat) : accL step l n s ys (o ++ [j]) = (Gr.shardT l n s j).foldl step (accL step l n s ys o) := by
  unfold accL
  rw [List.foldl_append]
  rfl
theorem accL_range (step : List Nat → T → List Nat) (l : List E) (n s : Nat) (ys : List Nat) (i : Nat) : accL step l n s ys (List.range (i + 1)) = (Gr.shardT l n s i).foldl step (accL step l n s ys (List.range i)) := by
  rw [List.range_succ]
  exact accL_snoc _ _ _ _ _ _ _
theorem accL_take (step : List Nat → T → List Nat) (l : List E) (n s : Nat) (ys o : List Nat) {i : Nat} (h : i < o.length) : accL step l n s ys (o.take (i + 1)) = (Gr.shardT l n s o[i]).foldl step (accL step l n s ys (o.take i)) := by
  rw [List.take_succ_eq_append_getElem h]
  exact accL_snoc _ _ _ _ _ _ _
theorem accL_flat (step : List Nat → T → List Nat) (l : List E) (n s : Nat) (ys o : List Nat) : accL step l n s ys o = (o.flatMap (Gr.shardT l n s)).foldl step ys := by
  unfold accL
  rw [Gr.foldl_flatMap]
theorem accL_all (step : List Nat → T → List Nat) (hc : ∀ t x y, step (step t x) y = step (step t y) x) (l : List E) (n s : Nat) (h0 : 0 < s) (h : ∀ e ∈ l, e.1 < n) (ys o : List Nat) (ho : o.Perm (List.range s)) : accL step l n s ys o = (Gr.flat l).foldl step ys := by
  rw [accL_flat]
  exact List.Perm.foldl_eq' (Gr.orderT_perm l n s h0 h o ho) (fun x _ y _ z => hc z x y) ys
theorem foldl_len {step : List Nat → T → List Nat} (hl : ∀ t x, (step t x).length = t.length) : ∀ (o : List T) (ys : List Nat), (o.foldl step ys).length = ys.length
  | [], ys => rfl
  | x :: o, ys => by rw [List.foldl_cons, foldl_len hl o, hl]
theorem accL_len (step : List Nat → T → List Nat) (hl : ∀ t x, (step t x).length = t.length) (l : List E) (n s : Nat) (ys o : List Nat) : (accL step l n s ys o).length = ys.length := by
  rw [accL_flat]
  exact foldl_len hl _ _

/-- two pairs of rows -/
structure FourAt (w : World) (pa ga pb gb pc gc pd gd : Nat) (xs ys us vs : List Nat) : Prop where
  a : TwoAt w pa ga pb gb xs ys
  c : TwoAt w pc gc pd gd us vs
  n1 : ga ≠ gc
  n2 : ga ≠ gd
  n3 : gb ≠ gc
  n4 : gb ≠ gd
section
variable {w w' : World} {pa ga pb gb pc gc pd gd : Nat} {xs ys us vs : List Nat}
theorem FourAt.still (h : FourAt w pa ga pb gb pc gc pd gd xs ys us vs) (hf : Fr (fun _ => False) w w') : FourAt w' pa ga pb gb pc gc pd gd xs ys us vs := ⟨h.a.still hf, h.c.still hf, h.n1, h.n2, h.n3, h.n4⟩
theorem FourAt.stepA {xs' ys' : List Nat} (h : FourAt w pa ga pb gb pc gc pd gd xs ys us vs) (hT : TwoAt w' pa ga pb gb xs' ys') (hf : Fr (fun k => k = ga ∨ k = gb) w w') : FourAt w' pa ga pb gb pc gc pd gd xs' ys' us vs := by
  refine ⟨hT, h.c.fr hf ?_ ?_ ?_ ?_, h.n1, h.n2, h.n3, h.n4⟩
  · rintro (e | e)
    · exact (h.c.a.head.ne_ h.a.a.row (by decide)) e
    · exact (h.c.a.head.ne_ h.a.b.row (by decide)) e
  · rintro (e | e)
    · exact h.n1 e.symm
    · exact h.n3 e.symm
  · rintro (e | e)
    · exact (h.c.b.head.ne_ h.a.a.row (by decide)) e
    · exact (h.c.b.head.ne_ h.a.b.row (by decide)) e
  · rintro (e | e)
    · exact h.n2 e.symm
    · exact h.n4 e.symm
theorem FourAt.stepC {us' vs' : List Nat} (h : FourAt w pa ga pb gb pc gc pd gd xs ys us vs) (hT : TwoAt w' pc gc pd gd us' vs') (hf : Fr (fun k => k = gc ∨ k = gd) w w') : FourAt w' pa ga pb gb pc gc pd gd xs ys us' vs' := by
  refine ⟨h.a.fr hf ?_ ?_ ?_ ?_, hT, h.n1, h.n2, h.n3, h.n4⟩
  · rintro (e | e)
    · exact (h.a.a.head.ne_ h.c.a.row (by decide)) e
    · exact (h.a.a.head.ne_ h.c.b.row (by decide)) e
  · rintro (e | e)
    · exact h.n1 e
    · exact h.n2 e
  · rintro (e | e)
    · exact (h.a.b.head.ne_ h.c.a.row (by decide)) e
    · exact (h.a.b.head.ne_ h.c.b.row (by decide)) e
  · rintro (e | e)
    · exact h.n3 e
    · exact h.n4 e
end
theorem may_n {n : Nat} {xs ys : List Nat} (h1 : 1 ≤ n) (h2 : n ≤ 256) (hx : xs.length = n) (hy : ys.length = n) : mayB xs.length ys.length = true := by
  unfold mayB
  simp
  omega
end Go.Proofs.YtjdbjahgimlhbaaGreat
end
