/- Parts of the proof of KernelsTruth: no conditions of their own. -/
import Derived.Test.YtjdbjahgimlhbaaGreatKernelsTruthPk14
import Derived.Test.YtjdbjahgimlhbaaGreatKernelsTruthPk3
import Derived.Test.YtjdbjahgimlhbaaGreatKernelsTruthPk15
import Derived.Test.YtjdbjahgimlhbaaGreatKernelsTruthPk24
import Derived.Test.YtjdbjahgimlhbaaGreatKernelsTruthPk25
import Derived.Test.YtjdbjahgimlhbaaGreatKernelsTruthPk13
import Derived.Test.YtjdbjahgimlhbaaGreatKernelsTruthPk12
section
set_option linter.unusedVariables false
set_option maxRecDepth 100000
namespace Go.Proofs.YtjdbjahgimlhbaaGreat.ktruth
open Go.RowKit
open Gr (E T)

/-- the cells of shards, turned -/
def tsc (n s : Nat) (f : Nat → Value) (o : List Nat) : List Value := o.flatMap fun j => [.int .i64 ((Gr.cut n s j : Nat) : Int), .int .i64 ((Gr.cut n s (j + 1) : Nat) : Int), f j]
theorem tsc_snoc (n s : Nat) (f : Nat → Value) (o : List Nat) (j : Nat) : tsc n s f (o ++ [j]) = tsc n s f o ++ [.int .i64 ((Gr.cut n s j : Nat) : Int), .int .i64 ((Gr.cut n s (j + 1) : Nat) : Int), f j] := by simp [tsc]
theorem tsc_at (n s : Nat) (f : Nat → Value) : ∀ (o : List Nat) (i : Nat) (hi : i < o.length), (tsc n s f o)[i * 3]? = some (.int .i64 ((Gr.cut n s o[i] : Nat) : Int)) ∧ (tsc n s f o)[i * 3 + 1]? = some (.int .i64 ((Gr.cut n s (o[i] + 1) : Nat) : Int)) ∧ (tsc n s f o)[i * 3 + 2]? = some (f o[i])
  | [], i, hi => by simp at hi
  | j :: o, 0, _ => ⟨rfl, rfl, rfl⟩
  | j :: o, i + 1, hi => by
    have h := tsc_at n s f o i (by simpa using hi)
    have e : tsc n s f (j :: o) = [.int .i64 ((Gr.cut n s j : Nat) : Int), .int .i64 ((Gr.cut n s (j + 1) : Nat) : Int), f j] ++ tsc n s f o := rfl
    rw [e, show (i + 1) * 3 = i * 3 + 3 by omega, show i * 3 + 3 + 1 = i * 3 + 1 + 3 by omega, show i * 3 + 3 + 2 = i * 3 + 2 + 3 by omega]
    rw [List.getElem?_append_right (by simp), List.getElem?_append_right (by simp), List.getElem?_append_right (by simp)]
    simpa using h
theorem _root_.Go.Proofs.YtjdbjahgimlhbaaGreat.ShsAt.more {w : World} {K K' s n : Nat} {A : Option Addr} {Ls : List (List T)} (h : ShsAt w K A s n Ls) (hK : K ≤ K') (hw : K' ≤ w.heap.size) : ShsAt w K' A s n Ls := by
  refine ⟨h.1, hw, fun i hi => ?_⟩
  obtain ⟨b, o, fr, to, Ai, m, c, vs, L, e, hb, q0, q1, q2, h1, h2, h3⟩ := h.2.2 i hi
  exact ⟨b, o, fr, to, Ai, m, c, vs, L, e, by omega, q0, q1, q2, h1, h2, fun S w' hF hs => h3 S w' hF (fun k hk => by have := hs k hk; omega)⟩
theorem turned_ok {w : World} {base K b o n s c : Nat} {A : Option Addr} {l : List E} {f : Nat → Value} {OL : List Nat} (h0 : 0 < s) (hp : OL.Perm (List.range s)) (hl2 : ∀ e ∈ l, e.2 < n) (hS : ShardsAt w K (some ⟨b, o, none⟩) n s l)
    (hf : ∀ j, j < s → w.cell? ⟨b, o + j * 3 + 2, none⟩ = some (f j)) (ho : w.ownsRow base 43 3 (.slice A s c) s (tsc n s f OL)) : ShsAt w w.heap.size A s n (OL.map (Gr.shardT l n s)) := by
  have hlen : OL.length = s := by have := hp.length_eq; simpa using this
  obtain ⟨b2, o2, rfl, hb2, hc⟩ := (Reads.of_own ho).2 h0
  refine ⟨by simp [hlen], Nat.le_refl _, fun i hi => ?_⟩
  have hil : i < OL.length := by omega
  have hoi : OL[i] < s := by have := hp.mem_iff.1 (List.getElem_mem hil); simpa using this
  obtain ⟨q0, q1, q2⟩ := tsc_at n s f OL i hil
  obtain ⟨A', vs, x0, x1, x2, hst⟩ := hS.at hoi
  have hfe : f OL[i] = .slice A' (Gr.cut n s (OL[i] + 1) - Gr.cut n s OL[i]) (Gr.cut n s (OL[i] + 1) - Gr.cut n s OL[i]) := by
    have h1 := hf _ hoi
    rw [x2] at h1
    exact (Option.some.inj h1).symm
  rw [hfe] at q2
  refine ⟨b2, o2, _, _, A', _, _, vs, _, rfl, hb2, hc _ _ q0, by have := hc _ _ q1; rwa [← Nat.add_assoc] at this, by have := hc _ _ q2; rwa [← Nat.add_assoc] at this, Gr.shard_fits l n s OL[i] h0 hoi hl2, ?_, fun S w' hF hs => hst S w' hF (fun k hk => by have := hs k hk; have := hS.1; omega)⟩
  simp [List.getD, hil, Gr.shardT]
open whole in
set_option maxHeartbeats 8000000 in
theorem walk (A : Option Addr) (G m c : Nat) (l : List E) (K a p d : Nat) (many argt : Nat) (AB : Option Addr) (nB cB : Nat) (AM : Option Addr) (nM cM : Nat) (yb zm : List Nat) (w : World) (h : Reads w w.heap.size 2 A m (gcells l)) (hm : l.length = m) (hm63 : m ≤ 9223372036854775807) (hG : G < 256) (hl : ∀ e ∈ l, e.1 < 256 ∧ e.2 < 256) (hK : K < 256) (ha : a < 256) (hp : p < 256) (hd : d < 65536) (hmany : many < 256) (hargt : argt < 256)
    (hrb : Reads w w.heap.size 1 AB nB (yb.map fun x : Nat => .int .u8 (x : Int))) (hyb : ∀ x ∈ yb, x < 256) (hnb : nB ≤ 9223372036854775807) (hrm : Reads w w.heap.size 1 AM nM (zm.map fun x : Nat => .int .u8 (x : Int))) (hzm : ∀ x ∈ zm, x < 256) (hnm : nM ≤ 9223372036854775807) :
    Calls Tryz.prog 3 #[.agg #[.int .u8 (G : Int), .slice A m c], .agg #[.int .u8 (K : Int), .int .u8 (a : Int), .int .u8 (p : Int), .int .u16 (d : Int)], .agg #[.int .u8 (many : Int), .int .u8 (argt : Int), .slice AB nB cB, .slice AM nM cM]] w fun e w' => e = .returned (.bool true) ∧ Fr (fun _ => False) w w' := by
  have H := hide h
  have HM := hide hm
  have HL := hide hl
  have HRB := hide hrb
  have HYB := hide hyb
  have LB := hide (show yb.length = nB by have := hrb.1; simpa using this)
  clear h hm hl hrb hrm hyb hzm
  have F0 := hide ((((Fr.refl (fun _ => False) w).alloc (.cells #[.int .u8 (G : Int), .slice A m c] 24)).alloc (.cells #[.int .u8 (K : Int), .int .u8 (a : Int), .int .u8 (p : Int), .int .u16 (d : Int)] 27)).alloc (.cells #[.int .u8 (many : Int), .int .u8 (argt : Int), .slice AB nB cB, .slice AM nM cM] 30))
  have B2 := hide (show Blk (((w.alloc (.cells #[.int .u8 (G : Int), .slice A m c] 24)).alloc (.cells #[.int .u8 (K : Int), .int .u8 (a : Int), .int .u8 (p : Int), .int .u16 (d : Int)] 27)).alloc (.cells #[.int .u8 (many : Int), .int .u8 (argt : Int), .slice AB nB cB, .slice AM nM cM] 30)) (w.heap.size + 1) 27 #[.int .u8 (K : Int), .int .u8 (a : Int), .int .u8 (p : Int), .int .u16 (d : Int)] from by
    have := (Blk.new (w.alloc (.cells #[.int .u8 (G : Int), .slice A m c] 24)) 27 #[.int .u8 (K : Int), .int .u8 (a : Int), .int .u8 (p : Int), .int .u16 (d : Int)]).alloc (.cells #[.int .u8 (many : Int), .int .u8 (argt : Int), .slice AB nB cB, .slice AM nM cM] 30)
    simpa using this)
  have B3 := hide (show Blk (((w.alloc (.cells #[.int .u8 (G : Int), .slice A m c] 24)).alloc (.cells #[.int .u8 (K : Int), .int .u8 (a : Int), .int .u8 (p : Int), .int .u16 (d : Int)] 27)).alloc (.cells #[.int .u8 (many : Int), .int .u8 (argt : Int), .slice AB nB cB, .slice AM nM cM] 30)) (w.heap.size + 1 + 1) 30 #[.int .u8 (many : Int), .int .u8 (argt : Int), .slice AB nB cB, .slice AM nM cM] from by
    have := Blk.new ((w.alloc (.cells #[.int .u8 (G : Int), .slice A m c] 24)).alloc (.cells #[.int .u8 (K : Int), .int .u8 (a : Int), .int .u8 (p : Int), .int .u16 (d : Int)] 27)) 30 #[.int .u8 (many : Int), .int .u8 (argt : Int), .slice AB nB cB, .slice AM nM cM]
    simpa using this)
  have B1 := hide (((Blk.new w 24 #[.int .u8 (G : Int), .slice A m c]).alloc (.cells #[.int .u8 (K : Int), .int .u8 (a : Int), .int .u8 (p : Int), .int .u16 (d : Int)] 27)).alloc (.cells #[.int .u8 (many : Int), .int .u8 (argt : Int), .slice AB nB cB, .slice AM nM cM] 30))
  have hcase : 300 < m ∨ (m ≤ 300 ∧ (decide (50 < nB) || decide (20 < nM)) = true) ∨ (m ≤ 300 ∧ (decide (50 < nB) || decide (20 < nM)) = false) := by
    rcases Nat.lt_or_ge 300 m with h | h
    · exact .inl h
    · cases hd : (decide (50 < nB) || decide (20 < nM))
      · exact .inr (.inr ⟨h, rfl⟩)
      · exact .inr (.inl ⟨h, rfl⟩)
  rcases hcase with hb | ⟨hb, hb2⟩ | ⟨hb, hb2⟩
  · go_enter Tryz.func3, Tryz.ntmps3
    go_wp2_with fail
    go_at_call 5
    refine (k21.turns_true _).mono ?_
    rintro e w1 ⟨rfl, hf⟩
    have HF := hide (F0.out.then_ hf)
    clear hf
    go_wp2
    go_ret
    exact ⟨rfl, HF.out⟩
  · go_enter Tryz.func3, Tryz.ntmps3
    go_wp2_with fail
    go_at_call 4
    refine (great_any many argt AB nB cB AM nM cM _).mono ?_
    rintro e wg ⟨rfl, hf⟩
    have FG := hide (F0.out.then_ hf)
    have BKg := hide (B3.out.fr hf (fun h => h))
    have BAg := hide (B2.out.fr hf (fun h => h))
    rw [hb2]
    clear hf
    go_wp2_with fail
    go_at_call 5
    refine (k21.turns_true _).mono ?_
    rintro e w1 ⟨rfl, hf⟩
    have HF := hide (FG.out.then_ hf)
    clear hf
    go_wp2
    go_ret
    exact ⟨rfl, HF.out⟩
  · go_enter Tryz.func3, Tryz.ntmps3
    go_wp2_with fail
    go_at_call 4
    refine (great_any many argt AB nB cB AM nM cM _).mono ?_
    rintro e wg ⟨rfl, hf⟩
    have FG := hide (F0.out.then_ hf)
    have BKg := hide (B3.out.fr hf (fun h => h))
    have BAg := hide (B2.out.fr hf (fun h => h))
    rw [hb2]
    have BGg := hide (B1.out.fr hf (fun h => h))
    have gg0 : wg.cell? ⟨w.heap.size, 0, none⟩ = some (.int .u8 (G : Int)) := (BGg.out.cell 0).trans rfl
    have gg1 : wg.cell? ⟨w.heap.size, 1, none⟩ = some (.slice A m c) := (BGg.out.cell 1).trans rfl
    clear hf
    go_wp2_with fail
    go_at_call 6
    refine (made_any A m c G l _ (H.out.up FG.out) HM.out (by omega) hG HL.out).mono ?_
    rintro e w1 ⟨A1, c1, rfl, hc1, hE, hf⟩
    have HF1 := hide (FG.out.then_ hf)
    have BK1 := hide (BKg.out.fr hf (fun h => h))
    have BA1 := hide (BAg.out.fr hf (fun h => h))
    have z0 : w1.cell? ⟨w.heap.size + 1 + 1, 0, none⟩ = some (.int .u8 (many : Int)) := (BK1.out.cell 0).trans rfl
    clear gg0 gg1
    have HE := hide hE
    obtain ⟨ok1, ok2, ok3⟩ := madeE_ok G l
    have hn1 : 1 ≤ madeN G := by unfold madeN; omega
    have hn2 : madeN G ≤ 60 := by unfold madeN; omega
    rw [HM.out] at ok3
    clear hf hE
    generalize hNN : madeN G = n at *
    generalize hEE : madeE G l = El at *
    have OK1 := hide ok1
    have OK2 := hide ok2
    obtain ⟨q, hq⟩ : ∃ q, El.length = q := ⟨_, rfl⟩
    have HQ := hide hq
    rw [hq] at ok3 hc1
    rw [hq]
    clear ok1 ok2 hq
    go_wp2_with fail
    go_at_call 7
    refine (shards_any A1 n q c1 many El _ HE.out HQ.out (by omega) OK1.out hn1 hn2 hmany OK2.out).mono ?_
    rintro e w2 ⟨AS, cS, rfl, hS, hf⟩
    obtain ⟨hs1, hs2, hs3⟩ := shN_ok hn1 many
    generalize shN n many = s at *
    obtain ⟨b, o, rfl, hbK⟩ := hS.addr
    have HS := hide hS
    have HF2 := hide (HF1.out.then_ hf)
    have HFS := hide hf
    have BK2 := hide (BK1.out.fr hf (fun h => h))
    have BA2 := hide (BA1.out.fr hf (fun h => h))
    clear z0
    have hs0 : ((s : Int) == 0) = false := by simp; omega
    clear hS hf
    have z2 : w2.cell? ⟨w.heap.size + 1 + 1, 2, none⟩ = some (.slice AB nB cB) := (BK2.out.cell 2).trans rfl
    go_wp2_with fail
    go_at_call 8
    refine (order_any AB s nB cB yb _ (HRB.out.up HF2.out) LB.out hs3 HYB.out hnb).mono ?_
    rintro e w7 ⟨Ao, co, rfl, hro, hf⟩
    have HOP := hide (Gr.order_perm s yb)
    have HOL := Gr.order_len s yb
    have HOlt := hide (Gr.order_lt s yb)
    generalize Gr.order s yb = OL at *
    have HRO := hide hro
    have HF7 := hide (HF2.out.then_ hf)
    have HS7 := hide (HS.out.fr hf (fun k h => h.elim))
    have HE7 := hide (HE.out.up (HFS.out.then_ hf))
    have HBA7 := hide (BA2.out.fr hf (fun h => h))
    have sz7 := hf.size
    clear hro hf z2 HS HE
    obtain ⟨bo, oo, rfl, hlo2, hb2o, hco⟩ := HRO.out.2 (by omega)
    have HCO := hide (fun j (hj : j < s) W (hf : Fr (fun _ => False) w7 W) => (show W.cell? ⟨bo, oo + j, none⟩ = some (.int .i64 ((OL.getD j 0 : Nat) : Int)) from
      hf.cell (hco j _ (by simp [ivals, List.getD, show j < OL.length by omega])) id))
    obtain ⟨f, hf0⟩ : ∃ f : Nat → Value, f = fun j => (w7.cell? ⟨b, o + j * 3 + 2, none⟩).getD undef := ⟨_, rfl⟩
    have HFV := hide (fun j (hj : j < s) => (show w7.cell? ⟨b, o + j * 3 + 2, none⟩ = some (f j) by
      obtain ⟨A', vs, x0, x1, x2, _⟩ := HS7.out.at hj
      simp only [hf0]
      rw [x2]
      rfl))
    have HCS := hide (fun j (hj : j < s) W (hf : Fr (fun _ => False) w7 W) => (show W.cell? ⟨b, o + j * 3, none⟩ = some (.int .i64 ((Gr.cut n s j : Nat) : Int)) ∧ W.cell? ⟨b, o + j * 3 + 1, none⟩ = some (.int .i64 ((Gr.cut n s (j + 1) : Nat) : Int)) ∧ W.cell? ⟨b, o + j * 3 + 2, none⟩ = some (f j) by
      obtain ⟨A', vs, x0, x1, x2, _⟩ := HS7.out.at hj
      exact ⟨hf.cell x0 id, hf.cell x1 id, hf.cell (HFV.out j hj) id⟩))
    have HF1C := hide (fun j (hj : j < s) => (show (f j).oneCell' = true by
      obtain ⟨A', vs, x0, x1, x2, _⟩ := HS7.out.at hj
      have h1 := HFV.out j hj
      rw [x2] at h1
      rw [← Option.some.inj h1]
      rfl))
    clear hf0 hco
    obtain ⟨i0, hi, hz0, hz1, hz2⟩ := info_parts shard_info
    go_wp2_with fail
    go_loopw [11, 12] (fun v i wr => ∃ (j : Nat) (A' : Option Addr) (c' : Nat), j ≤ s ∧ i = .int .i64 (j : Int) ∧ v = .slice A' j c' ∧ Hid (wr.ownsRow w7.heap.size 43 3 (.slice A' j c') j (tsc n s f (OL.take j)) ∧ Fr (fun _ => False) w7 wr)) (fun _ i _ => s - (intOf i).toNat)
    case atStart => exact ⟨0, none, 0, by omega, rfl, rfl, World.ownsRow_nil _ _ _ _, Fr.refl _ _⟩
    case round =>
      obtain ⟨j, A', c', hj, rfl, rfl, HI⟩ := hrel
      by_cases hjs : j < s
      · have lj : j < OL.length := by omega
        have hgd : OL.getD j 0 = OL[j] := by simp [List.getD, lj]
        have c8 := HCO.out j hjs wr HI.out.2
        rw [hgd] at c8
        have holt := HOlt.out _ (List.getElem_mem lj)
        have HTK := hide (List.take_succ_eq_append_getElem lj)
        clear hgd
        generalize OL[j]'lj = oj at *
        obtain ⟨x0, x1, x2⟩ := HCS.out oj holt wr HI.out.2
        have hone := HF1C.out oj holt
        have bo0 : (0 : Int) ≤ (oj : Int) := by omega
        have bo1 : (oj : Int) < (s : Int) := by omega
        have bj0 : (0 : Int) ≤ (j : Int) := by omega
        have bj1 : (j : Int) < (s : Int) := by omega
        have hown := HI.out.1
        have szr := HI.out.2.size
        obtain ⟨fo, hfo⟩ : ∃ fo, f oj = fo := ⟨_, rfl⟩
        rw [hfo] at x2 hone
        have HFO := hide hfo
        clear hfo
        go_wp2_with (at_builtin; refine wpList_append_box wr _ _ rfl (.tmp 51) (.tmp 59) _ rfl w7.heap.size 43 i0 _ 3 40 Tryz.underlying35 hi hz0 hz1 hz2 rfl (by decide) _ _ _ rfl hown rfl rfl ?c1 ?c2 ?c3 ?c4 ?c5)
        case c1 => simp [Value.oneCell', hone]
        case c2 => unfold maxLen; omega
        case c3 => omega
        case c4 => exact szr
        case c5 =>
          intro v5 w5 hown5 hg5 hn5
          obtain ⟨A5, c5, rfl⟩ := Reads.own_val hown5
          have HF5 := hide (HI.out.2.grown hg5 (fun k hk => .inr ((hown.lt k hk).1)))
          have HO5 := hide (show w5.ownsRow w7.heap.size 43 3 (.slice A5 (j + 1) c5) (j + 1) (tsc n s f (OL.take (j + 1))) by
            rw [HTK.out, tsc_snoc, HFO.out]
            exact hown5)
          clear hown5 hg5 hn5 hown x0 x1 x2 c8
          go_wp2
          go_roundw
          case rel => exact ⟨j + 1, A5, c5, by omega, by go_num, rfl, HO5.out, HF5.out⟩
          case measure => simp [intOf]; omega
      · obtain rfl : j = s := by omega
        have HOW := HI.out.1
        rw [List.take_of_length_le (by omega)] at HOW
        have HTU := hide (turned_ok (by omega) HOP.out (fun e he => (OK2.out e he).2.1) (HS7.out.fr HI.out.2 (fun k h => h.elim)) (fun i hi => (HCS.out i hi wr HI.out.2).2.2) HOW)
        have HBr := hide (HBA7.out.fr HI.out.2 id)
        have x0 := (HBr.out.cell 0).trans rfl
        have x1 := (HBr.out.cell 1).trans rfl
        have x2 := (HBr.out.cell 2).trans rfl
        have x3 := (HBr.out.cell 3).trans rfl
        have HFr := hide (HF7.out.then_ HI.out.2)
        have HEr := hide (HE7.out.up HI.out.2)
        have hsj : decide (0 < (j : Int)) = true := by simp; omega
        have hsj2 : decide (0 < j) = true := by simp; omega
        clear HOW HI
        go_wp2_with fail
        go_at_call 9
        refine (ask_made K a p d n hK ha hp hd hn1 (by omega) _).mono ?_
        rintro e w8 ⟨rfl, hf⟩
        have hk := ask_ok K a hn1
        have hpr : p % 8 ≤ 7 := by omega
        unfold reqv
        generalize askK K = k at *
        generalize askA K a n = arg at *
        generalize p % 8 = pr at *
        generalize ((256 + d % 1000 : Nat) : Int) = nd at *
        obtain ⟨W5, hW5⟩ : ∃ W5, W5 = w8.alloc (.cells #[.int .i64 (k : Int), .int .i64 (arg : Int), .int .i64 (pr : Int), .int .i64 nd] 45) := ⟨_, rfl⟩
        have F5 : Fr (fun _ => False) w8 W5 := by rw [hW5]; exact (Fr.refl _ _).alloc _
        have b5 : Blk W5 w8.heap.size 45 #[.int .i64 (k : Int), .int .i64 (arg : Int), .int .i64 (pr : Int), .int .i64 nd] := by rw [hW5]; exact Blk.new _ _ _
        have HTU5 := hide (((HTU.out.fr hf (fun k h => h.elim)).fr F5 (fun k h => h.elim)).more (Nat.le_trans hf.size F5.size) (Nat.le_refl _))
        have HE5 := hide ((HEr.out.up hf).up F5)
        have HF5 := hide ((HFr.out.then_ hf).then_ F5)
        have HCL := hide (fun W (hf : Fr (fun _ => False) W5 W) => (⟨((b5.fr hf id).cell 0).trans rfl, ((b5.fr hf id).cell 1).trans rfl, ((b5.fr hf id).cell 2).trans rfl, ((b5.fr hf id).cell 3).trans rfl⟩ :
          W.cell? ⟨w8.heap.size, 0, none⟩ = some (.int .i64 (k : Int)) ∧ W.cell? ⟨w8.heap.size, 1, none⟩ = some (.int .i64 (arg : Int)) ∧ W.cell? ⟨w8.heap.size, 2, none⟩ = some (.int .i64 (pr : Int)) ∧ W.cell? ⟨w8.heap.size, 3, none⟩ = some (.int .i64 nd)))
        have HRUN := hide (fun c => run_order k arg pr n j c nd A' El OL W5 hpr hk hn1 (by omega) (by omega) (by omega) (fun e he => (OK2.out e he).1) HOP.out HTU5.out)
        have HTO := hide (fun W (hf : Fr (fun _ => False) W5 W) => tof_any k A1 n q c1 arg pr nd El W (HE5.out.up hf) HQ.out (by omega) OK1.out hn1 hn2 OK2.out hpr hk)
        have HTR := hide (fun W (hf : Fr (fun _ => False) W5 W) => trounds_any k A1 n q c1 arg pr nd El W (HE5.out.up hf) HQ.out (by omega) OK1.out hn1 hn2 OK2.out hpr hk)
        have hkl := kout_len k arg n El
        generalize kruns k arg n El = R at *
        generalize kout k arg n El = out at *
        unfold reqv at HRUN HTO HTR
        have HZ := hide hW5
        clear hf x0 x1 x2 x3 hW5 F5 b5 HE7 HEr HTU HTU5
        go_wp2_with fail
        rw [← HZ.out]
        go_at_call 10
        refine (HRUN.out c').mono ?_
        rintro e w9 ⟨Bx, dx, rfl, hR, hf⟩
        have HR9 := hide hR
        have HG9 := hide hf
        obtain ⟨y0, y1, y2, y3⟩ := HCL.out w9 HG9.out
        clear hR hf HRUN
        go_wp2_with fail
        go_at_call 11
        refine (HTO.out w9 HG9.out).mono ?_
        rintro e wa ⟨gw, rfl, hgw, hrw, hf⟩
        have HRW := hide hrw
        have HRa := hide (HR9.out.fr hf (fun k h => h.elim))
        have HGa := hide (HG9.out.then_ hf)
        obtain ⟨v0, v1, v2, v3⟩ := HCL.out wa HGa.out
        clear hrw hf y0 y1 y2 y3
        go_wp2_with fail
        go_at_call 12
        refine (HTR.out wa HGa.out).mono ?_
        rintro e wb ⟨gw2, rfl, hgw2, hrw2, hf⟩
        have HRWb := hide (HRW.out.fr hf id)
        have HRb := hide (HRa.out.fr hf (fun k h => h.elim))
        have HGb := hide (HGa.out.then_ hf)
        have hbe : ((R : Int) == (R : Int)) = true := by simp
        clear hrw2 hf v0 v1 v2 v3
        go_wp2_with fail
        go_at_call 13
        refine (same_eq Bx (some ⟨gw, 0, none⟩) n dx n n wb.heap.size out wb HRb.out.reads (Reads.blk HRWb.out (by simp [hkl])) (by omega)).mono ?_
        rintro e wc ⟨rfl, hf⟩
        have HGc := hide (HGb.out.then_ hf)
        clear hf
        go_wp2_with fail
        go_at_call 5
        refine (k21.turns_true _).mono ?_
        rintro e wd ⟨rfl, hf⟩
        have HFd := hide (HF5.out.then_ (HGc.out.then_ hf))
        clear hf
        go_wp2
        go_ret
        exact ⟨rfl, HFd.out⟩
end Go.Proofs.YtjdbjahgimlhbaaGreat.ktruth
end
