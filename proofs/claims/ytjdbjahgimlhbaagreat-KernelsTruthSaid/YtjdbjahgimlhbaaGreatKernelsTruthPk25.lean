/- Parts of the proof of KernelsTruth: no conditions of their own. -/
import Derived.Test.YtjdbjahgimlhbaaGreatKernelsTruthPk2
import Derived.Test.YtjdbjahgimlhbaaGreatKernelsTruthPk11
import Derived.Test.YtjdbjahgimlhbaaGreatKernelsTruthPk5
import Derived.Test.YtjdbjahgimlhbaaGreatKernelsTruthPk13
import Derived.Deep.Cut
import Derived.Test.YtjdbjahgimlhbaaGreatKernelsTruthPk0
section
set_option linter.unusedVariables false
namespace Go.Proofs.YtjdbjahgimlhbaaGreat.Gr

def pick (y : List Nat) (i m : Nat) : Nat := if i < y.length then y.getD i 0 % m else 0
theorem pick_lt (y : List Nat) (i : Nat) {m : Nat} (h : 0 < m) : pick y i m < m := by
  unfold pick
  split
  · exact Nat.mod_lt _ h
  · exact h
/-- behind i picks: those picked, those left -/
def ord (many : Nat) (y : List Nat) : Nat → List Nat × List Nat
  | 0 => ([], List.range many)
  | i + 1 => ((ord many y i).1 ++ [(ord many y i).2.getD (pick y i (ord many y i).2.length) 0], (ord many y i).2.take (pick y i (ord many y i).2.length) ++ (ord many y i).2.drop (pick y i (ord many y i).2.length + 1))
theorem ord_ok (many : Nat) (y : List Nat) : ∀ i, i ≤ many → ((ord many y i).1 ++ (ord many y i).2).Perm (List.range many) ∧ (ord many y i).1.length = i ∧ (ord many y i).2.length = many - i
  | 0, _ => ⟨List.Perm.refl _, rfl, by simp [ord]⟩
  | i + 1, h => by
    obtain ⟨h1, h2, h3⟩ := ord_ok many y i (by omega)
    have hk := pick_lt y i (m := (ord many y i).2.length) (by omega)
    unfold ord
    generalize ord many y i = p at *
    obtain ⟨o, l⟩ := p
    simp only at h1 h2 h3 hk ⊢
    generalize pick y i l.length = k at *
    refine ⟨?_, by simp [h2], by simp; omega⟩
    have hs : l = l.take k ++ l.getD k 0 :: l.drop (k + 1) := by
      rw [List.getD_eq_getElem?_getD, List.getElem?_eq_getElem hk, Option.getD_some, ← List.drop_eq_getElem_cons hk, List.take_append_drop]
    refine List.Perm.trans ?_ h1
    rw [List.append_assoc]
    apply List.Perm.append_left
    refine List.Perm.trans ?_ (List.Perm.of_eq hs.symm)
    exact (List.perm_middle (a := l.getD k 0) (l₁ := l.take k) (l₂ := l.drop (k + 1))).symm
def order (many : Nat) (y : List Nat) : List Nat := (ord many y many).1
theorem order_perm (many : Nat) (y : List Nat) : (order many y).Perm (List.range many) := by
  obtain ⟨h1, h2, h3⟩ := ord_ok many y many (Nat.le_refl _)
  have : (ord many y many).2 = [] := List.eq_nil_of_length_eq_zero (by omega)
  rw [this, List.append_nil] at h1
  exact h1
theorem order_len (many : Nat) (y : List Nat) : (order many y).length = many := (ord_ok many y many (Nat.le_refl _)).2.1
theorem order_lt (many : Nat) (y : List Nat) : ∀ k ∈ order many y, k < many := by
  intro k hk
  simpa using (order_perm many y).mem_iff.1 hk
end Go.Proofs.YtjdbjahgimlhbaaGreat.Gr
end
section
set_option linter.unusedVariables false
set_option maxRecDepth 100000
namespace Go.Proofs.YtjdbjahgimlhbaaGreat
open Go.RowKit

def ord1 (many : Nat) (y : List Nat) (i : Nat) : List Nat := (Gr.ord many y i).1
def ord2 (many : Nat) (y : List Nat) (i : Nat) : List Nat := (Gr.ord many y i).2
theorem step_append_reads {P : Program} {w : World} {ops : Array Oper} {o : Oper} {a : Act} {K : Act → World → Prop} {Q : Exit → Act → World → Prop} {E : Prop} (hgd : o.guard = none) (s x : Operand) (t : TypeId)
    (ho : o.op = .call { callee := .builtin .append, args := #[s, x], argTypes := #[t, t] })
    (base : Nat) (e : TypeId) (i : TypeInfo) (z : Value) (size bytes : Nat) (ht : P.underlying t = some (.slice e)) (hi : P.info? e = some i) (hz : i.zero = some z)
    (hsize : i.size = size) (hby : i.bytes = bytes) (hzs : z.cells.size = size) (hsz : 0 < size)
    (v : Value) (n : Nat) (xs : List Value) (hs : a.eval s = v) (hown : w.ownsRow base e size v n xs)
    (B : Nat) (A : Option Addr) (m c : Nat) (news : List Value) (hx : a.eval x = .slice A m c) (hr : Reads w B size A m news) (h1 : ∀ u ∈ news, u.oneCell' = true)
    (h63 : n + m ≤ maxLen) (hbytes : (n + m) * bytes ≤ 140737488355328) (hbase : base ≤ w.heap.size)
    (h : ∀ v' w', w'.ownsRow base e size v' (n + m) (xs ++ news) → w.grownBy w' v.ownBlock → (v'.ownBlock = v.ownBlock ∨ v'.ownBlock = some w.heap.size) → K (a.put o.dst v') w') :
    if Region.wanted o (yielded ops a.tmps) = true then Oper.wp P o a w K Q else E := by
  have hw : Region.wanted o (yielded ops a.tmps) = true := by simp [Region.wanted, hgd]
  rw [if_pos hw]
  obtain ⟨v', w', hrun, h2, h3, h4⟩ := run_append_reads (P := P) w base t o.type e i z size bytes ht hi hz hsize hby hzs hsz v n xs hown B A m c news hr h1 h63 hbytes hbase
  unfold Oper.wp execOp
  simp only [ho, resolve, invoke, builtin, Sem.run_bind, Sem.run_pure, Result.andThen_ok, List.map_toArray, List.map_cons, List.map_nil, hs, hx, hrun]
  exact h v' w' h2 h3 h4
theorem ireads_take {w : World} {B n K : Nat} {A : Option Addr} {l : List Nat} (h : Reads w B 1 A n (ivals l)) (hK : K ≤ n) : Reads w B 1 A K (ivals (l.take K)) := by
  have hl : l.length = n := by have := h.1; rw [ivals_len] at this; omega
  refine ⟨by rw [ivals_len]; simp; omega, fun hn => ?_⟩
  obtain ⟨b, o, e, hb, hc⟩ := h.2 (by omega)
  refine ⟨b, o, e, hb, fun j u hu => hc j u ?_⟩
  unfold ivals at *
  rw [List.map_take] at hu
  rw [List.getElem?_take] at hu
  split at hu
  · exact hu
  · cases hu
theorem ireads_drop {w : World} {B n K b o : Nat} {l : List Nat} (h : Reads w B 1 (some ⟨b, o, none⟩) n (ivals l)) (hK : K ≤ n) : Reads w B 1 (some ⟨b, o + K, none⟩) (n - K) (ivals (l.drop K)) := by
  have hl : l.length = n := by have := h.1; rw [ivals_len] at this; omega
  refine ⟨by rw [ivals_len]; simp; omega, fun hn => ?_⟩
  obtain ⟨b', o', e, hb, hc⟩ := h.2 (by omega)
  injection e with e
  injection e with e1 e2
  subst e1
  subst e2
  refine ⟨b, o + K, rfl, hb, fun j u hu => ?_⟩
  unfold ivals at *
  rw [List.map_drop, List.getElem?_drop] at hu
  have := hc (K + j) u hu
  rwa [← Nat.add_assoc] at this
theorem own_mono {w : World} {base base' size n : Nat} {e : TypeId} {v : Value} {xs : List Value} (h : w.ownsRow base e size v n xs) (hb : base' ≤ base) : w.ownsRow base' e size v n xs := by
  refine ⟨h.1, ?_⟩
  rcases h.2 with h1 | ⟨g, cap, cur, h1, hg, rest⟩
  · exact .inl h1
  · exact .inr ⟨g, cap, cur, h1, Nat.le_trans hb hg, rest⟩
theorem lit0i {w : World} {H : Nat} (h : Blk w H 3 #[]) : w.ownsRow H 3 1 (.slice (some ⟨H, 0, none⟩) 0 0) 0 [] :=
  ⟨by simp, .inr ⟨H, 0, #[], rfl, Nat.le_refl _, h, Nat.le_refl _, Nat.zero_le _, by simp, by simp⟩⟩
set_option maxHeartbeats 4000000 in
theorem order_any (A : Option Addr) (many m c : Nat) (y : List Nat) (w : World) (h : Reads w w.heap.size 1 A m (y.map fun x : Nat => .int .u8 (x : Int))) (hm : y.length = m) (hmany : many ≤ 16) (hy : ∀ x ∈ y, x < 256) (hm63 : m ≤ 9223372036854775807) :
    Calls Tryz.prog 8 #[.int .i64 (many : Int), .slice A m c] w fun e w' => ∃ A' c', e = .returned (.slice A' many c') ∧ ReadsIn w' w.heap.size 1 A' many (ivals (Gr.order many y)) ∧ Fr (fun _ => False) w w' := by
  have H := hide h
  have HM := hide hm
  have HY := hide hy
  clear h hm hy
  obtain ⟨i0, hi, hz0, hz1, hz2⟩ := info_parts int_info
  have hmk := fun w => run_make_rowN (P := Tryz.prog) 37 3 i0 _ rfl hi hz0 .i64 .i64 many many (Nat.le_refl _) (by rw [hz2]; omega) (by omega) w
  rw [hz1, show (Value.int .i64 0).cells = #[.int .i64 0] from rfl, madeCells_one, Nat.mul_one] at hmk
  have B0 := hide (Blk.new w 3 (List.replicate many (Value.int .i64 0)).toArray)
  have F0 := hide ((Fr.refl (fun _ => False) w).alloc (.cells (List.replicate many (Value.int .i64 0)).toArray 3))
  have S0 : (w.alloc (.cells (List.replicate many (Value.int .i64 0)).toArray 3)).heap.size = w.heap.size + 1 := by simp
  have hsz0 : (List.replicate many (Value.int .i64 0)).toArray.size = many := by simp
  generalize (List.replicate many (Value.int .i64 0)).toArray = cs0 at *
  go_enter Tryz.func8, Tryz.ntmps8
  go_wp2_with fail
  generalize w.alloc (.cells cs0 3) = W1 at *
  go_loopw [7] (fun i wr => ∃ k : Nat, k ≤ many ∧ i = .int .i64 k ∧ Hid (∃ cs, Blk wr w.heap.size 3 cs ∧ cs.size = many ∧ (∀ j, j < k → cs[j]? = some (.int .i64 (j : Int))) ∧ Fr (fun k => k = w.heap.size) W1 wr)) (fun i _ => many - (intOf i).toNat)
  case atStart => exact ⟨0, by omega, rfl, cs0, B0.out, hsz0, fun j h => absurd h (by omega), Fr.refl _ _⟩
  case round =>
    obtain ⟨k, hk, rfl, HI⟩ := hrel
    by_cases hlt : k < many
    · obtain ⟨cs, hb, hcs, hc, hf⟩ := HI.out
      have c0 : ∃ v, wr.cell? ⟨w.heap.size, k, none⟩ = some v := by rw [hb.cell]; exact ⟨cs[k]'(by omega), Array.getElem?_eq_getElem (by omega)⟩
      obtain ⟨v0, c0⟩ := c0
      have f0 := hb.frozen k
      have HB := hide (hb.set_ k (.int .i64 (k : Int)))
      have HC := hide hc
      have HF := hide (hf.setCell (p := ⟨w.heap.size, k, none⟩) (.inl rfl) (.int .i64 (k : Int)))
      clear hb hc hf
      go_wp2
      go_roundw
      case rel =>
        refine ⟨k + 1, by omega, by go_num, _, HB.out, by simp [hcs], fun j hj => ?_, HF.out⟩
        by_cases hjk : j = k
        · subst hjk; simp [hcs, hlt]
        · rw [Array.getElem?_setIfInBounds_ne (Ne.symm hjk)]; exact HC.out j (by omega)
      case measure => simp [intOf]; omega
    · obtain rfl : k = many := by omega
      obtain ⟨cs, hb, hcs, hc, hf⟩ := HI.out
      have HFw := hide ((F0.out.trans hf (fun k h => .inr (by omega))))
      have hown := (show wr.ownsRow w.heap.size 3 1 (.slice (some ⟨w.heap.size, 0, none⟩) k k) k (ivals (List.range k)) from ⟨by simp [ivals], .inr ⟨w.heap.size, k, cs, rfl, Nat.le_refl _, hb, Nat.le_refl _, by unfold maxLen; omega, by omega, by
        rw [Nat.mul_one, ← hcs, ← Array.length_toList, List.take_of_length_le (Nat.le_refl _)]
        apply List.ext_getElem?
        intro j
        by_cases hj : j < k
        · rw [Array.getElem?_toList, hc j hj]; simp [ivals, hcs, hj]
        · rw [Array.getElem?_toList, Array.getElem?_eq_none (by omega), List.getElem?_eq_none (by simp [ivals]; omega)]⟩⟩)
      have HO := hide hown
      have hlw := hb.lt
      clear HI hb hc hf hown B0 F0 hmk
      have HFl := hide (show ord2 k y 0 = List.range k from rfl)
      go_wp2_with fail
      go_loopw [5, 6, 8] (fun v5 v6 i wr => ∃ (i' nl : Nat) (A5 : Option Addr) (c5 : Nat) (A6 : Option Addr) (c6 : Nat), i' ≤ k ∧ i = .int .i64 i' ∧ nl = k - i' ∧ v5 = .slice A5 i' c5 ∧ v6 = .slice A6 nl c6 ∧ Hid (wr.ownsRow w.heap.size 3 1 (.slice A5 i' c5) i' (ivals (ord1 k y i'))) ∧ Hid (wr.ownsRow w.heap.size 3 1 (.slice A6 nl c6) nl (ivals (ord2 k y i'))) ∧ Hid ((Value.slice A5 i' c5).ownBlock = none ∨ (Value.slice A5 i' c5).ownBlock ≠ (Value.slice A6 nl c6).ownBlock) ∧ Hid (Fr (fun _ => False) w wr)) (fun _ _ i _ => k - (intOf i).toNat)
      case atStart => exact ⟨0, k, none, 0, some ⟨w.heap.size, 0, none⟩, k, by omega, rfl, by omega, rfl, rfl, World.ownsRow_nil _ _ _ _, HO.out, .inl rfl, HFw.out⟩
      case round =>
        obtain ⟨i, nl, A5, c5, A6, c6, hik, rfl, hnl, rfl, rfl, hown5, hown6, HDis, HFr⟩ := hrel
        have HLl := hide (show (ord2 k y i).length = nl by have := (Gr.ord_ok k y i hik).2.2; unfold ord2; omega)
        have hnl1 : i + nl ≤ k := by omega
        have hnl2 : k ≤ i + nl := by omega
        clear hnl
        by_cases hlt : i < k
        · obtain ⟨kk, hkk, hkl⟩ : ∃ kk, Gr.pick y i (Gr.ord k y i).2.length = kk ∧ kk < nl := ⟨_, rfl, by have h1 := HLl.out; unfold ord2 at h1; rw [h1]; exact Gr.pick_lt y i (by omega)⟩
          have HPk := hide hkk
          have hpk : kk = if i < m then y.getD i 0 % nl else 0 := by
            have h1 := HLl.out
            unfold ord2 at h1
            rw [← hkk, h1]
            unfold Gr.pick
            rw [HM.out]
          by_cases him : i < m
          · rw [if_pos him] at hpk
            have lyi : i < y.length := by rw [HM.out]; exact him
            obtain ⟨bb, oo, uu, rfl, _, hu, hcc⟩ := (H.out.up HFr.out).at_ him
            have hyu : y.getD i 0 = y[i] := by simp [List.getD, lyi]
            have hy256 := HY.out _ (List.getElem_mem lyi)
            rw [List.getElem?_map, List.getElem?_eq_getElem lyi] at hu
            rw [hyu] at hpk
            clear hyu
            generalize y[i]'lyi = yi at *
            obtain rfl := Option.some.inj hu
            have hcc2 : wr.cell? ⟨bb, oo + i, none⟩ = some (.int .u8 (yi : Int)) := hcc
            clear hcc
            have hyl : (yi : Int) < 256 := by omega
            have hmod : (yi : Int) % (nl : Int) = (kk : Int) := by rw [hpk]; rfl
            have hnl0 : ¬ ((nl : Int) = 0) := by omega
            clear hpk hkk hu
            have HSl := hide (show ord2 k y (i + 1) = (ord2 k y i).take kk ++ (ord2 k y i).drop (kk + 1) from by
              show (Gr.ord k y (i + 1)).2 = _
              unfold Gr.ord
              rw [HPk.out]
              rfl)
            have HSo := hide (show ord1 k y (i + 1) = ord1 k y i ++ [(ord2 k y i).getD kk 0] from by
              show (Gr.ord k y (i + 1)).1 = _
              unfold Gr.ord
              rw [HPk.out]
              rfl)
            obtain ⟨g6, cap6, he6, hb6, hlt6⟩ := hown6.out.form (by omega)
            injection he6 with he6 _ he6c
            subst he6
            subst he6c
            have z6 : wr.cell? ⟨g6, kk, none⟩ = some (.int .i64 (((ord2 k y i).getD kk 0 : Nat) : Int)) := by
              rw [hown6.out.cellAt kk (by omega)]
              have h1 : kk < (ord2 k y i).length := by rw [HLl.out]; omega
              simp [ivals, List.getD, h1]
            obtain ⟨e0, he0⟩ : ∃ e0, (ord2 k y i).getD kk 0 = e0 := ⟨_, rfl⟩
            rw [he0] at z6 HSo
            have bk0 : (0 : Int) ≤ (kk : Int) := by omega
            have bk1 : (kk : Int) < (nl : Int) := by omega
            have hcap6 : nl ≤ c6 := by
              rcases hown6.out.2 with ⟨h, _⟩ | ⟨g', cap', cur, h, _, _, h2, _⟩
              · cases h
              · injection h with _ _ h; omega
            have hown5' := hown5.out
            go_wp2_with (at_builtin; refine wpList_append_box wr _ _ rfl (.tmp 38) (.tmp 43) _ rfl w.heap.size 3 i0 _ 1 8 Tryz.underlying37 hi hz0 hz1 hz2 rfl (by decide) _ _ _ rfl hown5' rfl rfl ?ac1 ?ac2 ?ac3 ?ac4 ?ac5)
            case ac1 => simp [Value.oneCell']
            case ac2 => unfold maxLen; omega
            case ac3 => omega
            case ac4 => exact HFr.out.size
            case ac5 =>
              intro v5 w5 hown5b hg5 hn5
              obtain ⟨A5b, c5b, rfl⟩ := Reads.own_val hown5b
              have HO5 := hide (show w5.ownsRow w.heap.size 3 1 (.slice A5b (i + 1) c5b) (i + 1) (ivals (ord1 k y (i + 1))) by
                rw [HSo.out, show ivals (ord1 k y i ++ [e0]) = ivals (ord1 k y i) ++ [.int .i64 (e0 : Int)] by simp [ivals]]
                exact hown5b)
              have HO6 := hide (hown6.out.kept hg5 (by
                rcases HDis.out with h | h
                · exact .inr (by rw [h]; simp [Value.ownBlock])
                · exact .inr (Ne.symm h)))
              have F5 := hide (HFr.out.grown hg5 (fun k hk => .inr ((hown5'.lt k hk).1)))
              have HL5 := hide HO5.out.lt
              clear hown5b hg5 hn5 z6 hown5' hown5 hown6
              have HRd := hide (Reads.of_own HO6.out)
              have HRt := hide (ireads_take HRd.out (show kk ≤ nl by omega))
              have HRr := hide (show Reads w5 w5.heap.size 1 (some ⟨g6, kk + 1, none⟩) (nl - (kk + 1)) (ivals ((ord2 k y i).drop (kk + 1))) by
                have := ireads_drop HRd.out (show kk + 1 ≤ nl by omega)
                rwa [Nat.zero_add] at this)
              have hb1 : (1 : Int) ≤ (nl : Int) := by omega
              have hb2 : 1 ≤ nl := by omega
              have hb3 : 1 ≤ c6 := by omega
              have hw1 : IntKind.i64.wrap ((kk : Int) + 1) = (kk : Int) + 1 := by simp only [IntKind.wrap, IntKind.bits, IntKind.signed]; simp <;> omega
              have hw2 : ((kk : Int) + 1).toNat = kk + 1 := by omega
              have hw3 : (0 : Int) ≤ (kk : Int) + 1 := by omega
              have hbw := F5.out.size
              have bk2 : (kk : Int) ≤ (c6 : Int) := by omega
              have bk3 : (kk : Int) + 1 ≤ (nl : Int) := by omega
              have bk10 : (kk : Int) + 1 ≤ (c6 : Int) := by omega
              have bk4 : (nl : Int) ≤ (c6 : Int) := by omega
              have HONE := hide (fun (L : List Nat) => (show ∀ u ∈ ivals L, u.oneCell' = true from fun u hu => by
                obtain ⟨x, _, rfl⟩ := List.mem_map.1 hu
                simp [Value.oneCell']))
              by_cases hce : c6 = kk + 1
              · have hnle : nl = kk + 1 := by omega
                subst hnle
                subst hce
                have bq1 : (kk : Int) ≤ (kk : Int) + 1 := by omega
                have bq2 : kk ≤ kk + 1 := by omega
                have hdr : (ord2 k y i).drop (kk + 1) = [] := List.drop_of_length_le (by rw [HLl.out]; exact Nat.le_refl _)
                go_wp2_with fail
                go_region_held3 (fun W => Fr (fun _ => False) w5 W)
                  (first | exact (Fr.refl _ _).drew | exact Fr.alloc (by assumption) _ | exact Fr.grown (by assumption) hgr7 (fun k hk => .inr (by obtain rfl := Option.some.inj hk; exact Nat.le_refl _)) | exact Fr.grown (by assumption) hgr8 (fun k hk => .inr ((hown7.lt k hk).1)))
                  (first
                    | (refine step_append_reads (o := ⟨some 49, _, _, _, _, _⟩) (by rfl) _ _ _ (by rfl) w5.heap.size 3 i0 _ 1 8 Tryz.underlying37 hi hz0 hz1 hz2 rfl (by omega) (.slice (some ⟨w5.heap.size, 0, none⟩) 0 0) 0 [] (by rfl)
                        (by first | exact lit0i (Blk.new _ _ _) | exact lit0i ((Blk.new _ _ _).drew)) _ (some ⟨g6, 0, none⟩) kk (kk + 1) (ivals ((ord2 k y i).take kk)) (by rfl) (HRt.out.up (by assumption)) (HONE.out _) (by unfold maxLen; omega) (by omega) (Fr.size (by assumption)) ?_; intro v7 w7 hown7 hgr7 hn7; obtain ⟨A7, c7, rfl⟩ := Reads.own_val hown7; simp only [Nat.zero_add, List.nil_append] at hown7 ⊢)
                    | (refine step_append_reads (o := ⟨some 54, _, _, _, _, _⟩) (by rfl) _ _ _ (by rfl) w5.heap.size 3 i0 _ 1 8 Tryz.underlying37 hi hz0 hz1 hz2 rfl (by omega) (.slice A7 kk c7) kk (ivals ((ord2 k y i).take kk)) (by rfl)
                        hown7 0 (some ⟨g6, 0, none⟩) 0 0 [] (by rfl) ⟨rfl, fun h => absurd h (Nat.lt_irrefl _)⟩ (fun u hu => by cases hu) (by unfold maxLen; omega) (by omega) (Fr.size (by assumption)) ?_; intro v8 w8 hown8 hgr8 hn8; obtain ⟨A8, c8, rfl⟩ := Reads.own_val hown8))
                have F8 : Fr (fun _ => False) w5 w8 := by assumption
                have HOn := hide (show w8.ownsRow w.heap.size 3 1 (.slice A8 (kk + 0) c8) (kk + 0) (ivals (ord2 k y (i + 1))) from by
                  rw [HSl.out, hdr, show ivals ((ord2 k y i).take kk ++ []) = ivals ((ord2 k y i).take kk) ++ [] by simp [ivals]]
                  exact own_mono hown8 hbw)
                have HO5b := hide (own_fr HO5.out F8)
                have HDb := hide (show (Value.slice A5b (i + 1) c5b).ownBlock = none ∨ (Value.slice A5b (i + 1) c5b).ownBlock ≠ (Value.slice A8 (kk + 0) c8).ownBlock from by
                  cases ho : (Value.slice A5b (i + 1) c5b).ownBlock with
                  | none => exact .inl rfl
                  | some g =>
                    right
                    intro he
                    have h1 := (HL5.out g ho).2
                    have h2 := (hown8.lt g he.symm).1
                    omega)
                have HFb := hide (F5.out.then_ F8)
                clear hown8 hown7 hgr7 hgr8 hn7 hn8 F8
                go_wp2
                go_roundw
                case rel => exact ⟨i + 1, _, A5b, c5b, A8, c8, by omega, by go_num, by omega, rfl, rfl, HO5b.out, HOn.out, HDb.out, HFb.out⟩
                case measure => simp [intOf]; omega
              · try simp only [Nat.zero_add] at hce
                have hce2 : ¬ ((c6 : Int) = ((kk : Nat) : Int) + 1) := by omega
                have hce3 : c6 - (kk + 1) ≠ 0 := by omega
                go_wp2_with fail
                go_region_held3 (fun W => Fr (fun _ => False) w5 W)
                  (first | exact (Fr.refl _ _).drew | exact Fr.alloc (by assumption) _ | exact Fr.grown (by assumption) hgr7 (fun k hk => .inr (by obtain rfl := Option.some.inj hk; exact Nat.le_refl _)) | exact Fr.grown (by assumption) hgr8 (fun k hk => .inr ((hown7.lt k hk).1)))
                  (first
                    | (refine step_append_reads (o := ⟨some 49, _, _, _, _, _⟩) (by rfl) _ _ _ (by rfl) w5.heap.size 3 i0 _ 1 8 Tryz.underlying37 hi hz0 hz1 hz2 rfl (by omega) (.slice (some ⟨w5.heap.size, 0, none⟩) 0 0) 0 [] (by rfl)
                        (by first | exact lit0i (Blk.new _ _ _) | exact lit0i ((Blk.new _ _ _).drew)) _ (some ⟨g6, 0, none⟩) kk c6 (ivals ((ord2 k y i).take kk)) (by rfl) (HRt.out.up (by assumption)) (HONE.out _) (by unfold maxLen; omega) (by omega) (Fr.size (by assumption)) ?_; intro v7 w7 hown7 hgr7 hn7; obtain ⟨A7, c7, rfl⟩ := Reads.own_val hown7; simp only [Nat.zero_add, List.nil_append] at hown7 ⊢)
                    | (refine step_append_reads (o := ⟨some 54, _, _, _, _, _⟩) (by rfl) _ _ _ (by rfl) w5.heap.size 3 i0 _ 1 8 Tryz.underlying37 hi hz0 hz1 hz2 rfl (by omega) (.slice A7 kk c7) kk (ivals ((ord2 k y i).take kk)) (by rfl)
                        hown7 _ (some ⟨g6, kk + 1, none⟩) (nl - (kk + 1)) (c6 - (kk + 1)) (ivals ((ord2 k y i).drop (kk + 1))) (by rfl) (HRr.out.up (by assumption)) (HONE.out _) (by unfold maxLen; omega) (by omega) (Fr.size (by assumption)) ?_; intro v8 w8 hown8 hgr8 hn8; obtain ⟨A8, c8, rfl⟩ := Reads.own_val hown8))
                have F8 : Fr (fun _ => False) w5 w8 := by assumption
                have HOn := hide (show w8.ownsRow w.heap.size 3 1 (.slice A8 (kk + (nl - (kk + 1))) c8) (kk + (nl - (kk + 1))) (ivals (ord2 k y (i + 1))) from by
                  rw [HSl.out, show ivals ((ord2 k y i).take kk ++ (ord2 k y i).drop (kk + 1)) = ivals ((ord2 k y i).take kk) ++ ivals ((ord2 k y i).drop (kk + 1)) by simp [ivals]]
                  exact own_mono hown8 hbw)
                have HO5b := hide (own_fr HO5.out F8)
                have HDb := hide (show (Value.slice A5b (i + 1) c5b).ownBlock = none ∨ (Value.slice A5b (i + 1) c5b).ownBlock ≠ (Value.slice A8 (kk + (nl - (kk + 1))) c8).ownBlock from by
                  cases ho : (Value.slice A5b (i + 1) c5b).ownBlock with
                  | none => exact .inl rfl
                  | some g =>
                    right
                    intro he
                    have h1 := (HL5.out g ho).2
                    have h2 := (hown8.lt g he.symm).1
                    omega)
                have HFb := hide (F5.out.then_ F8)
                clear hown8 hown7 hgr7 hgr8 hn7 hn8 F8
                go_wp2
                go_roundw
                case rel => exact ⟨i + 1, _, A5b, c5b, A8, c8, by omega, by go_num, by omega, rfl, rfl, HO5b.out, HOn.out, HDb.out, HFb.out⟩
                case measure => simp [intOf]; omega
          · rw [if_neg him] at hpk
            go_upto_region 13 with (fail)
            rw [show (Value.int .i64 0) = Value.int .i64 ((kk : Nat) : Int) by rw [hpk]; rfl]
            clear hpk hkk
            have HSl := hide (show ord2 k y (i + 1) = (ord2 k y i).take kk ++ (ord2 k y i).drop (kk + 1) from by
              show (Gr.ord k y (i + 1)).2 = _
              unfold Gr.ord
              rw [HPk.out]
              rfl)
            have HSo := hide (show ord1 k y (i + 1) = ord1 k y i ++ [(ord2 k y i).getD kk 0] from by
              show (Gr.ord k y (i + 1)).1 = _
              unfold Gr.ord
              rw [HPk.out]
              rfl)
            obtain ⟨g6, cap6, he6, hb6, hlt6⟩ := hown6.out.form (by omega)
            injection he6 with he6 _ he6c
            subst he6
            subst he6c
            have z6 : wr.cell? ⟨g6, kk, none⟩ = some (.int .i64 (((ord2 k y i).getD kk 0 : Nat) : Int)) := by
              rw [hown6.out.cellAt kk (by omega)]
              have h1 : kk < (ord2 k y i).length := by rw [HLl.out]; omega
              simp [ivals, List.getD, h1]
            obtain ⟨e0, he0⟩ : ∃ e0, (ord2 k y i).getD kk 0 = e0 := ⟨_, rfl⟩
            rw [he0] at z6 HSo
            have bk0 : (0 : Int) ≤ (kk : Int) := by omega
            have bk1 : (kk : Int) < (nl : Int) := by omega
            have hcap6 : nl ≤ c6 := by
              rcases hown6.out.2 with ⟨h, _⟩ | ⟨g', cap', cur, h, _, _, h2, _⟩
              · cases h
              · injection h with _ _ h; omega
            have hown5' := hown5.out
            go_wp2_with (at_builtin; refine wpList_append_box wr _ _ rfl (.tmp 38) (.tmp 43) _ rfl w.heap.size 3 i0 _ 1 8 Tryz.underlying37 hi hz0 hz1 hz2 rfl (by decide) _ _ _ rfl hown5' rfl rfl ?bc1 ?bc2 ?bc3 ?bc4 ?bc5)
            case bc1 => simp [Value.oneCell']
            case bc2 => unfold maxLen; omega
            case bc3 => omega
            case bc4 => exact HFr.out.size
            case bc5 =>
              intro v5 w5 hown5b hg5 hn5
              obtain ⟨A5b, c5b, rfl⟩ := Reads.own_val hown5b
              have HO5 := hide (show w5.ownsRow w.heap.size 3 1 (.slice A5b (i + 1) c5b) (i + 1) (ivals (ord1 k y (i + 1))) by
                rw [HSo.out, show ivals (ord1 k y i ++ [e0]) = ivals (ord1 k y i) ++ [.int .i64 (e0 : Int)] by simp [ivals]]
                exact hown5b)
              have HO6 := hide (hown6.out.kept hg5 (by
                rcases HDis.out with h | h
                · exact .inr (by rw [h]; simp [Value.ownBlock])
                · exact .inr (Ne.symm h)))
              have F5 := hide (HFr.out.grown hg5 (fun k hk => .inr ((hown5'.lt k hk).1)))
              have HL5 := hide HO5.out.lt
              clear hown5b hg5 hn5 z6 hown5' hown5 hown6
              have HRd := hide (Reads.of_own HO6.out)
              have HRt := hide (ireads_take HRd.out (show kk ≤ nl by omega))
              have HRr := hide (show Reads w5 w5.heap.size 1 (some ⟨g6, kk + 1, none⟩) (nl - (kk + 1)) (ivals ((ord2 k y i).drop (kk + 1))) by
                have := ireads_drop HRd.out (show kk + 1 ≤ nl by omega)
                rwa [Nat.zero_add] at this)
              have hb1 : (1 : Int) ≤ (nl : Int) := by omega
              have hb2 : 1 ≤ nl := by omega
              have hb3 : 1 ≤ c6 := by omega
              have hw1 : IntKind.i64.wrap ((kk : Int) + 1) = (kk : Int) + 1 := by simp only [IntKind.wrap, IntKind.bits, IntKind.signed]; simp <;> omega
              have hw2 : ((kk : Int) + 1).toNat = kk + 1 := by omega
              have hw3 : (0 : Int) ≤ (kk : Int) + 1 := by omega
              have hbw := F5.out.size
              have bk2 : (kk : Int) ≤ (c6 : Int) := by omega
              have bk3 : (kk : Int) + 1 ≤ (nl : Int) := by omega
              have bk10 : (kk : Int) + 1 ≤ (c6 : Int) := by omega
              have bk4 : (nl : Int) ≤ (c6 : Int) := by omega
              have HONE := hide (fun (L : List Nat) => (show ∀ u ∈ ivals L, u.oneCell' = true from fun u hu => by
                obtain ⟨x, _, rfl⟩ := List.mem_map.1 hu
                simp [Value.oneCell']))
              by_cases hce : c6 = kk + 1
              · have hnle : nl = kk + 1 := by omega
                subst hnle
                subst hce
                have bq1 : (kk : Int) ≤ (kk : Int) + 1 := by omega
                have bq2 : kk ≤ kk + 1 := by omega
                have hdr : (ord2 k y i).drop (kk + 1) = [] := List.drop_of_length_le (by rw [HLl.out]; exact Nat.le_refl _)
                go_wp2_with fail
                go_region_held3 (fun W => Fr (fun _ => False) w5 W)
                  (first | exact (Fr.refl _ _).drew | exact Fr.alloc (by assumption) _ | exact Fr.grown (by assumption) hgr7 (fun k hk => .inr (by obtain rfl := Option.some.inj hk; exact Nat.le_refl _)) | exact Fr.grown (by assumption) hgr8 (fun k hk => .inr ((hown7.lt k hk).1)))
                  (first
                    | (refine step_append_reads (o := ⟨some 49, _, _, _, _, _⟩) (by rfl) _ _ _ (by rfl) w5.heap.size 3 i0 _ 1 8 Tryz.underlying37 hi hz0 hz1 hz2 rfl (by omega) (.slice (some ⟨w5.heap.size, 0, none⟩) 0 0) 0 [] (by rfl)
                        (by first | exact lit0i (Blk.new _ _ _) | exact lit0i ((Blk.new _ _ _).drew)) _ (some ⟨g6, 0, none⟩) kk (kk + 1) (ivals ((ord2 k y i).take kk)) (by rfl) (HRt.out.up (by assumption)) (HONE.out _) (by unfold maxLen; omega) (by omega) (Fr.size (by assumption)) ?_; intro v7 w7 hown7 hgr7 hn7; obtain ⟨A7, c7, rfl⟩ := Reads.own_val hown7; simp only [Nat.zero_add, List.nil_append] at hown7 ⊢)
                    | (refine step_append_reads (o := ⟨some 54, _, _, _, _, _⟩) (by rfl) _ _ _ (by rfl) w5.heap.size 3 i0 _ 1 8 Tryz.underlying37 hi hz0 hz1 hz2 rfl (by omega) (.slice A7 kk c7) kk (ivals ((ord2 k y i).take kk)) (by rfl)
                        hown7 0 (some ⟨g6, 0, none⟩) 0 0 [] (by rfl) ⟨rfl, fun h => absurd h (Nat.lt_irrefl _)⟩ (fun u hu => by cases hu) (by unfold maxLen; omega) (by omega) (Fr.size (by assumption)) ?_; intro v8 w8 hown8 hgr8 hn8; obtain ⟨A8, c8, rfl⟩ := Reads.own_val hown8))
                have F8 : Fr (fun _ => False) w5 w8 := by assumption
                have HOn := hide (show w8.ownsRow w.heap.size 3 1 (.slice A8 (kk + 0) c8) (kk + 0) (ivals (ord2 k y (i + 1))) from by
                  rw [HSl.out, hdr, show ivals ((ord2 k y i).take kk ++ []) = ivals ((ord2 k y i).take kk) ++ [] by simp [ivals]]
                  exact own_mono hown8 hbw)
                have HO5b := hide (own_fr HO5.out F8)
                have HDb := hide (show (Value.slice A5b (i + 1) c5b).ownBlock = none ∨ (Value.slice A5b (i + 1) c5b).ownBlock ≠ (Value.slice A8 (kk + 0) c8).ownBlock from by
                  cases ho : (Value.slice A5b (i + 1) c5b).ownBlock with
                  | none => exact .inl rfl
                  | some g =>
                    right
                    intro he
                    have h1 := (HL5.out g ho).2
                    have h2 := (hown8.lt g he.symm).1
                    omega)
                have HFb := hide (F5.out.then_ F8)
                clear hown8 hown7 hgr7 hgr8 hn7 hn8 F8
                go_wp2
                go_roundw
                case rel => exact ⟨i + 1, _, A5b, c5b, A8, c8, by omega, by go_num, by omega, rfl, rfl, HO5b.out, HOn.out, HDb.out, HFb.out⟩
                case measure => simp [intOf]; omega
              · try simp only [Nat.zero_add] at hce
                have hce2 : ¬ ((c6 : Int) = ((kk : Nat) : Int) + 1) := by omega
                have hce3 : c6 - (kk + 1) ≠ 0 := by omega
                go_wp2_with fail
                go_region_held3 (fun W => Fr (fun _ => False) w5 W)
                  (first | exact (Fr.refl _ _).drew | exact Fr.alloc (by assumption) _ | exact Fr.grown (by assumption) hgr7 (fun k hk => .inr (by obtain rfl := Option.some.inj hk; exact Nat.le_refl _)) | exact Fr.grown (by assumption) hgr8 (fun k hk => .inr ((hown7.lt k hk).1)))
                  (first
                    | (refine step_append_reads (o := ⟨some 49, _, _, _, _, _⟩) (by rfl) _ _ _ (by rfl) w5.heap.size 3 i0 _ 1 8 Tryz.underlying37 hi hz0 hz1 hz2 rfl (by omega) (.slice (some ⟨w5.heap.size, 0, none⟩) 0 0) 0 [] (by rfl)
                        (by first | exact lit0i (Blk.new _ _ _) | exact lit0i ((Blk.new _ _ _).drew)) _ (some ⟨g6, 0, none⟩) kk c6 (ivals ((ord2 k y i).take kk)) (by rfl) (HRt.out.up (by assumption)) (HONE.out _) (by unfold maxLen; omega) (by omega) (Fr.size (by assumption)) ?_; intro v7 w7 hown7 hgr7 hn7; obtain ⟨A7, c7, rfl⟩ := Reads.own_val hown7; simp only [Nat.zero_add, List.nil_append] at hown7 ⊢)
                    | (refine step_append_reads (o := ⟨some 54, _, _, _, _, _⟩) (by rfl) _ _ _ (by rfl) w5.heap.size 3 i0 _ 1 8 Tryz.underlying37 hi hz0 hz1 hz2 rfl (by omega) (.slice A7 kk c7) kk (ivals ((ord2 k y i).take kk)) (by rfl)
                        hown7 _ (some ⟨g6, kk + 1, none⟩) (nl - (kk + 1)) (c6 - (kk + 1)) (ivals ((ord2 k y i).drop (kk + 1))) (by rfl) (HRr.out.up (by assumption)) (HONE.out _) (by unfold maxLen; omega) (by omega) (Fr.size (by assumption)) ?_; intro v8 w8 hown8 hgr8 hn8; obtain ⟨A8, c8, rfl⟩ := Reads.own_val hown8))
                have F8 : Fr (fun _ => False) w5 w8 := by assumption
                have HOn := hide (show w8.ownsRow w.heap.size 3 1 (.slice A8 (kk + (nl - (kk + 1))) c8) (kk + (nl - (kk + 1))) (ivals (ord2 k y (i + 1))) from by
                  rw [HSl.out, show ivals ((ord2 k y i).take kk ++ (ord2 k y i).drop (kk + 1)) = ivals ((ord2 k y i).take kk) ++ ivals ((ord2 k y i).drop (kk + 1)) by simp [ivals]]
                  exact own_mono hown8 hbw)
                have HO5b := hide (own_fr HO5.out F8)
                have HDb := hide (show (Value.slice A5b (i + 1) c5b).ownBlock = none ∨ (Value.slice A5b (i + 1) c5b).ownBlock ≠ (Value.slice A8 (kk + (nl - (kk + 1))) c8).ownBlock from by
                  cases ho : (Value.slice A5b (i + 1) c5b).ownBlock with
                  | none => exact .inl rfl
                  | some g =>
                    right
                    intro he
                    have h1 := (HL5.out g ho).2
                    have h2 := (hown8.lt g he.symm).1
                    omega)
                have HFb := hide (F5.out.then_ F8)
                clear hown8 hown7 hgr7 hgr8 hn7 hn8 F8
                go_wp2
                go_roundw
                case rel => exact ⟨i + 1, _, A5b, c5b, A8, c8, by omega, by go_num, by omega, rfl, rfl, HO5b.out, HOn.out, HDb.out, HFb.out⟩
                case measure => simp [intOf]; omega
        · obtain rfl : i = k := by omega
          have HRo := hide (show ReadsIn wr w.heap.size 1 A5 i (ivals (Gr.order i y)) from ReadsIn.of_own hown5.out)
          clear hown5 hown6 HDis
          go_wp2
          go_ret
          exact ⟨A5, c5, rfl, HRo.out, HFr.out⟩
end Go.Proofs.YtjdbjahgimlhbaaGreat
end
section
set_option linter.unusedVariables false
set_option maxRecDepth 100000
namespace Go.Proofs.YtjdbjahgimlhbaaGreat.whole
open Go.RowKit

theorem great_any (many argt : Nat) (AB : Option Addr) (nB cB : Nat) (AM : Option Addr) (nM cM : Nat) (w : World) :
    Calls Tryz.prog 4 #[.agg #[.int .u8 (many : Int), .int .u8 (argt : Int), .slice AB nB cB, .slice AM nM cM]] w fun e w' => e = .returned (.bool (decide (50 < nB) || decide (20 < nM))) ∧ Fr (fun _ => False) w w' := by
  by_cases h1 : 50 < nB
  · go_enter Tryz.func4, Tryz.ntmps4
    go_wp2
    go_ret
    exact ⟨by simp, (Fr.refl _ _).alloc _⟩
  · by_cases h2 : 20 < nM
    · go_enter Tryz.func4, Tryz.ntmps4
      go_wp2
      go_ret
      exact ⟨by simp [h1, h2]; omega, (Fr.refl _ _).alloc _⟩
    · go_enter Tryz.func4, Tryz.ntmps4
      go_wp2
      go_ret
      exact ⟨by simp [h1, h2]; omega, (Fr.refl _ _).alloc _⟩
end Go.Proofs.YtjdbjahgimlhbaaGreat.whole
end
