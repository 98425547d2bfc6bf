/- Parts of the proof of several laws: no conditions of their own. -/
import Derived.Test.YtjdbjahgimlhbaaWhPk1
import Derived.Test.YtjdbjahgimlhbaaWhPk16
import Derived.Test.YtjdbjahgimlhbaaWhPk3
import Derived.Test.YtjdbjahgimlhbaaWhPk14
import Derived.Deep.Cut
import Derived.Test.YtjdbjahgimlhbaaWhPk10
import Derived.Test.YtjdbjahgimlhbaaWhPk0
section
set_option linter.unusedVariables false
set_option maxRecDepth 100000
namespace Go.Proofs.Ytjdbjahgimlhbaa
open Go.RowKit

def ord1 (many : Nat) (y : List Nat) (i : Nat) : List Nat := (Gr.ord many y i).1
def ord2 (many : Nat) (y : List Nat) (i : Nat) : List Nat := (Gr.ord many y i).2
theorem step_append_reads {P : Program} {w : World} {ops : Array Oper} {o : Oper} {a : Act} {K : Act → World → Prop} {Q : Exit → Act → World → Prop} {E : Prop} (hgd : o.guard = none) (s x : Operand) (t : TypeId)
    (ho : o.op = .call { callee := .builtin .append, args := #[s, x], argTypes := #[t, t] })
    (base : Nat) (e : TypeId) (i : TypeInfo) (z : Value) (size bytes : Nat) (ht : P.underlying t = some (.slice e)) (hi : P.info? e = some i) (hz : i.zero = some z)
    (hsize : i.size = size) (hby : i.bytes = bytes) (hzs : z.cells.size = size) (hsz : 0 < size)
    (v : Value) (n : Nat) (xs : List Value) (hs : a.eval s = v) (hown : w.ownsRow base e size v n xs)
    (B : Nat) (A : Option Addr) (m c : Nat) (news : List Value) (hx : a.eval x = .slice A m c) (hr : Reads w B size A m news) (h1 : ∀ u ∈ news, u.oneCell' = true)
    (h63 : n + m ≤ maxLen) (hbytes : (n + m) * bytes ≤ 140737488355328) (hbase : base ≤ w.heap.size)
    (h : ∀ v' w', w'.ownsRow base e size v' (n + m) (xs ++ news) → w.grownBy w' v.ownBlock → (v'.ownBlock = v.ownBlock ∨ v'.ownBlock = some w.heap.size) → K (a.put o.dst v') w') :
    if Region.wanted o (yielded ops a.tmps) = true then Oper.wp P o a w K Q else E := by
  have hw : Region.wanted o (yielded ops a.tmps) = true := by simp [Region.wanted, hgd]
  rw [if_pos hw]
  obtain ⟨v', w', hrun, h2, h3, h4⟩ := run_append_reads (P := P) w base t o.type e i z size bytes ht hi hz hsize hby hzs hsz v n xs hown B A m c news hr h1 h63 hbytes hbase
  unfold Oper.wp execOp
  simp only [ho, resolve, invoke, builtin, Sem.run_bind, Sem.run_pure, Result.andThen_ok, List.map_toArray, List.map_cons, List.map_nil, hs, hx, hrun]
  exact h v' w' h2 h3 h4
theorem ireads_take {w : World} {B n K : Nat} {A : Option Addr} {l : List Nat} (h : Reads w B 1 A n (ivals l)) (hK : K ≤ n) : Reads w B 1 A K (ivals (l.take K)) := by
  have hl : l.length = n := by have := h.1; rw [ivals_len] at this; omega
  refine ⟨by rw [ivals_len]; simp; omega, fun hn => ?_⟩
  obtain ⟨b, o, e, hb, hc⟩ := h.2 (by omega)
  refine ⟨b, o, e, hb, fun j u hu => hc j u ?_⟩
  unfold ivals at *
  rw [List.map_take] at hu
  rw [List.getElem?_take] at hu
  split at hu
  · exact hu
  · cases hu
theorem ireads_drop {w : World} {B n K b o : Nat} {l : List Nat} (h : Reads w B 1 (some ⟨b, o, none⟩) n (ivals l)) (hK : K ≤ n) : Reads w B 1 (some ⟨b, o + K, none⟩) (n - K) (ivals (l.drop K)) := by
  have hl : l.length = n := by have := h.1; rw [ivals_len] at this; omega
  refine ⟨by rw [ivals_len]; simp; omega, fun hn => ?_⟩
  obtain ⟨b', o', e, hb, hc⟩ := h.2 (by omega)
  injection e with e
  injection e with e1 e2
  subst e1
  subst e2
  refine ⟨b, o + K, rfl, hb, fun j u hu => ?_⟩
  unfold ivals at *
  rw [List.map_drop, List.getElem?_drop] at hu
  have := hc (K + j) u hu
  rwa [← Nat.add_assoc] at this
theorem own_mono {w : World} {base base' size n : Nat} {e : TypeId} {v : Value} {xs : List Value} (h : w.ownsRow base e size v n xs) (hb : base' ≤ base) : w.ownsRow base' e size v n xs := by
  refine ⟨h.1, ?_⟩
  rcases h.2 with h1 | ⟨g, cap, cur, h1, hg, rest⟩
  · exact .inl h1
  · exact .inr ⟨g, cap, cur, h1, Nat.le_trans hb hg, rest⟩
theorem lit0i {w : World} {H : Nat} (h : Blk w H 3 #[]) : w.ownsRow H 3 1 (.slice (some ⟨H, 0, none⟩) 0 0) 0 [] :=
  ⟨by simp, .inr ⟨H, 0, #[], rfl, Nat.le_refl _, h, Nat.le_refl _, Nat.zero_le _, by simp, by simp⟩⟩
set_option maxHeartbeats 4000000 in
theorem order_any (A : Option Addr) (many m c : Nat) (y : List Nat) (w : World) (h : Reads w w.heap.size 1 A m (y.map fun x : Nat => .int .u8 (x : Int))) (hm : y.length = m) (hmany : many ≤ 16) (hy : ∀ x ∈ y, x < 256) (hm63 : m ≤ 9223372036854775807) :
    Calls Try.prog 34 #[.int .i64 (many : Int), .slice A m c] w fun e w' => ∃ A' c', e = .returned (.slice A' many c') ∧ ReadsIn w' w.heap.size 1 A' many (ivals (Gr.order many y)) ∧ Fr (fun _ => False) w w' := by
  have H := hide h
  have HM := hide hm
  have HY := hide hy
  clear h hm hy
  obtain ⟨i0, hi, hz0, hz1, hz2⟩ := info_parts int_info
  have hmk := fun w => run_make_rowN (P := Try.prog) 64 3 i0 _ rfl hi hz0 .i64 .i64 many many (Nat.le_refl _) (by rw [hz2]; omega) (by omega) w
  rw [hz1, show (Value.int .i64 0).cells = #[.int .i64 0] from rfl, madeCells_one, Nat.mul_one] at hmk
  have B0 := hide (Blk.new w 3 (List.replicate many (Value.int .i64 0)).toArray)
  have F0 := hide ((Fr.refl (fun _ => False) w).alloc (.cells (List.replicate many (Value.int .i64 0)).toArray 3))
  have S0 : (w.alloc (.cells (List.replicate many (Value.int .i64 0)).toArray 3)).heap.size = w.heap.size + 1 := by simp
  have hsz0 : (List.replicate many (Value.int .i64 0)).toArray.size = many := by simp
  generalize (List.replicate many (Value.int .i64 0)).toArray = cs0 at *
  go_enter Try.func34, Try.ntmps34
  go_wp2_with fail
  generalize w.alloc (.cells cs0 3) = W1 at *
  go_loopw [7] (fun i wr => ∃ k : Nat, k ≤ many ∧ i = .int .i64 k ∧ Hid (∃ cs, Blk wr w.heap.size 3 cs ∧ cs.size = many ∧ (∀ j, j < k → cs[j]? = some (.int .i64 (j : Int))) ∧ Fr (fun k => k = w.heap.size) W1 wr)) (fun i _ => many - (intOf i).toNat)
  case atStart => exact ⟨0, by omega, rfl, cs0, B0.out, hsz0, fun j h => absurd h (by omega), Fr.refl _ _⟩
  case round =>
    obtain ⟨k, hk, rfl, HI⟩ := hrel
    by_cases hlt : k < many
    · obtain ⟨cs, hb, hcs, hc, hf⟩ := HI.out
      have c0 : ∃ v, wr.cell? ⟨w.heap.size, k, none⟩ = some v := by rw [hb.cell]; exact ⟨cs[k]'(by omega), Array.getElem?_eq_getElem (by omega)⟩
      obtain ⟨v0, c0⟩ := c0
      have f0 := hb.frozen k
      have HB := hide (hb.set_ k (.int .i64 (k : Int)))
      have HC := hide hc
      have HF := hide (hf.setCell (p := ⟨w.heap.size, k, none⟩) (.inl rfl) (.int .i64 (k : Int)))
      clear hb hc hf
      go_wp2
      go_roundw
      case rel =>
        refine ⟨k + 1, by omega, by go_num, _, HB.out, by simp [hcs], fun j hj => ?_, HF.out⟩
        by_cases hjk : j = k
        · subst hjk; simp [hcs, hlt]
        · rw [Array.getElem?_setIfInBounds_ne (Ne.symm hjk)]; exact HC.out j (by omega)
      case measure => simp [intOf]; omega
    · obtain rfl : k = many := by omega
      obtain ⟨cs, hb, hcs, hc, hf⟩ := HI.out
      have HFw := hide ((F0.out.trans hf (fun k h => .inr (by omega))))
      have hown := (show wr.ownsRow w.heap.size 3 1 (.slice (some ⟨w.heap.size, 0, none⟩) k k) k (ivals (List.range k)) from ⟨by simp [ivals], .inr ⟨w.heap.size, k, cs, rfl, Nat.le_refl _, hb, Nat.le_refl _, by unfold maxLen; omega, by omega, by
        rw [Nat.mul_one, ← hcs, ← Array.length_toList, List.take_of_length_le (Nat.le_refl _)]
        apply List.ext_getElem?
        intro j
        by_cases hj : j < k
        · rw [Array.getElem?_toList, hc j hj]; simp [ivals, hcs, hj]
        · rw [Array.getElem?_toList, Array.getElem?_eq_none (by omega), List.getElem?_eq_none (by simp [ivals]; omega)]⟩⟩)
      have HO := hide hown
      have hlw := hb.lt
      clear HI hb hc hf hown B0 F0 hmk
      have HFl := hide (show ord2 k y 0 = List.range k from rfl)
      go_wp2_with fail
      go_loopw [5, 6, 8] (fun v5 v6 i wr => ∃ (i' nl : Nat) (A5 : Option Addr) (c5 : Nat) (A6 : Option Addr) (c6 : Nat), i' ≤ k ∧ i = .int .i64 i' ∧ nl = k - i' ∧ v5 = .slice A5 i' c5 ∧ v6 = .slice A6 nl c6 ∧ Hid (wr.ownsRow w.heap.size 3 1 (.slice A5 i' c5) i' (ivals (ord1 k y i'))) ∧ Hid (wr.ownsRow w.heap.size 3 1 (.slice A6 nl c6) nl (ivals (ord2 k y i'))) ∧ Hid ((Value.slice A5 i' c5).ownBlock = none ∨ (Value.slice A5 i' c5).ownBlock ≠ (Value.slice A6 nl c6).ownBlock) ∧ Hid (Fr (fun _ => False) w wr)) (fun _ _ i _ => k - (intOf i).toNat)
      case atStart => exact ⟨0, k, none, 0, some ⟨w.heap.size, 0, none⟩, k, by omega, rfl, by omega, rfl, rfl, World.ownsRow_nil _ _ _ _, HO.out, .inl rfl, HFw.out⟩
      case round =>
        obtain ⟨i, nl, A5, c5, A6, c6, hik, rfl, hnl, rfl, rfl, hown5, hown6, HDis, HFr⟩ := hrel
        have HLl := hide (show (ord2 k y i).length = nl by have := (Gr.ord_ok k y i hik).2.2; unfold ord2; omega)
        have hnl1 : i + nl ≤ k := by omega
        have hnl2 : k ≤ i + nl := by omega
        clear hnl
        by_cases hlt : i < k
        · obtain ⟨kk, hkk, hkl⟩ : ∃ kk, Gr.pick y i (Gr.ord k y i).2.length = kk ∧ kk < nl := ⟨_, rfl, by have h1 := HLl.out; unfold ord2 at h1; rw [h1]; exact Gr.pick_lt y i (by omega)⟩
          have HPk := hide hkk
          have hpk : kk = if i < m then y.getD i 0 % nl else 0 := by
            have h1 := HLl.out
            unfold ord2 at h1
            rw [← hkk, h1]
            unfold Gr.pick
            rw [HM.out]
          by_cases him : i < m
          · rw [if_pos him] at hpk
            have lyi : i < y.length := by rw [HM.out]; exact him
            obtain ⟨bb, oo, uu, rfl, _, hu, hcc⟩ := (H.out.up HFr.out).at_ him
            have hyu : y.getD i 0 = y[i] := by simp [List.getD, lyi]
            have hy256 := HY.out _ (List.getElem_mem lyi)
            rw [List.getElem?_map, List.getElem?_eq_getElem lyi] at hu
            rw [hyu] at hpk
            clear hyu
            generalize y[i]'lyi = yi at *
            obtain rfl := Option.some.inj hu
            have hcc2 : wr.cell? ⟨bb, oo + i, none⟩ = some (.int .u8 (yi : Int)) := hcc
            clear hcc
            have hyl : (yi : Int) < 256 := by omega
            have hmod : (yi : Int) % (nl : Int) = (kk : Int) := by rw [hpk]; rfl
            have hnl0 : ¬ ((nl : Int) = 0) := by omega
            clear hpk hkk hu
            have HSl := hide (show ord2 k y (i + 1) = (ord2 k y i).take kk ++ (ord2 k y i).drop (kk + 1) from by
              show (Gr.ord k y (i + 1)).2 = _
              unfold Gr.ord
              rw [HPk.out]
              rfl)
            have HSo := hide (show ord1 k y (i + 1) = ord1 k y i ++ [(ord2 k y i).getD kk 0] from by
              show (Gr.ord k y (i + 1)).1 = _
              unfold Gr.ord
              rw [HPk.out]
              rfl)
            obtain ⟨g6, cap6, he6, hb6, hlt6⟩ := hown6.out.form (by omega)
            injection he6 with he6 _ he6c
            subst he6
            subst he6c
            have z6 : wr.cell? ⟨g6, kk, none⟩ = some (.int .i64 (((ord2 k y i).getD kk 0 : Nat) : Int)) := by
              rw [hown6.out.cellAt kk (by omega)]
              have h1 : kk < (ord2 k y i).length := by rw [HLl.out]; omega
              simp [ivals, List.getD, h1]
            obtain ⟨e0, he0⟩ : ∃ e0, (ord2 k y i).getD kk 0 = e0 := ⟨_, rfl⟩
            rw [he0] at z6 HSo
            have bk0 : (0 : Int) ≤ (kk : Int) := by omega
            have bk1 : (kk : Int) < (nl : Int) := by omega
            have hcap6 : nl ≤ c6 := by
              rcases hown6.out.2 with ⟨h, _⟩ | ⟨g', cap', cur, h, _, _, h2, _⟩
              · cases h
              · injection h with _ _ h; omega
            have hown5' := hown5.out
            go_wp2_with (at_builtin; refine wpList_append_box wr _ _ rfl (.tmp 38) (.tmp 43) _ rfl w.heap.size 3 i0 _ 1 8 Try.underlying64 hi hz0 hz1 hz2 rfl (by decide) _ _ _ rfl hown5' rfl rfl ?ac1 ?ac2 ?ac3 ?ac4 ?ac5)
            case ac1 => simp [Value.oneCell']
            case ac2 => unfold maxLen; omega
            case ac3 => omega
            case ac4 => exact HFr.out.size
            case ac5 =>
              intro v5 w5 hown5b hg5 hn5
              obtain ⟨A5b, c5b, rfl⟩ := Reads.own_val hown5b
              have HO5 := hide (show w5.ownsRow w.heap.size 3 1 (.slice A5b (i + 1) c5b) (i + 1) (ivals (ord1 k y (i + 1))) by
                rw [HSo.out, show ivals (ord1 k y i ++ [e0]) = ivals (ord1 k y i) ++ [.int .i64 (e0 : Int)] by simp [ivals]]
                exact hown5b)
              have HO6 := hide (hown6.out.kept hg5 (by
                rcases HDis.out with h | h
                · exact .inr (by rw [h]; simp [Value.ownBlock])
                · exact .inr (Ne.symm h)))
              have F5 := hide (HFr.out.grown hg5 (fun k hk => .inr ((hown5'.lt k hk).1)))
              have HL5 := hide HO5.out.lt
              clear hown5b hg5 hn5 z6 hown5' hown5 hown6
              have HRd := hide (Reads.of_own HO6.out)
              have HRt := hide (ireads_take HRd.out (show kk ≤ nl by omega))
              have HRr := hide (show Reads w5 w5.heap.size 1 (some ⟨g6, kk + 1, none⟩) (nl - (kk + 1)) (ivals ((ord2 k y i).drop (kk + 1))) by
                have := ireads_drop HRd.out (show kk + 1 ≤ nl by omega)
                rwa [Nat.zero_add] at this)
              have hb1 : (1 : Int) ≤ (nl : Int) := by omega
              have hb2 : 1 ≤ nl := by omega
              have hb3 : 1 ≤ c6 := by omega
              have hw1 : IntKind.i64.wrap ((kk : Int) + 1) = (kk : Int) + 1 := by simp only [IntKind.wrap, IntKind.bits, IntKind.signed]; simp <;> omega
              have hw2 : ((kk : Int) + 1).toNat = kk + 1 := by omega
              have hw3 : (0 : Int) ≤ (kk : Int) + 1 := by omega
              have hbw := F5.out.size
              have bk2 : (kk : Int) ≤ (c6 : Int) := by omega
              have bk3 : (kk : Int) + 1 ≤ (nl : Int) := by omega
              have bk10 : (kk : Int) + 1 ≤ (c6 : Int) := by omega
              have bk4 : (nl : Int) ≤ (c6 : Int) := by omega
              have HONE := hide (fun (L : List Nat) => (show ∀ u ∈ ivals L, u.oneCell' = true from fun u hu => by
                obtain ⟨x, _, rfl⟩ := List.mem_map.1 hu
                simp [Value.oneCell']))
              by_cases hce : c6 = kk + 1
              · have hnle : nl = kk + 1 := by omega
                subst hnle
                subst hce
                have bq1 : (kk : Int) ≤ (kk : Int) + 1 := by omega
                have bq2 : kk ≤ kk + 1 := by omega
                have hdr : (ord2 k y i).drop (kk + 1) = [] := List.drop_of_length_le (by rw [HLl.out]; exact Nat.le_refl _)
                go_wp2_with fail
                go_region_held3 (fun W => Fr (fun _ => False) w5 W)
                  (first | exact (Fr.refl _ _).drew | exact Fr.alloc (by assumption) _ | exact Fr.grown (by assumption) hgr7 (fun k hk => .inr (by obtain rfl := Option.some.inj hk; exact Nat.le_refl _)) | exact Fr.grown (by assumption) hgr8 (fun k hk => .inr ((hown7.lt k hk).1)))
                  (first
                    | (refine step_append_reads (o := ⟨some 49, _, _, _, _, _⟩) (by rfl) _ _ _ (by rfl) w5.heap.size 3 i0 _ 1 8 Try.underlying64 hi hz0 hz1 hz2 rfl (by omega) (.slice (some ⟨w5.heap.size, 0, none⟩) 0 0) 0 [] (by rfl)
                        (by first | exact lit0i (Blk.new _ _ _) | exact lit0i ((Blk.new _ _ _).drew)) _ (some ⟨g6, 0, none⟩) kk (kk + 1) (ivals ((ord2 k y i).take kk)) (by rfl) (HRt.out.up (by assumption)) (HONE.out _) (by unfold maxLen; omega) (by omega) (Fr.size (by assumption)) ?_; intro v7 w7 hown7 hgr7 hn7; obtain ⟨A7, c7, rfl⟩ := Reads.own_val hown7; simp only [Nat.zero_add, List.nil_append] at hown7 ⊢)
                    | (refine step_append_reads (o := ⟨some 54, _, _, _, _, _⟩) (by rfl) _ _ _ (by rfl) w5.heap.size 3 i0 _ 1 8 Try.underlying64 hi hz0 hz1 hz2 rfl (by omega) (.slice A7 kk c7) kk (ivals ((ord2 k y i).take kk)) (by rfl)
                        hown7 0 (some ⟨g6, 0, none⟩) 0 0 [] (by rfl) ⟨rfl, fun h => absurd h (Nat.lt_irrefl _)⟩ (fun u hu => by cases hu) (by unfold maxLen; omega) (by omega) (Fr.size (by assumption)) ?_; intro v8 w8 hown8 hgr8 hn8; obtain ⟨A8, c8, rfl⟩ := Reads.own_val hown8))
                have F8 : Fr (fun _ => False) w5 w8 := by assumption
                have HOn := hide (show w8.ownsRow w.heap.size 3 1 (.slice A8 (kk + 0) c8) (kk + 0) (ivals (ord2 k y (i + 1))) from by
                  rw [HSl.out, hdr, show ivals ((ord2 k y i).take kk ++ []) = ivals ((ord2 k y i).take kk) ++ [] by simp [ivals]]
                  exact own_mono hown8 hbw)
                have HO5b := hide (own_fr HO5.out F8)
                have HDb := hide (show (Value.slice A5b (i + 1) c5b).ownBlock = none ∨ (Value.slice A5b (i + 1) c5b).ownBlock ≠ (Value.slice A8 (kk + 0) c8).ownBlock from by
                  cases ho : (Value.slice A5b (i + 1) c5b).ownBlock with
                  | none => exact .inl rfl
                  | some g =>
                    right
                    intro he
                    have h1 := (HL5.out g ho).2
                    have h2 := (hown8.lt g he.symm).1
                    omega)
                have HFb := hide (F5.out.then_ F8)
                clear hown8 hown7 hgr7 hgr8 hn7 hn8 F8
                go_wp2
                go_roundw
                case rel => exact ⟨i + 1, _, A5b, c5b, A8, c8, by omega, by go_num, by omega, rfl, rfl, HO5b.out, HOn.out, HDb.out, HFb.out⟩
                case measure => simp [intOf]; omega
              · try simp only [Nat.zero_add] at hce
                have hce2 : ¬ ((c6 : Int) = ((kk : Nat) : Int) + 1) := by omega
                have hce3 : c6 - (kk + 1) ≠ 0 := by omega
                go_wp2_with fail
                go_region_held3 (fun W => Fr (fun _ => False) w5 W)
                  (first | exact (Fr.refl _ _).drew | exact Fr.alloc (by assumption) _ | exact Fr.grown (by assumption) hgr7 (fun k hk => .inr (by obtain rfl := Option.some.inj hk; exact Nat.le_refl _)) | exact Fr.grown (by assumption) hgr8 (fun k hk => .inr ((hown7.lt k hk).1)))
                  (first
                    | (refine step_append_reads (o := ⟨some 49, _, _, _, _, _⟩) (by rfl) _ _ _ (by rfl) w5.heap.size 3 i0 _ 1 8 Try.underlying64 hi hz0 hz1 hz2 rfl (by omega) (.slice (some ⟨w5.heap.size, 0, none⟩) 0 0) 0 [] (by rfl)
                        (by first | exact lit0i (Blk.new _ _ _) | exact lit0i ((Blk.new _ _ _).drew)) _ (some ⟨g6, 0, none⟩) kk c6 (ivals ((ord2 k y i).take kk)) (by rfl) (HRt.out.up (by assumption)) (HONE.out _) (by unfold maxLen; omega) (by omega) (Fr.size (by assumption)) ?_; intro v7 w7 hown7 hgr7 hn7; obtain ⟨A7, c7, rfl⟩ := Reads.own_val hown7; simp only [Nat.zero_add, List.nil_append] at hown7 ⊢)
                    | (refine step_append_reads (o := ⟨some 54, _, _, _, _, _⟩) (by rfl) _ _ _ (by rfl) w5.heap.size 3 i0 _ 1 8 Try.underlying64 hi hz0 hz1 hz2 rfl (by omega) (.slice A7 kk c7) kk (ivals ((ord2 k y i).take kk)) (by rfl)
                        hown7 _ (some ⟨g6, kk + 1, none⟩) (nl - (kk + 1)) (c6 - (kk + 1)) (ivals ((ord2 k y i).drop (kk + 1))) (by rfl) (HRr.out.up (by assumption)) (HONE.out _) (by unfold maxLen; omega) (by omega) (Fr.size (by assumption)) ?_; intro v8 w8 hown8 hgr8 hn8; obtain ⟨A8, c8, rfl⟩ := Reads.own_val hown8))
                have F8 : Fr (fun _ => False) w5 w8 := by assumption
                have HOn := hide (show w8.ownsRow w.heap.size 3 1 (.slice A8 (kk + (nl - (kk + 1))) c8) (kk + (nl - (kk + 1))) (ivals (ord2 k y (i + 1))) from by
                  rw [HSl.out, show ivals ((ord2 k y i).take kk ++ (ord2 k y i).drop (kk + 1)) = ivals ((ord2 k y i).take kk) ++ ivals ((ord2 k y i).drop (kk + 1)) by simp [ivals]]
                  exact own_mono hown8 hbw)
                have HO5b := hide (own_fr HO5.out F8)
                have HDb := hide (show (Value.slice A5b (i + 1) c5b).ownBlock = none ∨ (Value.slice A5b (i + 1) c5b).ownBlock ≠ (Value.slice A8 (kk + (nl - (kk + 1))) c8).ownBlock from by
                  cases ho : (Value.slice A5b (i + 1) c5b).ownBlock with
                  | none => exact .inl rfl
                  | some g =>
                    right
                    intro he
                    have h1 := (HL5.out g ho).2
                    have h2 := (hown8.lt g he.symm).1
                    omega)
                have HFb := hide (F5.out.then_ F8)
                clear hown8 hown7 hgr7 hgr8 hn7 hn8 F8
                go_wp2
                go_roundw
                case rel => exact ⟨i + 1, _, A5b, c5b, A8, c8, by omega, by go_num, by omega, rfl, rfl, HO5b.out, HOn.out, HDb.out, HFb.out⟩
                case measure => simp [intOf]; omega
          · rw [if_neg him] at hpk
            go_upto_region 13 with (fail)
            rw [show (Value.int .i64 0) = Value.int .i64 ((kk : Nat) : Int) by rw [hpk]; rfl]
            clear hpk hkk
            have HSl := hide (show ord2 k y (i + 1) = (ord2 k y i).take kk ++ (ord2 k y i).drop (kk + 1) from by
              show (Gr.ord k y (i + 1)).2 = _
              unfold Gr.ord
              rw [HPk.out]
              rfl)
            have HSo := hide (show ord1 k y (i + 1) = ord1 k y i ++ [(ord2 k y i).getD kk 0] from by
              show (Gr.ord k y (i + 1)).1 = _
              unfold Gr.ord
              rw [HPk.out]
              rfl)
            obtain ⟨g6, cap6, he6, hb6, hlt6⟩ := hown6.out.form (by omega)
            injection he6 with he6 _ he6c
            subst he6
            subst he6c
            have z6 : wr.cell? ⟨g6, kk, none⟩ = some (.int .i64 (((ord2 k y i).getD kk 0 : Nat) : Int)) := by
              rw [hown6.out.cellAt kk (by omega)]
              have h1 : kk < (ord2 k y i).length := by rw [HLl.out]; omega
              simp [ivals, List.getD, h1]
            obtain ⟨e0, he0⟩ : ∃ e0, (ord2 k y i).getD kk 0 = e0 := ⟨_, rfl⟩
            rw [he0] at z6 HSo
            have bk0 : (0 : Int) ≤ (kk : Int) := by omega
            have bk1 : (kk : Int) < (nl : Int) := by omega
            have hcap6 : nl ≤ c6 := by
              rcases hown6.out.2 with ⟨h, _⟩ | ⟨g', cap', cur, h, _, _, h2, _⟩
              · cases h
              · injection h with _ _ h; omega
            have hown5' := hown5.out
            go_wp2_with (at_builtin; refine wpList_append_box wr _ _ rfl (.tmp 38) (.tmp 43) _ rfl w.heap.size 3 i0 _ 1 8 Try.underlying64 hi hz0 hz1 hz2 rfl (by decide) _ _ _ rfl hown5' rfl rfl ?bc1 ?bc2 ?bc3 ?bc4 ?bc5)
            case bc1 => simp [Value.oneCell']
            case bc2 => unfold maxLen; omega
            case bc3 => omega
            case bc4 => exact HFr.out.size
            case bc5 =>
              intro v5 w5 hown5b hg5 hn5
              obtain ⟨A5b, c5b, rfl⟩ := Reads.own_val hown5b
              have HO5 := hide (show w5.ownsRow w.heap.size 3 1 (.slice A5b (i + 1) c5b) (i + 1) (ivals (ord1 k y (i + 1))) by
                rw [HSo.out, show ivals (ord1 k y i ++ [e0]) = ivals (ord1 k y i) ++ [.int .i64 (e0 : Int)] by simp [ivals]]
                exact hown5b)
              have HO6 := hide (hown6.out.kept hg5 (by
                rcases HDis.out with h | h
                · exact .inr (by rw [h]; simp [Value.ownBlock])
                · exact .inr (Ne.symm h)))
              have F5 := hide (HFr.out.grown hg5 (fun k hk => .inr ((hown5'.lt k hk).1)))
              have HL5 := hide HO5.out.lt
              clear hown5b hg5 hn5 z6 hown5' hown5 hown6
              have HRd := hide (Reads.of_own HO6.out)
              have HRt := hide (ireads_take HRd.out (show kk ≤ nl by omega))
              have HRr := hide (show Reads w5 w5.heap.size 1 (some ⟨g6, kk + 1, none⟩) (nl - (kk + 1)) (ivals ((ord2 k y i).drop (kk + 1))) by
                have := ireads_drop HRd.out (show kk + 1 ≤ nl by omega)
                rwa [Nat.zero_add] at this)
              have hb1 : (1 : Int) ≤ (nl : Int) := by omega
              have hb2 : 1 ≤ nl := by omega
              have hb3 : 1 ≤ c6 := by omega
              have hw1 : IntKind.i64.wrap ((kk : Int) + 1) = (kk : Int) + 1 := by simp only [IntKind.wrap, IntKind.bits, IntKind.signed]; simp <;> omega
              have hw2 : ((kk : Int) + 1).toNat = kk + 1 := by omega
              have hw3 : (0 : Int) ≤ (kk : Int) + 1 := by omega
              have hbw := F5.out.size
              have bk2 : (kk : Int) ≤ (c6 : Int) := by omega
              have bk3 : (kk : Int) + 1 ≤ (nl : Int) := by omega
              have bk10 : (kk : Int) + 1 ≤ (c6 : Int) := by omega
              have bk4 : (nl : Int) ≤ (c6 : Int) := by omega
              have HONE := hide (fun (L : List Nat) => (show ∀ u ∈ ivals L, u.oneCell' = true from fun u hu => by
                obtain ⟨x, _, rfl⟩ := List.mem_map.1 hu
                simp [Value.oneCell']))
              by_cases hce : c6 = kk + 1
              · have hnle : nl = kk + 1 := by omega
                subst hnle
                subst hce
                have bq1 : (kk : Int) ≤ (kk : Int) + 1 := by omega
                have bq2 : kk ≤ kk + 1 := by omega
                have hdr : (ord2 k y i).drop (kk + 1) = [] := List.drop_of_length_le (by rw [HLl.out]; exact Nat.le_refl _)
                go_wp2_with fail
                go_region_held3 (fun W => Fr (fun _ => False) w5 W)
                  (first | exact (Fr.refl _ _).drew | exact Fr.alloc (by assumption) _ | exact Fr.grown (by assumption) hgr7 (fun k hk => .inr (by obtain rfl := Option.some.inj hk; exact Nat.le_refl _)) | exact Fr.grown (by assumption) hgr8 (fun k hk => .inr ((hown7.lt k hk).1)))
                  (first
                    | (refine step_append_reads (o := ⟨some 49, _, _, _, _, _⟩) (by rfl) _ _ _ (by rfl) w5.heap.size 3 i0 _ 1 8 Try.underlying64 hi hz0 hz1 hz2 rfl (by omega) (.slice (some ⟨w5.heap.size, 0, none⟩) 0 0) 0 [] (by rfl)
                        (by first | exact lit0i (Blk.new _ _ _) | exact lit0i ((Blk.new _ _ _).drew)) _ (some ⟨g6, 0, none⟩) kk (kk + 1) (ivals ((ord2 k y i).take kk)) (by rfl) (HRt.out.up (by assumption)) (HONE.out _) (by unfold maxLen; omega) (by omega) (Fr.size (by assumption)) ?_; intro v7 w7 hown7 hgr7 hn7; obtain ⟨A7, c7, rfl⟩ := Reads.own_val hown7; simp only [Nat.zero_add, List.nil_append] at hown7 ⊢)
                    | (refine step_append_reads (o := ⟨some 54, _, _, _, _, _⟩) (by rfl) _ _ _ (by rfl) w5.heap.size 3 i0 _ 1 8 Try.underlying64 hi hz0 hz1 hz2 rfl (by omega) (.slice A7 kk c7) kk (ivals ((ord2 k y i).take kk)) (by rfl)
                        hown7 0 (some ⟨g6, 0, none⟩) 0 0 [] (by rfl) ⟨rfl, fun h => absurd h (Nat.lt_irrefl _)⟩ (fun u hu => by cases hu) (by unfold maxLen; omega) (by omega) (Fr.size (by assumption)) ?_; intro v8 w8 hown8 hgr8 hn8; obtain ⟨A8, c8, rfl⟩ := Reads.own_val hown8))
                have F8 : Fr (fun _ => False) w5 w8 := by assumption
                have HOn := hide (show w8.ownsRow w.heap.size 3 1 (.slice A8 (kk + 0) c8) (kk + 0) (ivals (ord2 k y (i + 1))) from by
                  rw [HSl.out, hdr, show ivals ((ord2 k y i).take kk ++ []) = ivals ((ord2 k y i).take kk) ++ [] by simp [ivals]]
                  exact own_mono hown8 hbw)
                have HO5b := hide (own_fr HO5.out F8)
                have HDb := hide (show (Value.slice A5b (i + 1) c5b).ownBlock = none ∨ (Value.slice A5b (i + 1) c5b).ownBlock ≠ (Value.slice A8 (kk + 0) c8).ownBlock from by
                  cases ho : (Value.slice A5b (i + 1) c5b).ownBlock with
                  | none => exact .inl rfl
                  | some g =>
                    right
                    intro he
                    have h1 := (HL5.out g ho).2
                    have h2 := (hown8.lt g he.symm).1
                    omega)
                have HFb := hide (F5.out.then_ F8)
                clear hown8 hown7 hgr7 hgr8 hn7 hn8 F8
                go_wp2
                go_roundw
                case rel => exact ⟨i + 1, _, A5b, c5b, A8, c8, by omega, by go_num, by omega, rfl, rfl, HO5b.out, HOn.out, HDb.out, HFb.out⟩
                case measure => simp [intOf]; omega
              · try simp only [Nat.zero_add] at hce
                have hce2 : ¬ ((c6 : Int) = ((kk : Nat) : Int) + 1) := by omega
                have hce3 : c6 - (kk + 1) ≠ 0 := by omega
                go_wp2_with fail
                go_region_held3 (fun W => Fr (fun _ => False) w5 W)
                  (first | exact (Fr.refl _ _).drew | exact Fr.alloc (by assumption) _ | exact Fr.grown (by assumption) hgr7 (fun k hk => .inr (by obtain rfl := Option.some.inj hk; exact Nat.le_refl _)) | exact Fr.grown (by assumption) hgr8 (fun k hk => .inr ((hown7.lt k hk).1)))
                  (first
                    | (refine step_append_reads (o := ⟨some 49, _, _, _, _, _⟩) (by rfl) _ _ _ (by rfl) w5.heap.size 3 i0 _ 1 8 Try.underlying64 hi hz0 hz1 hz2 rfl (by omega) (.slice (some ⟨w5.heap.size, 0, none⟩) 0 0) 0 [] (by rfl)
                        (by first | exact lit0i (Blk.new _ _ _) | exact lit0i ((Blk.new _ _ _).drew)) _ (some ⟨g6, 0, none⟩) kk c6 (ivals ((ord2 k y i).take kk)) (by rfl) (HRt.out.up (by assumption)) (HONE.out _) (by unfold maxLen; omega) (by omega) (Fr.size (by assumption)) ?_; intro v7 w7 hown7 hgr7 hn7; obtain ⟨A7, c7, rfl⟩ := Reads.own_val hown7; simp only [Nat.zero_add, List.nil_append] at hown7 ⊢)
                    | (refine step_append_reads (o := ⟨some 54, _, _, _, _, _⟩) (by rfl) _ _ _ (by rfl) w5.heap.size 3 i0 _ 1 8 Try.underlying64 hi hz0 hz1 hz2 rfl (by omega) (.slice A7 kk c7) kk (ivals ((ord2 k y i).take kk)) (by rfl)
                        hown7 _ (some ⟨g6, kk + 1, none⟩) (nl - (kk + 1)) (c6 - (kk + 1)) (ivals ((ord2 k y i).drop (kk + 1))) (by rfl) (HRr.out.up (by assumption)) (HONE.out _) (by unfold maxLen; omega) (by omega) (Fr.size (by assumption)) ?_; intro v8 w8 hown8 hgr8 hn8; obtain ⟨A8, c8, rfl⟩ := Reads.own_val hown8))
                have F8 : Fr (fun _ => False) w5 w8 := by assumption
                have HOn := hide (show w8.ownsRow w.heap.size 3 1 (.slice A8 (kk + (nl - (kk + 1))) c8) (kk + (nl - (kk + 1))) (ivals (ord2 k y (i + 1))) from by
                  rw [HSl.out, show ivals ((ord2 k y i).take kk ++ (ord2 k y i).drop (kk + 1)) = ivals ((ord2 k y i).take kk) ++ ivals ((ord2 k y i).drop (kk + 1)) by simp [ivals]]
                  exact own_mono hown8 hbw)
                have HO5b := hide (own_fr HO5.out F8)
                have HDb := hide (show (Value.slice A5b (i + 1) c5b).ownBlock = none ∨ (Value.slice A5b (i + 1) c5b).ownBlock ≠ (Value.slice A8 (kk + (nl - (kk + 1))) c8).ownBlock from by
                  cases ho : (Value.slice A5b (i + 1) c5b).ownBlock with
                  | none => exact .inl rfl
                  | some g =>
                    right
                    intro he
                    have h1 := (HL5.out g ho).2
                    have h2 := (hown8.lt g he.symm).1
                    omega)
                have HFb := hide (F5.out.then_ F8)
                clear hown8 hown7 hgr7 hgr8 hn7 hn8 F8
                go_wp2
                go_roundw
                case rel => exact ⟨i + 1, _, A5b, c5b, A8, c8, by omega, by go_num, by omega, rfl, rfl, HO5b.out, HOn.out, HDb.out, HFb.out⟩
                case measure => simp [intOf]; omega
        · obtain rfl : i = k := by omega
          have HRo := hide (show ReadsIn wr w.heap.size 1 A5 i (ivals (Gr.order i y)) from ReadsIn.of_own hown5.out)
          clear hown5 hown6 HDis
          go_wp2
          go_ret
          exact ⟨A5, c5, rfl, HRo.out, HFr.out⟩
end Go.Proofs.Ytjdbjahgimlhbaa
end
section
set_option linter.unusedVariables false
set_option maxRecDepth 100000
namespace Go.Proofs.Ytjdbjahgimlhbaa
open Go.RowKit
open Gr (E)

def gcells (l : List E) : List Value := l.flatMap fun e => [.int .u8 (e.1 : Int), .int .u8 (e.2 : Int)]
theorem gcells_at : ∀ (l : List E) (k : Nat) (e : E), l[k]? = some e → (gcells l)[2 * k]? = some (.int .u8 (e.1 : Int)) ∧ (gcells l)[2 * k + 1]? = some (.int .u8 (e.2 : Int))
  | [], k, e, h => by simp at h
  | x :: l, 0, e, h => by
    obtain rfl : x = e := by simpa using h
    simp [gcells]
  | x :: l, k + 1, e, h => by
    have := gcells_at l k e (by simpa using h)
    simp only [gcells, List.flatMap_cons] at this ⊢
    rw [show 2 * (k + 1) = 2 * k + 1 + 1 by omega, show 2 * k + 1 + 1 + 1 = (2 * k + 1) + 1 + 1 by omega]
    simpa using this
/-- the ends, counted round; those that are unlike -/
def ends2 (n : Nat) (e : E) : E := (e.1 % n, e.2 % n)
def filt (n : Nat) (l : List E) : List E := (l.map (ends2 n)).filter fun e => e.1 != e.2
def madeN (G : Nat) : Nat := 1 + G % 60
def madeE (G : Nat) (l : List E) : List E := Gr.normal (filt (madeN G) l)
theorem filt_ok {n : Nat} (h : 1 ≤ n) (l : List E) : ∀ e ∈ filt n l, e.1 < n ∧ e.2 < n ∧ e.1 ≠ e.2 := by
  intro e he
  obtain ⟨h1, h2⟩ := List.mem_filter.1 he
  obtain ⟨x, _, rfl⟩ := List.mem_map.1 h1
  exact ⟨Nat.mod_lt _ h, Nat.mod_lt _ h, by simpa using h2⟩
theorem filt_snoc (n : Nat) (l : List E) (x : E) : filt n (l ++ [x]) = filt n l ++ (if x.1 % n = x.2 % n then [] else [ends2 n x]) := by
  unfold filt
  rw [List.map_append, List.filter_append]
  congr 1
  by_cases h : x.1 % n = x.2 % n
  · simp [ends2, h]
  · simp [ends2, h]
theorem filt_len (n : Nat) (l : List E) : (filt n l).length ≤ l.length := by
  unfold filt
  have := List.length_filter_le (fun e : E => e.1 != e.2) (l.map (ends2 n))
  simpa using this
theorem madeE_ok (G : Nat) (l : List E) : Gr.Sorted (madeE G l) ∧ (∀ e ∈ madeE G l, e.1 < madeN G ∧ e.2 < madeN G ∧ e.1 ≠ e.2) ∧ (madeE G l).length ≤ l.length :=
  ⟨Gr.normal_sorted _, fun e he => filt_ok (by unfold madeN; omega) l e ((Gr.normal_mem _ e).1 he), Nat.le_trans (Gr.normal_len _) (filt_len _ _)⟩
set_option maxHeartbeats 4000000 in
theorem made_any (A : Option Addr) (m c G : Nat) (l : List E) (w : World) (h : Reads w w.heap.size 2 A m (gcells l)) (hm : l.length = m) (hmx : m ≤ 300) (hG : G < 256) (hl : ∀ e ∈ l, e.1 < 256 ∧ e.2 < 256) :
    Calls Try.prog 17 #[.agg #[.int .u8 (G : Int), .slice A m c]] w fun e w' => ∃ A' c', e = .returned (.tuple #[.int .i64 ((madeN G : Nat) : Int), .slice A' (madeE G l).length c']) ∧ (madeE G l).length ≤ c' ∧ EdgesAt w' A' (madeE G l) ∧ Fr (fun _ => False) w w' := by
  have H := hide h
  have HM := hide hm
  have HL := hide hl
  clear h hm hl
  have hn1 : 1 ≤ madeN G := by unfold madeN; omega
  have hn2 : madeN G ≤ 60 := by unfold madeN; omega
  have hg : (1 : Int) + (G : Int) % 60 = ((madeN G : Nat) : Int) := by unfold madeN; omega
  generalize hNN : madeN G = N at *
  obtain ⟨i0, hi, hz0, hz1, hz2⟩ := info_parts edge_info
  have B0 := hide (show Blk (w.alloc (.cells #[.int .u8 (G : Int), .slice A m c] 24)) w.heap.size 24 #[.int .u8 (G : Int), .slice A m c] from Blk.new _ _ _)
  have F0 := hide ((Fr.refl (fun _ => False) w).alloc (.cells #[.int .u8 (G : Int), .slice A m c] 24))
  have S0 : (w.alloc (.cells #[.int .u8 (G : Int), .slice A m c] 24)).heap.size = w.heap.size + 1 := by simp
  go_enter Try.func17, Try.ntmps17
  go_wp2_with fail
  generalize w.alloc (.cells #[.int .u8 (G : Int), .slice A m c] 24) = W1 at *
  go_loopw [5, 6] (fun o i wr => ∃ (k : Nat) (A' : Option Addr) (q c' : Nat), k ≤ m ∧ i = .int .i64 k ∧ o = .slice A' q c' ∧ q ≤ k ∧ Hid (wr.ownsRow W1.heap.size 40 2 (.slice A' q c') q (ecells (filt N (l.take k))) ∧ Fr (fun _ => False) W1 wr)) (fun _ i _ => m - (intOf i).toNat)
  case atStart => exact ⟨0, none, 0, 0, by omega, rfl, rfl, by omega, World.ownsRow_nil _ _ _ _, Fr.refl _ _⟩
  case round =>
    obtain ⟨k, A', q, c', hk, rfl, rfl, hqk, HI⟩ := hrel
    have g0 : wr.cell? ⟨w.heap.size, 0, none⟩ = some (.int .u8 (G : Int)) := HI.out.2.cell ((B0.out.cell 0).trans rfl) (fun h => h)
    have g1 : wr.cell? ⟨w.heap.size, 1, none⟩ = some (.slice A m c) := HI.out.2.cell ((B0.out.cell 1).trans rfl) (fun h => h)
    by_cases hlt : k < m
    · have lk : k < l.length := by rw [HM.out]; exact hlt
      obtain ⟨b, o, rfl, hb, hr⟩ := (H.out.up (F0.out.then_ HI.out.2)).2 (by omega)
      obtain ⟨h1, h2⟩ := gcells_at l k _ (List.getElem?_eq_getElem lk)
      have y0 := hr _ _ h1
      have y1 := hr _ _ h2
      rw [Nat.mul_comm 2 k] at y0 y1
      rw [← Nat.add_assoc] at y1
      have HS := hide (show l.take (k + 1) = l.take k ++ [l[k]] from List.take_succ_eq_append_getElem lk)
      obtain ⟨l1, l2⟩ := HL.out _ (List.getElem_mem lk)
      clear hr h1 h2
      generalize l[k]'lk = y at *
      obtain ⟨u, hu, hu2⟩ : ∃ u : Nat, (y.1 : Int) % (N : Int) = (u : Int) ∧ y.1 % N = u := ⟨y.1 % N, by simp, rfl⟩
      obtain ⟨v, hv, hv2⟩ : ∃ v : Nat, (y.2 : Int) % (N : Int) = (v : Int) ∧ y.2 % N = v := ⟨y.2 % N, by simp, rfl⟩
      have hu3 : u < N := by rw [← hu2]; exact Nat.mod_lt _ (by omega)
      have hv3 : v < N := by rw [← hv2]; exact Nat.mod_lt _ (by omega)
      by_cases heq : u = v
      · have hbe : ((u : Int) != (v : Int)) = false := by simp; omega
        have HQ := hide (show filt N (l.take (k + 1)) = filt N (l.take k) by rw [HS.out, filt_snoc, if_pos (by rw [hu2, hv2]; exact heq), List.append_nil])
        go_wp2_with fail
        go_quiet (fail)
        go_wp2
        go_roundw
        case rel => exact ⟨k + 1, A', q, c', by omega, by go_num, rfl, by omega, by rw [HQ.out]; exact HI.out.1, HI.out.2.drewN _⟩
        case measure => simp [intOf]; omega
      · have hbe : ((u : Int) != (v : Int)) = true := by simp; omega
        have HQ := hide (show ecells (filt N (l.take (k + 1))) = ecells (filt N (l.take k)) ++ [.int .i64 (u : Int), .int .i64 (v : Int)] by
          rw [HS.out, filt_snoc, if_neg (by rw [hu2, hv2]; exact heq), ecells_app]
          simp [ecells, ends2, hu2, hv2])
        go_wp2_with fail
        go_quiet (fail)
        have hown1 : (wr.drewN nq).ownsRow W1.heap.size 40 2 (.slice A' q c') q (ecells (filt N (l.take k))) := HI.out.1
        have hb1 := HI.out.2.size
        have HF := hide (HI.out.2.drewN nq)
        clear HI
        go_wp2_with (at_builtin; refine wpList_append_box (wr.drewN nq) _ _ rfl (.tmp 44) (.tmp 48) _ rfl W1.heap.size 40 i0 _ 2 16 Try.underlying26 hi hz0 hz1 hz2 rfl (by decide) _ _ _ rfl hown1 rfl rfl ?c1 ?c2 ?c3 ?c4 ?c5)
        case c1 => simp [Value.oneCell']
        case c2 => unfold maxLen; omega
        case c3 => omega
        case c4 => exact hb1
        case c5 =>
          intro v2 w2 hown2 hg2 _
          have HF2 := hide (HF.out.grown hg2 (fun k hk => .inr ((hown1.lt k hk).1)))
          obtain ⟨A2, c2, rfl⟩ := Reads.own_val hown2
          have HO := hide (show w2.ownsRow W1.heap.size 40 2 (.slice A2 (q + 1) c2) (q + 1) (ecells (filt N (l.take (k + 1)))) by rw [HQ.out]; have h := hown2; rw [← S0] at h; exact h)
          clear hown1 hown2 hg2
          go_wp2
          go_roundw
          case rel => exact ⟨k + 1, A2, q + 1, c2, by omega, by go_num, rfl, by omega, HO.out, HF2.out⟩
          case measure => simp [intOf]; omega
    · obtain rfl : k = m := by omega
      have hall : l.take k = l := List.take_of_length_le (by rw [HM.out]; omega)
      rw [hall] at HI
      have HR := hide (Reads.of_own HI.out.1)
      have hq : (filt N l).length = q := by have := HR.out.1; rw [ecells_len] at this; omega
      have HF := hide HI.out.2
      have HE := hide (show EdgesAt wr A' (filt N l) by unfold EdgesAt; rw [hq]; exact HR.out)
      clear HI HR hall
      go_wp2_with fail
      go_at_call 49
      refine (normal_any A' N q c' (filt N l) _ HE.out hq (by omega) hn1 (by omega) (filt_ok hn1 l)).mono ?_
      rintro e w2 ⟨A2, c2, rfl, hc2, hr2, hf2⟩
      have hE : Gr.normal (filt N l) = madeE G l := by unfold madeE; rw [hNN]
      rw [hE] at hc2 hr2 ⊢
      have HR := hide hr2
      have HC := hide hc2
      have HF2 := hide (F0.out.then_ (HF.out.then_ hf2))
      clear hr2 hf2 hc2 hE
      go_wp2
      go_ret2
      exact ⟨A2, c2, rfl, HC.out, HR.out, HF2.out⟩
end Go.Proofs.Ytjdbjahgimlhbaa
end
section
set_option linter.unusedVariables false
set_option maxRecDepth 100000
namespace Go.Proofs.Ytjdbjahgimlhbaa.whole
open Go.RowKit

theorem great_any (many argt : Nat) (AB : Option Addr) (nB cB : Nat) (AM : Option Addr) (nM cM : Nat) (w : World) :
    Calls Try.prog 31 #[.agg #[.int .u8 (many : Int), .int .u8 (argt : Int), .slice AB nB cB, .slice AM nM cM]] w fun e w' => e = .returned (.bool (decide (50 < nB) || decide (20 < nM))) ∧ Fr (fun _ => False) w w' := by
  by_cases h1 : 50 < nB
  · go_enter Try.func31, Try.ntmps31
    go_wp2
    go_ret
    exact ⟨by simp, (Fr.refl _ _).alloc _⟩
  · by_cases h2 : 20 < nM
    · go_enter Try.func31, Try.ntmps31
      go_wp2
      go_ret
      exact ⟨by simp [h1, h2]; omega, (Fr.refl _ _).alloc _⟩
    · go_enter Try.func31, Try.ntmps31
      go_wp2
      go_ret
      exact ⟨by simp [h1, h2]; omega, (Fr.refl _ _).alloc _⟩
end Go.Proofs.Ytjdbjahgimlhbaa.whole
end
