/- Parts of the proof of several laws: no conditions of their own. -/
import Derived.Test.YtjdbjahgimlhbaaWhPk2
import Derived.Laws.StructEq
import Derived.Test.YtjdbjahgimlhbaaWhPk0
import Derived.Deep.RegionHeld3
import Derived.StillTailTactics
section
set_option linter.unusedVariables false
set_option maxRecDepth 100000
namespace Go.Proofs.Ytjdbjahgimlhbaa
open Go.RowKit
open Gr (E)

theorem load_edge {w : World} {b o : Nat} {e : E} (h : w.rangeAt b o [.int .i64 (e.1 : Int), .int .i64 (e.2 : Int)]) : (Instr.loadAt 40 (.pointer (some ⟨b, o, none⟩))).run Try.prog w = .ok (ev e) w :=
  run_loadAt_mid w b o 40 _ _ h Try.underlying40 rfl (by rw [edge_size]; rfl)
theorem range_fr {w w' : World} {b o : Nat} {cs : List Value} (h : w.rangeAt b o cs) (hf : Fr (fun _ => False) w w') : w'.rangeAt b o cs := fun j v hv => hf.cell (h j v hv) (fun h => h)
theorem range_blk {w : World} {b : Nat} {t : TypeId} {e : E} (h : Blk w b t #[.int .i64 (e.1 : Int), .int .i64 (e.2 : Int)]) : w.rangeAt b 0 [.int .i64 (e.1 : Int), .int .i64 (e.2 : Int)] := fun j v hv => by
  rw [Nat.zero_add, h.cell]
  simpa using hv
theorem eq_edge (a b c d : Int) (w : World) : (binOp .eql 40 (.agg #[.int .i64 a, .int .i64 b]) (.agg #[.int .i64 c, .int .i64 d])).run Try.prog w = .ok (.bool ((a == c) && (b == d))) w := by
  have hf : Try.prog.underlying 40 = some (.struct (Try.prog.fieldsOf 40)) := by kernel_rfl
  have hp : Try.prog.stoodInHeld 40 = false := by kernel_rfl
  rw [run_eql_struct]
  rw [run_equalIn_struct (P := Try.prog) w 9999 40 _ _ hf hp]
  simp only [Program.fieldsOf, Try.underlying40]
  have h0 : (part 3 #[.int .i64 a, .int .i64 b] 0).run Try.prog w = .ok (.int .i64 a) w := by kernel_rfl
  have h1 : (part 3 #[.int .i64 a, .int .i64 b] 1).run Try.prog w = .ok (.int .i64 b) w := by kernel_rfl
  have h2 : (part 3 #[.int .i64 c, .int .i64 d] 0).run Try.prog w = .ok (.int .i64 c) w := by kernel_rfl
  have h3 : (part 3 #[.int .i64 c, .int .i64 d] 1).run Try.prog w = .ok (.int .i64 d) w := by kernel_rfl
  have h4 := run_equalIn_int (P := Try.prog) w 9998 3 .i64 .i64 a c Try.underlying3
  have h5 := run_equalIn_int (P := Try.prog) w 9998 3 .i64 .i64 b d Try.underlying3
  cases hac : (a == c) <;> rw [hac] at h4 <;> cases hbd : (b == d) <;> rw [hbd] at h5 <;> simp [Op.eqFields, Sem.run_bind, h0, h1, h2, h3, h4, h5]
theorem place_down {l : List E} {x : E} {k : Nat} (h : Gr.less x (l.getD k (0, 0)) = true) : Hid (Gr.place l x (k + 1) = Gr.place l x k) := by
  unfold Hid
  conv => lhs; unfold Gr.place
  rw [if_pos h]
theorem place_stop {l : List E} {x : E} {k : Nat} (h : Gr.less x (l.getD k (0, 0)) = false) : Gr.place l x (k + 1) = k + 1 := by
  unfold Gr.place
  rw [if_neg (by rw [h]; simp)]
theorem ereads_take {w : World} {B n K : Nat} {A : Option Addr} {l : List E} (h : Reads w B 2 A n (ecells l)) (hl : l.length = n) (hK : K ≤ n) : Reads w B 2 A K (ecells (l.take K)) := by
  refine ⟨by rw [ecells_len]; simp; omega, fun hn => ?_⟩
  obtain ⟨b, o, e, hb, hc⟩ := h.2 (by omega)
  refine ⟨b, o, e, hb, fun j u hu => hc j u ?_⟩
  rw [← ecells_take] at hu
  obtain ⟨hj, _⟩ := List.getElem?_eq_some_iff.1 hu
  rw [List.getElem?_take] at hu
  split at hu
  · exact hu
  · cases hu
theorem ereads_drop {w : World} {B n K b o : Nat} {l : List E} (h : Reads w B 2 (some ⟨b, o, none⟩) n (ecells l)) (hl : l.length = n) (hK : K ≤ n) : Reads w B 2 (some ⟨b, o + K * 2, none⟩) (n - K) (ecells (l.drop K)) := by
  refine ⟨by rw [ecells_len]; simp; omega, fun hn => ?_⟩
  obtain ⟨b', o', e, hb, hc⟩ := h.2 (by omega)
  injection e with e
  injection e with e1 e2
  subst e1
  subst e2
  have hsp : ecells l = ecells (l.take K) ++ ecells (l.drop K) := by rw [← ecells_app, List.take_append_drop]
  have hlen : (ecells (l.take K)).length = K * 2 := by rw [ecells_len]; simp; omega
  refine ⟨b, o + K * 2, rfl, hb, fun j u hu => ?_⟩
  have := hc (K * 2 + j) u (by rw [hsp, List.getElem?_append_right (by omega), hlen]; simpa using hu)
  rwa [← Nat.add_assoc] at this
theorem put_end {w : World} {base n K m : Nat} {v : Value} {l : List E} {x : E} {xs : List Value} (hp : Gr.put l x = l.take K ++ x :: l.drop K) (hl : l.length = n) (h : w.ownsRow base 40 2 v m xs) (hx : xs = ecells (l.take K) ++ .int .i64 (x.1 : Int) :: .int .i64 (x.2 : Int) :: ecells (l.drop K)) (hm : m = n + 1) (hK : K ≤ n) :
    ∃ A c, v = .slice A (Gr.put l x).length c ∧ (Gr.put l x).length ≤ c ∧ EdgesAt w A (Gr.put l x) := by
  have hlen : (Gr.put l x).length = m := by rw [hp]; simp; omega
  have hc : ecells (Gr.put l x) = xs := by rw [hp, ecells_app, hx]; rfl
  rcases h.2 with ⟨rfl, h0⟩ | ⟨g, cap, cur, rfl, _, _, h1, _⟩
  · omega
  · refine ⟨some ⟨g, 0, none⟩, cap, by rw [hlen], by omega, ?_⟩
    unfold EdgesAt
    rw [hlen, hc]
    exact Reads.of_own h
theorem five {a b c d e : Prop} (h : a ∧ b ∧ c ∧ d ∧ e) : e := h.2.2.2.2
set_option maxHeartbeats 16000000 in
theorem put_any (A : Option Addr) (n c : Nat) (l : List E) (x : E) (w : World) (h : Reads w w.heap.size 2 A n (ecells l)) (hn : l.length = n) (hmx : n ≤ 5000) (hcap : n ≤ c) (hA : n = 0 → A = none ∧ c = 0) :
    Calls Try.prog 80 #[.slice A n c, ev x, .bool true] w fun e w' => ∃ A' c', e = .returned (.slice A' (Gr.put l x).length c') ∧ (Gr.put l x).length ≤ c' ∧ EdgesAt w' A' (Gr.put l x) ∧ Fr (fun _ => False) w w' := by
  have HB : Hid ((w.alloc (.cells #[.int .i64 (x.1 : Int), .int .i64 (x.2 : Int)] 40)).rangeAt w.heap.size 0 [.int .i64 (x.1 : Int), .int .i64 (x.2 : Int)] ∧ Fr (fun _ => False) w (w.alloc (.cells #[.int .i64 (x.1 : Int), .int .i64 (x.2 : Int)] 40))) :=
    ⟨range_blk (Blk.new w 40 _), (Fr.refl _ _).alloc _⟩
  have H := hide h
  have HN := hide hn
  clear h hn
  have HV : Hid (ev x = .agg #[.int .i64 (x.1 : Int), .int .i64 (x.2 : Int)]) := rfl
  rw [HV.out]
  go_enter Try.func80, Try.ntmps80
  go_wp2_with fail
  obtain ⟨W1, hW1⟩ : ∃ W1, w.alloc (.cells #[.int .i64 (x.1 : Int), .int .i64 (x.2 : Int)] 40) = W1 := ⟨_, rfl⟩
  rw [hW1] at HB ⊢
  clear hW1
  go_loopw [7] (fun i wr => ∃ k : Nat, k ≤ n ∧ i = .int .i64 k ∧ Hid (Gr.place l x n = Gr.place l x k ∧ Fr (fun _ => False) W1 wr)) (fun i _ => (intOf i).toNat)
  case atStart => exact ⟨n, Nat.le_refl _, rfl, rfl, Fr.refl _ _⟩
  case round =>
    obtain ⟨k, hk, rfl, HI⟩ := hrel
    cases k with
    | zero =>
      have hput : Gr.put l x = l.take 0 ++ x :: l.drop 0 := by
        have hz : Gr.place l x n = 0 := HI.out.1.trans rfl
        unfold Gr.put
        rw [HN.out, hz]
        simp
      have HPT := hide hput
      have hx := range_fr HB.out.1 HI.out.2
      have e0 := hx 0 _ rfl
      have e1 := hx 1 _ rfl
      simp only [Nat.zero_add] at e0 e1
      have HE := hide (H.out.up (HB.out.2.then_ HI.out.2))
      have HF2 := hide (HB.out.2.then_ HI.out.2)
      clear hx hput HI
      go_wp2_with fail
      go_quiet (fail)
      generalize nq = q1
      go_wp2_with fail
      go_quiet (fail)
      generalize nq = q2
      have HW := hide (show Fr (fun _ => False) wr (wr.drewN (q1 + q2)) from ⟨rfl, rfl, rfl, Nat.le_refl _, fun _ _ _ => rfl⟩)
      have hrt : Reads (wr.drewN (q1 + q2)) (wr.drewN (q1 + q2)).heap.size 2 A 0 (ecells []) := ⟨rfl, fun h => absurd h (by omega)⟩
      have hown0 := World.ownsRow_nil (wr.drewN (q1 + q2)) wr.heap.size 40 2
      obtain ⟨i0, hi, hz0, hz1, hz2⟩ := info_parts edge_info
      go_wp2_with (at_builtin; refine wpList_append_reads rfl (.const (.slice none 0 0)) (.tmp 41) _ rfl wr.heap.size 40 i0 _ 2 16 Try.underlying26 hi hz0 hz1 hz2 rfl (by decide) _ _ _ rfl hown0 _ _ 0 c (ecells []) rfl hrt ecells_one ?z2 ?z3 ?z4 ?z5)
      case z2 => unfold maxLen; omega
      case z3 => omega
      case z4 => exact Nat.le_refl _
      case z5 =>
        intro v5 w5 hown5 hg5 _
        have F5 := hide (HW.out.trans (Fr.of_grown hg5) (fun k hk => by simp [Value.ownBlock] at hk))
        obtain ⟨A5, c5, rfl⟩ := Reads.own_val hown5
        have x0 := F5.out.cell e0 (fun h => h)
        have x1 := F5.out.cell e1 (fun h => h)
        have hb5 := F5.out.size
        clear hg5 hown0 hrt
        go_wp2_with (at_builtin; refine wpList_append_box w5 _ _ rfl (.tmp 43) (.tmp 45) _ rfl wr.heap.size 40 i0 _ 2 16 Try.underlying26 hi hz0 hz1 hz2 rfl (by decide) _ _ _ rfl hown5 rfl rfl ?y1 ?y2 ?y3 ?y4 ?y5)
        case y1 => simp [Value.oneCell']
        case y2 => unfold maxLen; omega
        case y3 => omega
        case y4 => exact hb5
        case y5 =>
          intro v6 w6 hown6 hg6 _
          have F6 := hide (F5.out.grown hg6 (fun k hk => .inr ((hown5.lt k hk).1)))
          have hb6 := F6.out.size
          have hrd := HE.out.up F6.out
          obtain ⟨A6, c6, rfl⟩ := Reads.own_val hown6
          clear hg6 hown5 x0 x1
          rcases Nat.eq_zero_or_pos n with hn0 | hn0
          · obtain ⟨rfl, rfl⟩ := hA hn0
            subst hn0
            go_wp2_with (at_builtin; refine wpList_append_reads rfl (.tmp 47) (.tmp 50) _ rfl wr.heap.size 40 i0 _ 2 16 Try.underlying26 hi hz0 hz1 hz2 rfl (by decide) _ _ _ rfl hown6 _ _ 0 _ (ecells l) rfl hrd ecells_one ?x1 ?x2 ?x3 ?x4)
            case x1 => unfold maxLen; omega
            case x4 =>
              intro v7 w7 hown7 hg7 _
              have F7 := hide (F6.out.grown hg7 (fun k hk => .inr ((hown6.lt k hk).1)))
              have hfin := hide (put_end HPT.out HN.out hown7 (by simp) (by omega) (by omega))
              obtain ⟨A7, c7, rfl, hcc, hrr⟩ := hfin.out
              have HRR := hide hrr
              have HFF := hide (HF2.out.then_ F7.out)
              clear hown7 hg7 hown6 hfin hrr
              go_wp2
              go_ret
              exact ⟨_, _, rfl, hcc, HRR.out, HFF.out⟩
          · obtain ⟨b, o, rfl, _, _⟩ := HE.out.2 hn0
            have hc0 : ¬ (c = 0) := by omega
            go_wp2_with (at_builtin; refine wpList_append_reads rfl (.tmp 47) (.tmp 50) _ rfl wr.heap.size 40 i0 _ 2 16 Try.underlying26 hi hz0 hz1 hz2 rfl (by decide) _ _ _ rfl hown6 _ _ n _ (ecells l) rfl hrd ecells_one ?u1 ?u2 ?u3 ?u4)
            case u1 => unfold maxLen; omega
            case u2 => omega
            case u3 => exact hb6
            case u4 =>
              intro v7 w7 hown7 hg7 _
              have F7 := hide (F6.out.grown hg7 (fun k hk => .inr ((hown6.lt k hk).1)))
              have hfin := hide (put_end HPT.out HN.out hown7 (by simp) (by omega) (by omega))
              obtain ⟨A7, c7, rfl, hcc, hrr⟩ := hfin.out
              have HRR := hide hrr
              have HFF := hide (HF2.out.then_ F7.out)
              clear hown7 hg7 hown6 hfin hrr
              go_wp2
              go_ret
              exact ⟨_, _, rfl, hcc, HRR.out, HFF.out⟩
    | succ k =>
      have hx := range_fr HB.out.1 HI.out.2
      obtain ⟨b, o, rfl, hb, hr⟩ := EdgesAt.cells (k := k) (by have := H.out.up (HB.out.2.then_ HI.out.2); rw [← HN.out] at this; exact this) (by rw [HN.out]; omega)
      have lk : k < l.length := by rw [HN.out]; omega
      have hgy : l.getD k (0, 0) = l[k]'lk := by rw [List.getD_eq_getElem?_getD, List.getElem?_eq_getElem lk]; rfl
      generalize l[k]'lk = y at *
      have x0 := hx 0 _ rfl
      have x1 := hx 1 _ rfl
      have y0 := hr 0 _ rfl
      have y1 := hr 1 _ rfl
      rw [Nat.mul_comm 2 k, Nat.add_zero] at y0
      rw [Nat.mul_comm 2 k] at y1
      simp only [Nat.zero_add] at x0 x1
      have HS := hide (fun W (hf : Fr (fun _ => False) wr W) => show W.cell? ⟨w.heap.size, 0, none⟩ = some (.int .i64 (x.1 : Int)) ∧ W.cell? ⟨w.heap.size, 1, none⟩ = some (.int .i64 (x.2 : Int)) ∧ W.cell? ⟨b, o + k * 2, none⟩ = some (.int .i64 (y.1 : Int)) ∧ W.cell? ⟨b, o + k * 2 + 1, none⟩ = some (.int .i64 (y.2 : Int)) ∧ Fr (fun _ => False) wr W from
        ⟨hf.cell x0 (fun h => h), hf.cell x1 (fun h => h), hf.cell y0 (fun h => h), hf.cell y1 (fun h => h), hf⟩)
      have D := hide ((Fr.refl (fun _ => False) wr).drew)
      have hw : IntKind.i64.wrap ((k : Int) + 1 - 1) = (k : Int) := by simp [IntKind.wrap, IntKind.bits, IntKind.signed]; omega
      have hw2 : IntKind.i64.wrap (k : Int) = (k : Int) := by simp [IntKind.wrap, IntKind.bits, IntKind.signed]; omega
      have b0 : (0 : Int) ≤ (k : Int) := by omega
      have b1 : (k : Int) < (n : Int) := by omega
      clear hx hr
      go_wp2_with fail
      go_region_held3 (fun W => W.cell? ⟨w.heap.size, 0, none⟩ = some (.int .i64 (x.1 : Int)) ∧ W.cell? ⟨w.heap.size, 1, none⟩ = some (.int .i64 (x.2 : Int)) ∧ W.cell? ⟨b, o + k * 2, none⟩ = some (.int .i64 (y.1 : Int)) ∧ W.cell? ⟨b, o + k * 2 + 1, none⟩ = some (.int .i64 (y.2 : Int)) ∧ Fr (fun _ => False) wr W)
        (first | exact HS.out _ D.out | exact HS.out _ (Fr.then_ (five (by assumption)) hf))
        (first
          | (go_at_call 104; refine (less8_any x y _).mono ?_; rintro e w3 ⟨rfl, hf⟩))
      obtain ⟨e0, e1, f0, f1, hfw⟩ : w3.cell? ⟨w.heap.size, 0, none⟩ = some (.int .i64 (x.1 : Int)) ∧ w3.cell? ⟨w.heap.size, 1, none⟩ = some (.int .i64 (x.2 : Int)) ∧ w3.cell? ⟨b, o + k * 2, none⟩ = some (.int .i64 (y.1 : Int)) ∧ w3.cell? ⟨b, o + k * 2 + 1, none⟩ = some (.int .i64 (y.2 : Int)) ∧ Fr (fun _ => False) wr w3 := by assumption
      clear hf x0 x1 y0 y1 HS D
      have HF := hide (HI.out.2.then_ hfw)
      cases hlt : Gr.less x y
      · have HP : Hid (Gr.place l x n = k + 1) := by
          rw [HI.out.1]
          exact place_stop (by rw [hgy]; exact hlt)
        have HS := hide (fun W (hf : Fr (fun _ => False) w3 W) => show W.cell? ⟨w.heap.size, 0, none⟩ = some (.int .i64 (x.1 : Int)) ∧ W.cell? ⟨w.heap.size, 1, none⟩ = some (.int .i64 (x.2 : Int)) ∧ W.cell? ⟨b, o + k * 2, none⟩ = some (.int .i64 (y.1 : Int)) ∧ W.cell? ⟨b, o + k * 2 + 1, none⟩ = some (.int .i64 (y.2 : Int)) ∧ Fr (fun _ => False) w3 W from
          ⟨hf.cell e0 (fun h => h), hf.cell e1 (fun h => h), hf.cell f0 (fun h => h), hf.cell f1 (fun h => h), hf⟩)
        have D := hide ((Fr.refl (fun _ => False) w3).drew)
        by_cases hyx : y = x
        · have heq : ∀ W : World, (binOp .eql 40 (.agg #[.int .i64 (y.1 : Int), .int .i64 (y.2 : Int)]) (.agg #[.int .i64 (x.1 : Int), .int .i64 (x.2 : Int)])).run Try.prog W = .ok (.bool true) W := fun W => by
            rw [eq_edge, hyx]; simp
          go_wp2_with fail
          go_region_held3 (fun W => W.cell? ⟨w.heap.size, 0, none⟩ = some (.int .i64 (x.1 : Int)) ∧ W.cell? ⟨w.heap.size, 1, none⟩ = some (.int .i64 (x.2 : Int)) ∧ W.cell? ⟨b, o + k * 2, none⟩ = some (.int .i64 (y.1 : Int)) ∧ W.cell? ⟨b, o + k * 2 + 1, none⟩ = some (.int .i64 (y.2 : Int)) ∧ Fr (fun _ => False) w3 W)
            (first | exact HS.out _ D.out)
            (first
              | (go_at_call 104; fail))
          have hput : Gr.put l x = l := by
            unfold Gr.put
            rw [HN.out, HP.out]
            simp only
            rw [if_pos ⟨by omega, by rw [Nat.add_sub_cancel, hgy]; exact hyx⟩]
          have HE := hide (H.out.up (HB.out.2.then_ (HF.out.then_ D.out)))
          have HF2 := hide (HB.out.2.then_ (HF.out.then_ D.out))
          have HPT := hide hput
          clear hput
          go_wp2
          go_ret
          exact ⟨some ⟨b, o, none⟩, c, by rw [HPT.out, HN.out]; rfl, by rw [HPT.out, HN.out]; exact hcap, by rw [HPT.out]; unfold EdgesAt; rw [HN.out]; exact HE.out, HF2.out⟩
        · have heq : ∀ W : World, (binOp .eql 40 (.agg #[.int .i64 (y.1 : Int), .int .i64 (y.2 : Int)]) (.agg #[.int .i64 (x.1 : Int), .int .i64 (x.2 : Int)])).run Try.prog W = .ok (.bool false) W := fun W => by
            rw [eq_edge]
            have : ((y.1 : Int) == (x.1 : Int) && (y.2 : Int) == (x.2 : Int)) = false := by
              rw [Bool.eq_false_iff]
              intro h
              simp only [Bool.and_eq_true, beq_iff_eq] at h
              exact hyx (Prod.ext (by omega) (by omega))
            rw [this]
          go_wp2_with fail
          go_region_held3 (fun W => W.cell? ⟨w.heap.size, 0, none⟩ = some (.int .i64 (x.1 : Int)) ∧ W.cell? ⟨w.heap.size, 1, none⟩ = some (.int .i64 (x.2 : Int)) ∧ W.cell? ⟨b, o + k * 2, none⟩ = some (.int .i64 (y.1 : Int)) ∧ W.cell? ⟨b, o + k * 2 + 1, none⟩ = some (.int .i64 (y.2 : Int)) ∧ Fr (fun _ => False) w3 W)
            (first | exact HS.out _ D.out)
            (first
              | (go_at_call 104; fail))
          have hput : Gr.put l x = l.take (k + 1) ++ x :: l.drop (k + 1) := by
            unfold Gr.put
            rw [HN.out, HP.out]
            simp only
            rw [if_neg (by rintro ⟨_, h⟩; rw [Nat.add_sub_cancel, hgy] at h; exact hyx h)]
          have HE := hide (H.out.up (HB.out.2.then_ (HF.out.then_ D.out)))
          have HF2 := hide (HB.out.2.then_ (HF.out.then_ D.out))
          have HPT := hide hput
          have D2 := hide (show w3.drew.cell? ⟨w.heap.size, 0, none⟩ = some (.int .i64 (x.1 : Int)) ∧ w3.drew.cell? ⟨w.heap.size, 1, none⟩ = some (.int .i64 (x.2 : Int)) from ⟨e0, e1⟩)
          generalize w3.drew = W at *
          clear hput heq f0 f1 e0 e1 D HS hyx hgy hw hw2 hlt HP HI HF
          have b2 : (k : Int) + 1 ≤ (n : Int) := by omega
          have HRT := hide (ereads_take HE.out HN.out (show k + 1 ≤ n by omega))
          have hown0 := World.ownsRow_nil W W.heap.size 40 2
          obtain ⟨i0, hi, hz0, hz1, hz2⟩ := info_parts edge_info
          have hrt := HRT.out
          go_wp2_with (at_builtin; refine wpList_append_reads rfl (.const (.slice none 0 0)) (.tmp 41) _ rfl W.heap.size 40 i0 _ 2 16 Try.underlying26 hi hz0 hz1 hz2 rfl (by decide) _ _ _ rfl hown0 _ _ (k + 1) c (ecells (l.take (k + 1))) rfl hrt ecells_one ?c2 ?c3 ?c4 ?c5)
          case c2 => unfold maxLen; omega
          case c3 => omega
          case c4 => exact Nat.le_refl _
          case c5 =>
            intro v5 w5 hown5 hg5 _
            have F5 := hide ((Fr.refl (fun _ => False) W).grown hg5 (fun k hk => by simp [Value.ownBlock] at hk))
            obtain ⟨A5, c5, rfl⟩ := Reads.own_val hown5
            have x0 := F5.out.cell D2.out.1 (fun h => h)
            have x1 := F5.out.cell D2.out.2 (fun h => h)
            have hb5 := F5.out.size
            clear hg5 hown0 hrt HRT D2
            go_wp2_with (at_builtin; refine wpList_append_box w5 _ _ rfl (.tmp 43) (.tmp 45) _ rfl W.heap.size 40 i0 _ 2 16 Try.underlying26 hi hz0 hz1 hz2 rfl (by decide) _ _ _ rfl hown5 rfl rfl ?c1 ?c2 ?c3 ?c4 ?c5)
            case c1 => simp [Value.oneCell']
            case c2 => unfold maxLen; omega
            case c3 => omega
            case c4 => exact hb5
            case c5 =>
              intro v6 w6 hown6 hg6 _
              have F6 := hide (F5.out.grown hg6 (fun k hk => .inr ((hown5.lt k hk).1)))
              have hb6 := F6.out.size
              have hrd := ereads_drop (HE.out.up F6.out) HN.out (show k + 1 ≤ n by omega)
              obtain ⟨A6, c6, rfl⟩ := Reads.own_val hown6
              clear hg6 hown5 x0 x1
              by_cases hck : c = k + 1
              · have hnk : n = k + 1 := by omega
                have hrd0 : Reads w6 w6.heap.size 2 (some ⟨b, o, none⟩) 0 (ecells (l.drop (k + 1))) := by
                  rw [List.drop_of_length_le (by rw [HN.out]; omega)]
                  exact ⟨rfl, fun h => absurd h (by omega)⟩
                have hz : n - (k + 1) = 0 := by omega
                subst hck
                clear hrd
                go_wp2_with (at_builtin; refine wpList_append_reads rfl (.tmp 47) (.tmp 50) _ rfl W.heap.size 40 i0 _ 2 16 Try.underlying26 hi hz0 hz1 hz2 rfl (by decide) _ _ _ rfl hown6 _ _ 0 _ (ecells (l.drop (k + 1))) rfl hrd0 ecells_one ?c2 ?c3 ?c4 ?c5)
                case c2 => unfold maxLen; omega
                case c3 => omega
                case c4 => exact hb6
                case c5 =>
                  intro v7 w7 hown7 hg7 _
                  have F7 := hide (F6.out.grown hg7 (fun k hk => .inr ((hown6.lt k hk).1)))
                  have hfin := hide (put_end HPT.out HN.out hown7 (by simp) (by omega) (by omega))
                  obtain ⟨A7, c7, rfl, hcc, hrr⟩ := hfin.out
                  have HRR := hide hrr
                  have HFF := hide (HF2.out.then_ F7.out)
                  clear hown7 hg7 hown6 hfin hrr
                  go_wp2
                  go_ret
                  exact ⟨_, _, rfl, hcc, HRR.out, HFF.out⟩
              · have hck2 : ¬ (c - (k + 1) = 0) := by omega
                go_wp2_with (at_builtin; refine wpList_append_reads rfl (.tmp 47) (.tmp 50) _ rfl W.heap.size 40 i0 _ 2 16 Try.underlying26 hi hz0 hz1 hz2 rfl (by decide) _ _ _ rfl hown6 _ _ (n - (k + 1)) _ (ecells (l.drop (k + 1))) rfl hrd ecells_one ?c2 ?c3 ?c4 ?c5)
                case c2 => unfold maxLen; omega
                case c3 => omega
                case c4 => exact hb6
                case c5 =>
                  intro v7 w7 hown7 hg7 _
                  have F7 := hide (F6.out.grown hg7 (fun k hk => .inr ((hown6.lt k hk).1)))
                  have hfin := hide (put_end HPT.out HN.out hown7 (by simp) (by omega) (by omega))
                  obtain ⟨A7, c7, rfl, hcc, hrr⟩ := hfin.out
                  have HRR := hide hrr
                  have HFF := hide (HF2.out.then_ F7.out)
                  clear hown7 hg7 hown6 hfin hrr
                  go_wp2
                  go_ret
                  exact ⟨_, _, rfl, hcc, HRR.out, HFF.out⟩
      · have HP : Hid (Gr.place l x n = Gr.place l x k) := by
          rw [HI.out.1]
          exact place_down (by rw [hgy]; exact hlt)
        go_wp2
        go_roundw
        case rel => exact ⟨k, by omega, by go_num, HP.out, HF.out⟩
        case measure => simp [intOf]
end Go.Proofs.Ytjdbjahgimlhbaa
end
section
set_option linter.unusedVariables false
namespace Go.Proofs.Ytjdbjahgimlhbaa
open Go

section
variable {P : Program} {ops : Array Oper} {Q : Exit → Act → World → Prop} {md : Region.Mode} {S : World → Prop} {n1 : Nat}

def wpAnyE (P : Program) (md : Region.Mode) (ops : Array Oper) (Q : Exit → Act → World → Prop) (S : World → Prop) (n1 : Nat) : Nat → Array Bool → Act → World → Prop
  | 0, listed, a, w => Region.ready md ops listed = [] ∧ Q .normal a w
  | fuel + 1, listed, a, w =>
    (Region.ready md ops listed = [] → Q .normal a w) ∧
    ∀ i ∈ Region.ready md ops listed, wpOp P ops Q i (fun a' w' => ((listed.setIfInBounds i true).getD n1 false = false → S w') ∧ wpAnyE P md ops Q S n1 fuel (listed.setIfInBounds i true) a' w') a w
theorem wpAny_of_E : ∀ (fuel : Nat) (listed : Array Bool) (a : Act) (w : World), wpAnyE P md ops Q S n1 fuel listed a w → wpAny P md ops Q fuel listed a w
  | 0, _, _, _, h => h
  | fuel + 1, _, _, _, h => ⟨h.1, fun i hi => wpOp_mono (fun a' w' h' => wpAny_of_E fuel _ a' w' h'.2) (h.2 i hi)⟩

theorem wpAnyE_first {i : Nat} {oi : Oper} {v : Value} (hi : ops[i]? = some oi) (hsel : ∀ (j : Nat) (o : Oper) cs b, ops[j]? = some o → o.op ≠ .select cs b)
    (hQ : ∀ c a w, Q (.panic c) (a.put oi.dst v) w → Q (.panic c) a w) (hw : Region.waitsFor md ops n1 i = true) :
    ∀ (fuel : Nat) (listed : Array Bool) (a : Act) (w : World),
      (∀ j oj, ops[j]? = some oj → j ≠ i → listed.getD j true = false → (∀ e ∈ oj.after, Region.binds md e = true → e.on ≠ i) → oi.apart ops oj = true) →
      i ∈ Region.ready md ops listed → listed.getD n1 false = false → YieldsIf P ops S oi v a → S w →
      wpAnyE P md ops Q S n1 fuel (listed.setIfInBounds i true) (a.put oi.dst v) w → wpAnyE P md ops Q S n1 (fuel + 1) listed a w := by
  have hni : ∀ listed : Array Bool, i ∈ Region.ready md ops listed → ∀ j ∈ Region.ready md ops listed, j ≠ n1 := fun listed hr j hj e => by
    subst e
    obtain ⟨oj, hoj, ed, he, hb, hon⟩ := Region.waitsFor_spec hw
    obtain ⟨_, oj', hoj', hall⟩ := mem_ready.1 hj
    have : oj' = oj := Option.some.inj (hoj'.symm.trans hoj)
    subst this
    have h1 := hall ed he hb
    rw [hon, getD_both (mem_ready.1 hr).1] at h1
    cases h1
  intro fuel
  induction fuel with
  | zero =>
    intro listed a w _ hr hn hy hS H
    refine ⟨fun h => (by rw [h] at hr; cases hr), fun j hj => ?_⟩
    by_cases hji : j = i
    · subst hji; exact hy.wpOp hi hS ⟨fun _ => hS, H⟩
    · have := ready_mono hj hji
      rw [H.1] at this
      cases this
  | succ fuel ih =>
    intro listed a w hfree hr hn hy hS H
    refine ⟨fun h => (by rw [h] at hr; cases hr), fun j hj => ?_⟩
    by_cases hji : j = i
    · subst hji; exact hy.wpOp hi hS ⟨fun _ => hS, H⟩
    · have h1 := H.2 j (ready_mono hj hji)
      have hj1 := hni listed hr j hj
      have hi1 := hni listed hr i hr
      have hl1 : (listed.setIfInBounds j true).getD n1 false = false := by rw [getD_set_ne false hj1]; exact hn
      have hl2 : ((listed.setIfInBounds i true).setIfInBounds j true).getD n1 false = false := by rw [getD_set_ne false hj1, getD_set_ne false hi1]; exact hn
      obtain ⟨hjun, oj, hoj, hall⟩ := mem_ready.1 hj
      have hnot : ∀ e ∈ oj.after, Region.binds md e = true → e.on ≠ i := fun e he hb heq => by
        have h1 := hall e he hb
        rw [heq, getD_both (mem_ready.1 hr).1] at h1
        cases h1
      have h2 := wpOp_putIf hoj (hfree j oj hoj hji hjun hnot) (fun cs b => hsel i oi cs b hi) (fun cs b => hsel j oj cs b hoj) hQ hy h1
      have hfree' : ∀ k ok, ops[k]? = some ok → k ≠ i → (listed.setIfInBounds j true).getD k true = false →
          (∀ e ∈ ok.after, Region.binds md e = true → e.on ≠ i) → oi.apart ops ok = true := fun k ok hk hki hun hno => by
        refine hfree k ok hk hki ?_ hno
        by_cases hjk : j = k
        · subst hjk; exact hjun
        · rw [getD_set_ne true hjk] at hun; exact hun
      refine wpOp_mono (fun a' w' h3 => ⟨fun _ => h3.2.1 hl2, ih (listed.setIfInBounds j true) a' w' hfree' (ready_mono hr (Ne.symm hji)) hl1 h3.1 (h3.2.1 hl2) ?_⟩) h2
      rw [Array.setIfInBounds_comm _ _ hji]
      exact h3.2.2

theorem wpAnyE_of_any : ∀ (fuel : Nat) (listed : Array Bool) (a : Act) (w : World), listed.getD n1 false = true → wpAny P md ops Q fuel listed a w → wpAnyE P md ops Q S n1 fuel listed a w
  | 0, _, _, _, _, h => h
  | fuel + 1, listed, a, w, hl, h => ⟨h.1, fun i hi => wpOp_mono (fun a' w' h' => ⟨fun h0 => (by rw [getD_set_true hl] at h0; cases h0), wpAnyE_of_any fuel _ a' w' (getD_set_true hl) h'⟩) (h.2 i hi)⟩
theorem wpAnyE_rest {fuel : Nat} {listed : Array Bool} {a : Act} {w : World} (hr : Region.ready md ops listed = [n1]) (hs : n1 < listed.size) (h : wpAny P md ops Q (fuel + 1) listed a w) : wpAnyE P md ops Q S n1 (fuel + 1) listed a w := by
  refine ⟨h.1, fun i hi => ?_⟩
  have hl : ∀ i, i ∈ Region.ready md ops listed → (listed.setIfInBounds i true).getD n1 false = true := by
    intro i hi
    rw [hr] at hi
    obtain rfl := List.mem_singleton.1 hi
    simp [hs]
  exact wpOp_mono (fun a' w' h' => ⟨fun h0 => (by rw [hl i hi] at h0; cases h0), wpAnyE_of_any fuel _ a' w' (hl i hi) h'⟩) (h.2 i hi)

/-- the post for one operation -/
def midQ (Q : Exit → Act → World → Prop) (K : Act → World → Prop) : Exit → Act → World → Prop
  | .normal, a, w => K a w
  | e, a, w => Q e a w
theorem wp_midQ {o : Oper} {a : Act} {w : World} {K K2 : Act → World → Prop} (hh : o.wp P a w K (midQ Q K2)) : o.wp P a w K Q := by
  unfold Oper.wp at *
  generalize (execOp a.eval o).run P w = r at *
  cases r with
  | ok n w' =>
    cases n <;> simp only [Oper.upon] at hh ⊢ <;>
      first
        | exact hh
        | exact Calls.mono hh (fun e w'' he => by cases e <;> first | exact he | exact he)
        | exact Rows.mono hh (fun _ _ he => he)
  | halt x w' => cases x <;> simp only [Oper.upon] at hh ⊢ <;> exact hh
theorem wpOp_of_mid {k : Nat} {o : Oper} {a : Act} {w : World} {K : Act → World → Prop} (h0 : ops[k]? = some o) (h : wpList P ops (midQ Q K) [o] a w) : wpOp P ops Q k K a w := by
  unfold wpOp
  simp only [h0]
  unfold wpList at h
  split
  · rename_i hw
    simp only [hw, if_true] at h
    rcases h with h | ⟨h1, h2⟩
    · exact .inl (wp_midQ h)
    · exact .inr ⟨h1, h2⟩
  · rename_i hw
    simp only [hw] at h
    exact h
/-- some operations in order, behind each of which S holds -/
def wpMid (P : Program) (ops : Array Oper) (Q : Exit → Act → World → Prop) (S : World → Prop) (K : Act → World → Prop) : List Oper → Act → World → Prop
  | [], a, w => K a w
  | o :: l, a, w => wpList P ops (midQ Q fun a' w' => S w' ∧ wpMid P ops Q S K l a' w') [o] a w
/-- reads in order, each in whatever world in which S holds -/
def wpReads (P : Program) (S : World → Prop) (L : Act → Prop) : List Oper → Act → Prop
  | [], a => L a
  | o :: l, a => ∃ v, (o.guard = none ∧ ∀ w, S w → (execOp a.eval o).run P w = .ok (.value v) w) ∧ wpReads P S L l (a.put o.dst v)
theorem wpReads_cons {L : Act → Prop} {o : Oper} {l : List Oper} {a : Act} (hg : o.guard = none) (v : Value) (h : ∀ w, S w → (execOp a.eval o).run P w = .ok (.value v) w) (hr : wpReads P S L l (a.put o.dst v)) : wpReads P S L (o :: l) a := ⟨v, ⟨hg, h⟩, hr⟩

def midB (md : Region.Mode) (ops : Array Oper) (n1 g : Nat) : Nat → Nat → Array Bool → Bool
  | 0, k, listed => decide (k = n1) && decide (Region.ready md ops listed = [n1]) && decide (n1 < listed.size) && Region.seqB md ops (g + 1) k listed
  | f + 1, k, listed => decide (Region.ready md ops listed = [k]) && decide (k < n1) && midB md ops n1 g f (k + 1) (listed.setIfInBounds k true)
def headB (md : Region.Mode) (ops : Array Oper) (n1 m g : Nat) : Nat → Nat → Array Bool → Bool
  | 0, k, listed => midB md ops n1 g m k listed
  | f + 1, k, listed => (Region.ready md ops listed).contains k && Region.free md ops listed k && Region.waitsFor md ops n1 k && !(listed.getD n1 false) && headB md ops n1 m g f (k + 1) (listed.setIfInBounds k true)

theorem wpAnyE_mid (r : List Oper) (hr : ∀ j, r[j]? = ops[n1 + j]?) {g : Nat} (hg : r.length = g + 1) : ∀ (l : List Oper) (k : Nat) (listed : Array Bool) (a : Act) (w : World), (∀ j, j < l.length → l[j]? = ops[k + j]?) →
    midB md ops n1 g l.length k listed = true → wpMid P ops Q S (fun a w => wpList P ops Q r a w) l a w → wpAnyE P md ops Q S n1 (l.length + (g + 1)) listed a w
  | [], k, listed, a, w, _, hB, h => by
    simp only [List.length_nil, midB, Bool.and_eq_true, decide_eq_true_eq] at hB
    obtain ⟨⟨⟨rfl, h1⟩, h2⟩, h3⟩ := hB
    simp only [List.length_nil, Nat.zero_add]
    refine wpAnyE_rest h1 h2 ?_
    rw [← hg]
    exact wpAny_of_seq r k listed a w hr (by rw [hg]; exact h3) h
  | o :: l, k, listed, a, w, hl, hB, h => by
    have h0 : ops[k]? = some o := by simpa using (hl 0 (by simp)).symm
    simp only [List.length_cons, midB, Bool.and_eq_true, decide_eq_true_eq] at hB
    obtain ⟨⟨h1, h2⟩, h3⟩ := hB
    rw [show (o :: l).length + (g + 1) = (l.length + (g + 1)) + 1 by simp; omega]
    refine ⟨fun h4 => (by rw [h1] at h4; cases h4), fun i hi => ?_⟩
    rw [h1] at hi
    obtain rfl := List.mem_singleton.1 hi
    exact wpOp_mono (fun a' w' h' => ⟨fun _ => h'.1, wpAnyE_mid r hr hg l (i + 1) _ a' w' (fun j hj => by have := hl (j + 1) (by simp; omega); simpa [Nat.add_assoc, Nat.add_comm 1 j] using this) h3 h'.2⟩) (wpOp_of_mid h0 h)
theorem wpAnyE_head (hsel : Region.noSelect ops = true) (hQ : ∀ c a (d : Option Tmp) v w, Q (.panic c) (a.put d v) w → Q (.panic c) a w) {w : World} (hS : S w) (r : List Oper) (hr : ∀ j, r[j]? = ops[n1 + j]?) {g : Nat} (hg : r.length = g + 1)
    (m : List Oper) : ∀ (l : List Oper) (k : Nat) (listed : Array Bool) (a : Act), (∀ j, j < l.length → l[j]? = ops[k + j]?) → (∀ j, j < m.length → m[j]? = ops[k + l.length + j]?) →
    headB md ops n1 m.length g l.length k listed = true → wpReads P S (fun a => wpMid P ops Q S (fun a w => wpList P ops Q r a w) m a w) l a → wpAnyE P md ops Q S n1 (l.length + (m.length + (g + 1))) listed a w
  | [], k, listed, a, _, hm, hB, h => by
    simp only [List.length_nil, headB] at hB
    simp only [List.length_nil, Nat.zero_add]
    exact wpAnyE_mid r hr hg m k listed a w (by simpa using hm) hB h
  | o :: l, k, listed, a, hl, hm, hB, h => by
    have h0 : ops[k]? = some o := by simpa using (hl 0 (by simp)).symm
    simp only [List.length_cons, headB, Bool.and_eq_true, Bool.not_eq_true'] at hB
    obtain ⟨⟨⟨⟨h1, h2⟩, h3⟩, h4⟩, h5⟩ := hB
    obtain ⟨v, ⟨hg0, hy⟩, hrest⟩ := h
    rw [show (o :: l).length + (m.length + (g + 1)) = (l.length + (m.length + (g + 1))) + 1 by simp; omega]
    refine wpAnyE_first h0 (Region.noSelect_spec hsel) (fun c a w => hQ c a _ _ w) h3 _ listed a w (Region.free_spec h0 h2) (by simpa using h1) h4 (.inl ⟨by simp [Region.wanted, hg0], hy⟩) hS ?_
    exact wpAnyE_head hsel hQ hS r hr hg m l (k + 1) _ _ (fun j hj => by have := hl (j + 1) (by simp; omega); simpa [Nat.add_assoc, Nat.add_comm 1 j] using this) (fun j hj => by have := hm j hj; simpa [Nat.add_assoc, Nat.add_comm 1, Nat.add_left_comm] using this) h5 hrest
def phasedB (ops : Array Oper) (n0 m g : Nat) : Bool := Region.noSelect ops && decide (ops.size = n0 + (m + (g + 1))) && headB .any ops (n0 + m) m g n0 0 (Array.replicate ops.size false)
/-- n0 reads; m operations behind each of which S holds; the rest -/
theorem wp_region_phased {id : Nat} {a : Act} {w : World} {l : List Oper} (n0 m g : Nat) (S : World → Prop) (hm : P.follows .mixedOrders = true) (hB : phasedB l.toArray n0 m g = true) (hS : S w.drew)
    (h : wpReads P S (fun a => wpMid P l.toArray (NoPanic Q) S (fun a w => wpList P l.toArray (NoPanic Q) (l.drop (n0 + m)) a w) ((l.drop n0).take m) a w.drew) (l.take n0) a) : (Code.region id l.toArray true).wp P Q a w := by
  simp only [phasedB, Bool.and_eq_true, decide_eq_true_eq, List.size_toArray] at hB
  obtain ⟨⟨hsel, hsz⟩, hh⟩ := hB
  refine wp_region_noPanic (wp_region_any hm (wpAny_of_E (S := S) (n1 := n0 + m) _ _ _ _ ?_))
  have l1 : (l.take n0).length = n0 := by simp; omega
  have l2 : ((l.drop n0).take m).length = m := by simp; omega
  have l3 : (l.drop (n0 + m)).length = g + 1 := by simp; omega
  have e : l.toArray.size = (l.take n0).length + (((l.drop n0).take m).length + (g + 1)) := by rw [l1, l2]; simpa using hsz
  rw [e]
  refine wpAnyE_head (w := w.drew) hsel (fun c a d v w h => h) hS (l.drop (n0 + m)) (fun j => by simp [List.getElem?_drop]) l3 ((l.drop n0).take m) (l.take n0) 0 _ a (fun j hj => ?_) (fun j hj => ?_) ?_ h
  · rw [l1] at hj
    simp [hj]
  · rw [l2] at hj
    rw [l1]
    simp [hj, List.getElem?_drop]
  · rw [l1, l2]
    have : (l.take n0).length + (((l.drop n0).take m).length + (g + 1)) = l.toArray.size := e.symm
    rw [l1, l2] at this
    rw [this]
    simpa using hh
/-- reads in order, guarded ones too -/
def wpReadsY (P : Program) (ops : Array Oper) (S : World → Prop) (L : Act → Prop) : List Oper → Act → Prop
  | [], a => L a
  | o :: l, a => ∃ v, YieldsIf P ops S o v a ∧ wpReadsY P ops S L l (a.put o.dst v)
theorem readsY_cons {L : Act → Prop} {o : Oper} {l : List Oper} {a : Act} (hg : Region.wanted o (yielded ops a.tmps) = true) (v : Value) (h : ∀ w, S w → (execOp a.eval o).run P w = .ok (.value v) w) (hr : wpReadsY P ops S L l (a.put o.dst v)) : wpReadsY P ops S L (o :: l) a := ⟨v, .inl ⟨hg, h⟩, hr⟩
theorem readsY_skip {L : Act → Prop} {o : Oper} {l : List Oper} {a : Act} (hg : Region.wanted o (yielded ops a.tmps) = false) (hr : wpReadsY P ops S L l (a.put o.dst undef)) : wpReadsY P ops S L (o :: l) a := ⟨undef, .inr ⟨hg, rfl⟩, hr⟩
def allB (md : Region.Mode) (ops : Array Oper) : Nat → Nat → Array Bool → Bool
  | 0, k, listed => (Region.ready md ops listed).isEmpty
  | f + 1, k, listed => (Region.ready md ops listed).contains k && Region.free md ops listed k && allB md ops f (k + 1) (listed.setIfInBounds k true)
theorem wpAnyH_all_reads (hsel : Region.noSelect ops = true) (hQ : ∀ c a (d : Option Tmp) v w, Q (.panic c) (a.put d v) w → Q (.panic c) a w) {w : World} (hS : S w) :
    ∀ (l : List Oper) (k : Nat) (listed : Array Bool) (a : Act), (∀ j, j < l.length → l[j]? = ops[k + j]?) → allB md ops l.length k listed = true → wpReadsY P ops S (fun a => Q .normal a w) l a → wpAnyH P md ops Q S l.length listed a w
  | [], k, listed, a, _, hB, h => wpAnyH_done (by simpa [allB] using hB) h _
  | o :: l, k, listed, a, hl, hB, h => by
    have h0 : ops[k]? = some o := by simpa using (hl 0 (by simp)).symm
    simp only [List.length_cons, allB, Bool.and_eq_true] at hB
    obtain ⟨⟨h1, h2⟩, h5⟩ := hB
    obtain ⟨v, hy, hrest⟩ := h
    exact wpAnyH_take h0 hsel h2 h1 (fun c a w => hQ c a _ _ w) hy hS (wpAnyH_all_reads hsel hQ hS l (k + 1) _ _ (fun j hj => by have := hl (j + 1) (by simp; omega); simpa [Nat.add_assoc, Nat.add_comm 1 j] using this) h5 hrest)
/-- a region of reads alone -/
theorem wp_region_reads {id : Nat} {a : Act} {w : World} {l : List Oper} (S : World → Prop) (hm : P.follows .mixedOrders = true) (hB : (Region.noSelect l.toArray && allB .any l.toArray l.length 0 (Array.replicate l.length false)) = true) (hS : S w.drew)
    (h : wpReadsY P l.toArray S (fun a => NoPanic Q .normal a w.drew) l a) : (Code.region id l.toArray true).wp P Q a w := by
  simp only [Bool.and_eq_true] at hB
  refine wp_region_noPanic (wp_region_held (S := S) hm ?_)
  have := wpAnyH_all_reads (Q := NoPanic Q) (md := .any) hB.1 (fun c a d v w h => h) hS l 0 (Array.replicate l.length false) a (fun j hj => by simp) hB.2 h
  simpa using this
theorem midQ_ok {M : Act → World → Prop} {a : Act} {w : World} (h1 : S w) (h2 : M a w) : midQ Q (fun a w => S w ∧ M a w) .normal a w := ⟨h1, h2⟩
end
end Go.Proofs.Ytjdbjahgimlhbaa
end
section
set_option linter.unusedVariables false
set_option maxRecDepth 100000
namespace Go.Proofs.Ytjdbjahgimlhbaa
open Go.RowKit

/-- a job's kind and argument, of so many vertices, that may be asked for -/
def okK (k arg n : Nat) : Prop := (k = 1 ∧ arg < n) ∨ (k = 2 ∧ 1 ≤ arg ∧ arg ≤ 64) ∨ (k = 3 ∧ arg = 0) ∨ (k = 4 ∧ arg ≤ 4096)
/-- how many rounds at most -/
def bnd (k arg n : Nat) : Nat := if k = 2 then arg else n + 1
def reqv (k arg prio : Nat) (need : Int) : Value := .agg #[.int .i64 (k : Int), .int .i64 (arg : Int), .int .i64 (prio : Int), .int .i64 need]
def reqc (k arg prio : Nat) (need : Int) : Obj := .cells #[.int .i64 (k : Int), .int .i64 (arg : Int), .int .i64 (prio : Int), .int .i64 need] 76
set_option maxHeartbeats 1600000 in
theorem tcheck1 (arg prio n : Nat) (need : Int) (h1 : 1 ≤ n) (h2 : n ≤ 256) (hp : prio ≤ 7) (h : arg < n) (w : World) :
    Calls Try.prog 76 #[reqv 1 arg prio need, .int .i64 (n : Int)] w fun e w' => e = .returned (.int .i64 0) ∧ Fr (fun _ => False) w w' := by
  have F1 := hide ((Fr.refl (fun _ => False) w).alloc (reqc 1 arg prio need))
  have b1 : decide ((1 : Int) ≤ (n : Int)) = true := by simp; omega
  have b1' : decide (1 ≤ n) = true := by simp; omega
  have b2 : decide ((n : Int) ≤ 256) = true := by simp; omega
  have b2' : decide (n ≤ 256) = true := by simp; omega
  have b3 : decide ((0 : Int) ≤ (prio : Int)) = true := by simp
  have b4 : decide ((prio : Int) ≤ 7) = true := by simp; omega
  have b4' : decide (prio ≤ 7) = true := by simp; omega
  have b5 : decide ((0 : Int) ≤ (arg : Int)) = true := by simp
  have b6 : decide ((arg : Int) < (n : Int)) = true := by simp; omega
  have b6' : decide (arg < n) = true := by simp; omega
  clear h
  unfold reqv reqc at *
  clear h1 h2 hp
  go_enter Try.func76, Try.ntmps76
  go_wp2
  go_ret
  exact ⟨rfl, F1.out⟩
set_option maxHeartbeats 1600000 in
theorem tcheck2 (arg prio n : Nat) (need : Int) (h1 : 1 ≤ n) (h2 : n ≤ 256) (hp : prio ≤ 7) (h : 1 ≤ arg ∧ arg ≤ 64) (w : World) :
    Calls Try.prog 76 #[reqv 2 arg prio need, .int .i64 (n : Int)] w fun e w' => e = .returned (.int .i64 0) ∧ Fr (fun _ => False) w w' := by
  have F1 := hide ((Fr.refl (fun _ => False) w).alloc (reqc 2 arg prio need))
  have b1 : decide ((1 : Int) ≤ (n : Int)) = true := by simp; omega
  have b1' : decide (1 ≤ n) = true := by simp; omega
  have b2 : decide ((n : Int) ≤ 256) = true := by simp; omega
  have b2' : decide (n ≤ 256) = true := by simp; omega
  have b3 : decide ((0 : Int) ≤ (prio : Int)) = true := by simp
  have b4 : decide ((prio : Int) ≤ 7) = true := by simp; omega
  have b4' : decide (prio ≤ 7) = true := by simp; omega
  have b5 : decide ((0 : Int) ≤ (arg : Int)) = true := by simp
  have b6 : decide ((arg : Int) ≤ 64) = true := by simp; omega
  have b6' : decide (arg ≤ 64) = true := by simp; omega
  have b7 : decide ((1 : Int) ≤ (arg : Int)) = true := by simp; omega
  have b7' : decide (1 ≤ arg) = true := by simp; omega
  clear h
  unfold reqv reqc at *
  clear h1 h2 hp
  go_enter Try.func76, Try.ntmps76
  go_wp2
  go_ret
  exact ⟨rfl, F1.out⟩
set_option maxHeartbeats 1600000 in
theorem tcheck3 (arg prio n : Nat) (need : Int) (h1 : 1 ≤ n) (h2 : n ≤ 256) (hp : prio ≤ 7) (h : arg = 0) (w : World) :
    Calls Try.prog 76 #[reqv 3 arg prio need, .int .i64 (n : Int)] w fun e w' => e = .returned (.int .i64 0) ∧ Fr (fun _ => False) w w' := by
  have F1 := hide ((Fr.refl (fun _ => False) w).alloc (reqc 3 arg prio need))
  subst h
  have b1 : decide ((1 : Int) ≤ (n : Int)) = true := by simp; omega
  have b1' : decide (1 ≤ n) = true := by simp; omega
  have b2 : decide ((n : Int) ≤ 256) = true := by simp; omega
  have b2' : decide (n ≤ 256) = true := by simp; omega
  have b3 : decide ((0 : Int) ≤ (prio : Int)) = true := by simp
  have b4 : decide ((prio : Int) ≤ 7) = true := by simp; omega
  have b4' : decide (prio ≤ 7) = true := by simp; omega
  have b5 : decide ((0 : Int) ≤ (0 : Int)) = true := by simp
  unfold reqv reqc at *
  clear h1 h2 hp
  go_enter Try.func76, Try.ntmps76
  go_wp2
  go_ret
  exact ⟨rfl, F1.out⟩
set_option maxHeartbeats 1600000 in
theorem tcheck4 (arg prio n : Nat) (need : Int) (h1 : 1 ≤ n) (h2 : n ≤ 256) (hp : prio ≤ 7) (h : arg ≤ 4096) (w : World) :
    Calls Try.prog 76 #[reqv 4 arg prio need, .int .i64 (n : Int)] w fun e w' => e = .returned (.int .i64 0) ∧ Fr (fun _ => False) w w' := by
  have F1 := hide ((Fr.refl (fun _ => False) w).alloc (reqc 4 arg prio need))
  have b1 : decide ((1 : Int) ≤ (n : Int)) = true := by simp; omega
  have b1' : decide (1 ≤ n) = true := by simp; omega
  have b2 : decide ((n : Int) ≤ 256) = true := by simp; omega
  have b2' : decide (n ≤ 256) = true := by simp; omega
  have b3 : decide ((0 : Int) ≤ (prio : Int)) = true := by simp
  have b4 : decide ((prio : Int) ≤ 7) = true := by simp; omega
  have b4' : decide (prio ≤ 7) = true := by simp; omega
  have b5 : decide ((0 : Int) ≤ (arg : Int)) = true := by simp
  have b6 : decide ((arg : Int) ≤ 4096) = true := by simp; omega
  have b6' : decide (arg ≤ 4096) = true := by simp; omega
  clear h
  unfold reqv reqc at *
  clear h1 h2 hp
  go_enter Try.func76, Try.ntmps76
  go_wp2
  go_ret
  exact ⟨rfl, F1.out⟩
set_option maxHeartbeats 1600000 in
theorem tcheck_far (arg prio n : Nat) (need : Int) (h1 : 1 ≤ n) (h2 : n ≤ 256) (hp : prio ≤ 7) (h : n ≤ arg) (w : World) :
    Calls Try.prog 76 #[reqv 1 arg prio need, .int .i64 (n : Int)] w fun e w' => e = .returned (.int .i64 2) ∧ Fr (fun _ => False) w w' := by
  have F1 := hide ((Fr.refl (fun _ => False) w).alloc (reqc 1 arg prio need))
  have b1 : decide ((1 : Int) ≤ (n : Int)) = true := by simp; omega
  have b1' : decide (1 ≤ n) = true := by simp; omega
  have b2 : decide ((n : Int) ≤ 256) = true := by simp; omega
  have b2' : decide (n ≤ 256) = true := by simp; omega
  have b3 : decide ((0 : Int) ≤ (prio : Int)) = true := by simp
  have b4 : decide ((prio : Int) ≤ 7) = true := by simp; omega
  have b4' : decide (prio ≤ 7) = true := by simp; omega
  have b5 : decide ((0 : Int) ≤ (arg : Int)) = true := by simp
  have b6 : decide ((arg : Int) < (n : Int)) = false := by simp; omega
  have b6' : decide (arg < n) = false := by simp; omega
  unfold reqv reqc at *
  clear h1 h2 hp h
  go_enter Try.func76, Try.ntmps76
  go_wp2
  go_ret
  exact ⟨rfl, F1.out⟩
theorem tcheck_ok (k arg prio n : Nat) (need : Int) (h1 : 1 ≤ n) (h2 : n ≤ 256) (hp : prio ≤ 7) (h : okK k arg n) (w : World) :
    Calls Try.prog 76 #[reqv k arg prio need, .int .i64 (n : Int)] w fun e w' => e = .returned (.int .i64 0) ∧ Fr (fun _ => False) w w' := by
  rcases h with ⟨rfl, h⟩ | ⟨rfl, h⟩ | ⟨rfl, h⟩ | ⟨rfl, h⟩
  · exact tcheck1 arg prio n need h1 h2 hp h w
  · exact tcheck2 arg prio n need h1 h2 hp h w
  · exact tcheck3 arg prio n need h1 h2 hp h w
  · exact tcheck4 arg prio n need h1 h2 hp h w
theorem bound_ok (k arg prio n : Nat) (need : Int) (h1 : 1 ≤ n) (h2 : n ≤ 256) (hp : prio ≤ 7) (h : okK k arg n) (w : World) :
    Calls Try.prog 77 #[.int .i64 (n : Int), reqv k arg prio need] w fun e w' => e = .returned (.int .i64 ((bnd k arg n : Nat) : Int)) ∧ Fr (fun _ => False) w w' := by
  have F1 := hide ((Fr.refl (fun _ => False) w).alloc (reqc k arg prio need))
  have HC := hide (fun w => tcheck_ok k arg prio n need h1 h2 hp h w)
  have c0 : (w.alloc (reqc k arg prio need)).cell? ⟨w.heap.size, 0, none⟩ = some (.int .i64 (k : Int)) := by unfold reqc; simp
  have c1 : (w.alloc (reqc k arg prio need)).cell? ⟨w.heap.size, 1, none⟩ = some (.int .i64 (arg : Int)) := by unfold reqc; simp
  have hk : 1 ≤ k ∧ k ≤ 4 := by unfold okK at h; omega
  have hb2 : k ≠ 2 → bnd k arg n = n + 1 := fun h => by unfold bnd; rw [if_neg h]
  have hadd : IntKind.i64.wrap ((n : Int) + 1) = ((n + 1 : Nat) : Int) := by simp only [IntKind.wrap, IntKind.bits, IntKind.signed]; simp; omega
  unfold reqv reqc at *
  clear h hp
  go_enter Try.func77, Try.ntmps77
  go_wp2_with fail
  go_at_call 76
  refine (HC.out _).mono ?_
  rintro e w1 ⟨rfl, hf⟩
  have HF := hide (F1.out.then_ hf)
  have d0 := hf.cell c0 id
  have d1 := hf.cell c1 id
  clear c0 c1 hf
  by_cases h2k : k = 2
  · subst h2k
    go_wp2
    go_ret
    exact ⟨rfl, HF.out⟩
  · have e0 : ((k : Int) == 2) = false := by simp; omega
    have HB2 := hide (hb2 h2k)
    clear hb2
    go_wp2
    go_ret
    exact ⟨by rw [HB2.out]; go_num, HF.out⟩
end Go.Proofs.Ytjdbjahgimlhbaa
end
