/- THE DOCUMENT's EDGES: put, by contract. -/
import Derived.Test.YtjdbjahgimlhbaaEdge
import Derived.Laws.StructEq
set_option linter.unusedVariables false
set_option maxRecDepth 100000
namespace Go.Proofs.Ytjdbjahgimlhbaa
open Go.RowKit
open Gr (E)

theorem load_edge {w : World} {b o : Nat} {e : E} (h : w.rangeAt b o [.int .i64 (e.1 : Int), .int .i64 (e.2 : Int)]) : (Instr.loadAt 40 (.pointer (some ⟨b, o, none⟩))).run Try.prog w = .ok (ev e) w :=
  run_loadAt_mid w b o 40 _ _ h Try.underlying40 rfl (by rw [edge_size]; rfl)
theorem range_fr {w w' : World} {b o : Nat} {cs : List Value} (h : w.rangeAt b o cs) (hf : Fr (fun _ => False) w w') : w'.rangeAt b o cs := fun j v hv => hf.cell (h j v hv) (fun h => h)
theorem range_blk {w : World} {b : Nat} {t : TypeId} {e : E} (h : Blk w b t #[.int .i64 (e.1 : Int), .int .i64 (e.2 : Int)]) : w.rangeAt b 0 [.int .i64 (e.1 : Int), .int .i64 (e.2 : Int)] := fun j v hv => by
  rw [Nat.zero_add, h.cell]
  simpa using hv
theorem eq_edge (a b c d : Int) (w : World) : (binOp .eql 40 (.agg #[.int .i64 a, .int .i64 b]) (.agg #[.int .i64 c, .int .i64 d])).run Try.prog w = .ok (.bool ((a == c) && (b == d))) w := by
  have hf : Try.prog.underlying 40 = some (.struct (Try.prog.fieldsOf 40)) := by kernel_rfl
  have hp : Try.prog.stoodInHeld 40 = false := by kernel_rfl
  rw [run_eql_struct]
  rw [run_equalIn_struct (P := Try.prog) w 9999 40 _ _ hf hp]
  simp only [Program.fieldsOf, Try.underlying40]
  have h0 : (part 3 #[.int .i64 a, .int .i64 b] 0).run Try.prog w = .ok (.int .i64 a) w := by kernel_rfl
  have h1 : (part 3 #[.int .i64 a, .int .i64 b] 1).run Try.prog w = .ok (.int .i64 b) w := by kernel_rfl
  have h2 : (part 3 #[.int .i64 c, .int .i64 d] 0).run Try.prog w = .ok (.int .i64 c) w := by kernel_rfl
  have h3 : (part 3 #[.int .i64 c, .int .i64 d] 1).run Try.prog w = .ok (.int .i64 d) w := by kernel_rfl
  have h4 := run_equalIn_int (P := Try.prog) w 9998 3 .i64 .i64 a c Try.underlying3
  have h5 := run_equalIn_int (P := Try.prog) w 9998 3 .i64 .i64 b d Try.underlying3
  cases hac : (a == c) <;> rw [hac] at h4 <;> cases hbd : (b == d) <;> rw [hbd] at h5 <;> simp [Op.eqFields, Sem.run_bind, h0, h1, h2, h3, h4, h5, hac]
theorem place_down {l : List E} {x : E} {k : Nat} (h : Gr.less x (l.getD k (0, 0)) = true) : Hid (Gr.place l x (k + 1) = Gr.place l x k) := by
  unfold Hid
  conv => lhs; unfold Gr.place
  rw [if_pos h]
theorem place_stop {l : List E} {x : E} {k : Nat} (h : Gr.less x (l.getD k (0, 0)) = false) : Gr.place l x (k + 1) = k + 1 := by
  unfold Gr.place
  rw [if_neg (by rw [h]; simp)]
theorem ereads_take {w : World} {B n K : Nat} {A : Option Addr} {l : List E} (h : Reads w B 2 A n (ecells l)) (hl : l.length = n) (hK : K ≤ n) : Reads w B 2 A K (ecells (l.take K)) := by
  refine ⟨by rw [ecells_len]; simp; omega, fun hn => ?_⟩
  obtain ⟨b, o, e, hb, hc⟩ := h.2 (by omega)
  refine ⟨b, o, e, hb, fun j u hu => hc j u ?_⟩
  rw [← ecells_take] at hu
  obtain ⟨hj, _⟩ := List.getElem?_eq_some_iff.1 hu
  rw [List.getElem?_take] at hu
  split at hu
  · exact hu
  · cases hu
theorem ereads_drop {w : World} {B n K b o : Nat} {l : List E} (h : Reads w B 2 (some ⟨b, o, none⟩) n (ecells l)) (hl : l.length = n) (hK : K ≤ n) : Reads w B 2 (some ⟨b, o + K * 2, none⟩) (n - K) (ecells (l.drop K)) := by
  refine ⟨by rw [ecells_len]; simp; omega, fun hn => ?_⟩
  obtain ⟨b', o', e, hb, hc⟩ := h.2 (by omega)
  injection e with e
  injection e with e1 e2
  subst e1
  subst e2
  have hsp : ecells l = ecells (l.take K) ++ ecells (l.drop K) := by rw [← ecells_app, List.take_append_drop]
  have hlen : (ecells (l.take K)).length = K * 2 := by rw [ecells_len]; simp; omega
  refine ⟨b, o + K * 2, rfl, hb, fun j u hu => ?_⟩
  have := hc (K * 2 + j) u (by rw [hsp, List.getElem?_append_right (by omega), hlen]; simpa using hu)
  rwa [← Nat.add_assoc] at this
theorem put_end {w : World} {base n K m : Nat} {v : Value} {l : List E} {x : E} {xs : List Value} (hp : Gr.put l x = l.take K ++ x :: l.drop K) (hl : l.length = n) (h : w.ownsRow base 40 2 v m xs) (hx : xs = ecells (l.take K) ++ .int .i64 (x.1 : Int) :: .int .i64 (x.2 : Int) :: ecells (l.drop K)) (hm : m = n + 1) (hK : K ≤ n) :
    ∃ A c, v = .slice A (Gr.put l x).length c ∧ (Gr.put l x).length ≤ c ∧ EdgesAt w A (Gr.put l x) := by
  have hlen : (Gr.put l x).length = m := by rw [hp]; simp; omega
  have hc : ecells (Gr.put l x) = xs := by rw [hp, ecells_app, hx]; rfl
  rcases h.2 with ⟨rfl, h0⟩ | ⟨g, cap, cur, rfl, _, _, h1, _⟩
  · omega
  · refine ⟨some ⟨g, 0, none⟩, cap, by rw [hlen], by omega, ?_⟩
    unfold EdgesAt
    rw [hlen, hc]
    exact Reads.of_own h
theorem five {a b c d e : Prop} (h : a ∧ b ∧ c ∧ d ∧ e) : e := h.2.2.2.2
set_option maxHeartbeats 16000000 in
theorem put_any (A : Option Addr) (n c : Nat) (l : List E) (x : E) (w : World) (h : Reads w w.heap.size 2 A n (ecells l)) (hn : l.length = n) (hmx : n ≤ 5000) (hcap : n ≤ c) (hA : n = 0 → A = none ∧ c = 0) :
    Calls Try.prog 80 #[.slice A n c, ev x, .bool true] w fun e w' => ∃ A' c', e = .returned (.slice A' (Gr.put l x).length c') ∧ (Gr.put l x).length ≤ c' ∧ EdgesAt w' A' (Gr.put l x) ∧ Fr (fun _ => False) w w' := by
  have HB : Hid ((w.alloc (.cells #[.int .i64 (x.1 : Int), .int .i64 (x.2 : Int)] 40)).rangeAt w.heap.size 0 [.int .i64 (x.1 : Int), .int .i64 (x.2 : Int)] ∧ Fr (fun _ => False) w (w.alloc (.cells #[.int .i64 (x.1 : Int), .int .i64 (x.2 : Int)] 40))) :=
    ⟨range_blk (Blk.new w 40 _), (Fr.refl _ _).alloc _⟩
  have H := hide h
  have HN := hide hn
  clear h hn
  have HV : Hid (ev x = .agg #[.int .i64 (x.1 : Int), .int .i64 (x.2 : Int)]) := rfl
  rw [HV.out]
  go_enter Try.func80, Try.ntmps80
  go_wp2_with fail
  obtain ⟨W1, hW1⟩ : ∃ W1, w.alloc (.cells #[.int .i64 (x.1 : Int), .int .i64 (x.2 : Int)] 40) = W1 := ⟨_, rfl⟩
  rw [hW1] at HB ⊢
  clear hW1
  go_loopw [7] (fun i wr => ∃ k : Nat, k ≤ n ∧ i = .int .i64 k ∧ Hid (Gr.place l x n = Gr.place l x k ∧ Fr (fun _ => False) W1 wr)) (fun i _ => (intOf i).toNat)
  case atStart => exact ⟨n, Nat.le_refl _, rfl, rfl, Fr.refl _ _⟩
  case round =>
    obtain ⟨k, hk, rfl, HI⟩ := hrel
    cases k with
    | zero =>
      have hput : Gr.put l x = l.take 0 ++ x :: l.drop 0 := by
        have hz : Gr.place l x n = 0 := HI.out.1.trans rfl
        unfold Gr.put
        rw [HN.out, hz]
        simp
      have HPT := hide hput
      have hx := range_fr HB.out.1 HI.out.2
      have e0 := hx 0 _ rfl
      have e1 := hx 1 _ rfl
      simp only [Nat.zero_add] at e0 e1
      have HE := hide (H.out.up (HB.out.2.then_ HI.out.2))
      have HF2 := hide (HB.out.2.then_ HI.out.2)
      clear hx hput HI
      go_wp2_with fail
      go_quiet (fail)
      generalize nq = q1
      go_wp2_with fail
      go_quiet (fail)
      generalize nq = q2
      have HW := hide (show Fr (fun _ => False) wr (wr.drewN (q1 + q2)) from ⟨rfl, rfl, rfl, Nat.le_refl _, fun _ _ _ => rfl⟩)
      have hrt : Reads (wr.drewN (q1 + q2)) (wr.drewN (q1 + q2)).heap.size 2 A 0 (ecells []) := ⟨rfl, fun h => absurd h (by omega)⟩
      have hown0 := World.ownsRow_nil (wr.drewN (q1 + q2)) wr.heap.size 40 2
      obtain ⟨i0, hi, hz0, hz1, hz2⟩ := info_parts edge_info
      go_wp2_with (at_builtin; refine wpList_append_reads rfl (.const (.slice none 0 0)) (.tmp 41) _ rfl wr.heap.size 40 i0 _ 2 16 Try.underlying26 hi hz0 hz1 hz2 rfl (by decide) _ _ _ rfl hown0 _ _ 0 c (ecells []) rfl hrt ecells_one ?z2 ?z3 ?z4 ?z5)
      case z2 => unfold maxLen; omega
      case z3 => omega
      case z4 => exact Nat.le_refl _
      case z5 =>
        intro v5 w5 hown5 hg5 _
        have F5 := hide (HW.out.trans (Fr.of_grown hg5) (fun k hk => by simp [Value.ownBlock] at hk))
        obtain ⟨A5, c5, rfl⟩ := Reads.own_val hown5
        have x0 := F5.out.cell e0 (fun h => h)
        have x1 := F5.out.cell e1 (fun h => h)
        have hb5 := F5.out.size
        clear hg5 hown0 hrt
        go_wp2_with (at_builtin; refine wpList_append_box w5 _ _ rfl (.tmp 43) (.tmp 45) _ rfl wr.heap.size 40 i0 _ 2 16 Try.underlying26 hi hz0 hz1 hz2 rfl (by decide) _ _ _ rfl hown5 rfl rfl ?y1 ?y2 ?y3 ?y4 ?y5)
        case y1 => simp [Value.oneCell']
        case y2 => unfold maxLen; omega
        case y3 => omega
        case y4 => exact hb5
        case y5 =>
          intro v6 w6 hown6 hg6 _
          have F6 := hide (F5.out.grown hg6 (fun k hk => .inr ((hown5.lt k hk).1)))
          have hb6 := F6.out.size
          have hrd := HE.out.up F6.out
          obtain ⟨A6, c6, rfl⟩ := Reads.own_val hown6
          clear hg6 hown5 x0 x1
          rcases Nat.eq_zero_or_pos n with hn0 | hn0
          · obtain ⟨rfl, rfl⟩ := hA hn0
            subst hn0
            go_wp2_with (at_builtin; refine wpList_append_reads rfl (.tmp 47) (.tmp 50) _ rfl wr.heap.size 40 i0 _ 2 16 Try.underlying26 hi hz0 hz1 hz2 rfl (by decide) _ _ _ rfl hown6 _ _ 0 _ (ecells l) rfl hrd ecells_one ?x1 ?x2 ?x3 ?x4)
            case x1 => unfold maxLen; omega
            case x4 =>
              intro v7 w7 hown7 hg7 _
              have F7 := hide (F6.out.grown hg7 (fun k hk => .inr ((hown6.lt k hk).1)))
              have hfin := hide (put_end HPT.out HN.out hown7 (by simp) (by omega) (by omega))
              obtain ⟨A7, c7, rfl, hcc, hrr⟩ := hfin.out
              have HRR := hide hrr
              have HFF := hide (HF2.out.then_ F7.out)
              clear hown7 hg7 hown6 hfin hrr
              go_wp2
              go_ret
              exact ⟨_, _, rfl, hcc, HRR.out, HFF.out⟩
          · obtain ⟨b, o, rfl, _, _⟩ := HE.out.2 hn0
            have hc0 : ¬ (c = 0) := by omega
            go_wp2_with (at_builtin; refine wpList_append_reads rfl (.tmp 47) (.tmp 50) _ rfl wr.heap.size 40 i0 _ 2 16 Try.underlying26 hi hz0 hz1 hz2 rfl (by decide) _ _ _ rfl hown6 _ _ n _ (ecells l) rfl hrd ecells_one ?u1 ?u2 ?u3 ?u4)
            case u1 => unfold maxLen; omega
            case u2 => omega
            case u3 => exact hb6
            case u4 =>
              intro v7 w7 hown7 hg7 _
              have F7 := hide (F6.out.grown hg7 (fun k hk => .inr ((hown6.lt k hk).1)))
              have hfin := hide (put_end HPT.out HN.out hown7 (by simp) (by omega) (by omega))
              obtain ⟨A7, c7, rfl, hcc, hrr⟩ := hfin.out
              have HRR := hide hrr
              have HFF := hide (HF2.out.then_ F7.out)
              clear hown7 hg7 hown6 hfin hrr
              go_wp2
              go_ret
              exact ⟨_, _, rfl, hcc, HRR.out, HFF.out⟩
    | succ k =>
      have hx := range_fr HB.out.1 HI.out.2
      obtain ⟨b, o, rfl, hb, hr⟩ := EdgesAt.cells (k := k) (by have := H.out.up (HB.out.2.then_ HI.out.2); rw [← HN.out] at this; exact this) (by rw [HN.out]; omega)
      have lk : k < l.length := by rw [HN.out]; omega
      have hgy : l.getD k (0, 0) = l[k]'lk := by rw [List.getD_eq_getElem?_getD, List.getElem?_eq_getElem lk]; rfl
      generalize l[k]'lk = y at *
      have x0 := hx 0 _ rfl
      have x1 := hx 1 _ rfl
      have y0 := hr 0 _ rfl
      have y1 := hr 1 _ rfl
      rw [Nat.mul_comm 2 k, Nat.add_zero] at y0
      rw [Nat.mul_comm 2 k] at y1
      simp only [Nat.zero_add] at x0 x1
      have HS := hide (fun W (hf : Fr (fun _ => False) wr W) => show W.cell? ⟨w.heap.size, 0, none⟩ = some (.int .i64 (x.1 : Int)) ∧ W.cell? ⟨w.heap.size, 1, none⟩ = some (.int .i64 (x.2 : Int)) ∧ W.cell? ⟨b, o + k * 2, none⟩ = some (.int .i64 (y.1 : Int)) ∧ W.cell? ⟨b, o + k * 2 + 1, none⟩ = some (.int .i64 (y.2 : Int)) ∧ Fr (fun _ => False) wr W from
        ⟨hf.cell x0 (fun h => h), hf.cell x1 (fun h => h), hf.cell y0 (fun h => h), hf.cell y1 (fun h => h), hf⟩)
      have D := hide ((Fr.refl (fun _ => False) wr).drew)
      have hw : IntKind.i64.wrap ((k : Int) + 1 - 1) = (k : Int) := by simp [IntKind.wrap, IntKind.bits, IntKind.signed]; omega
      have hw2 : IntKind.i64.wrap (k : Int) = (k : Int) := by simp [IntKind.wrap, IntKind.bits, IntKind.signed]; omega
      have b0 : (0 : Int) ≤ (k : Int) := by omega
      have b1 : (k : Int) < (n : Int) := by omega
      clear hx hr
      go_wp2_with fail
      go_region_held3 (fun W => W.cell? ⟨w.heap.size, 0, none⟩ = some (.int .i64 (x.1 : Int)) ∧ W.cell? ⟨w.heap.size, 1, none⟩ = some (.int .i64 (x.2 : Int)) ∧ W.cell? ⟨b, o + k * 2, none⟩ = some (.int .i64 (y.1 : Int)) ∧ W.cell? ⟨b, o + k * 2 + 1, none⟩ = some (.int .i64 (y.2 : Int)) ∧ Fr (fun _ => False) wr W)
        (first | exact HS.out _ D.out | exact HS.out _ (Fr.then_ (five (by assumption)) hf))
        (first
          | (go_at_call 104; refine (less8_any x y _).mono ?_; rintro e w3 ⟨rfl, hf⟩))
      obtain ⟨e0, e1, f0, f1, hfw⟩ : w3.cell? ⟨w.heap.size, 0, none⟩ = some (.int .i64 (x.1 : Int)) ∧ w3.cell? ⟨w.heap.size, 1, none⟩ = some (.int .i64 (x.2 : Int)) ∧ w3.cell? ⟨b, o + k * 2, none⟩ = some (.int .i64 (y.1 : Int)) ∧ w3.cell? ⟨b, o + k * 2 + 1, none⟩ = some (.int .i64 (y.2 : Int)) ∧ Fr (fun _ => False) wr w3 := by assumption
      clear hf x0 x1 y0 y1 HS D
      have HF := hide (HI.out.2.then_ hfw)
      cases hlt : Gr.less x y
      · have HP : Hid (Gr.place l x n = k + 1) := by
          rw [HI.out.1]
          exact place_stop (by rw [hgy]; exact hlt)
        have HS := hide (fun W (hf : Fr (fun _ => False) w3 W) => show W.cell? ⟨w.heap.size, 0, none⟩ = some (.int .i64 (x.1 : Int)) ∧ W.cell? ⟨w.heap.size, 1, none⟩ = some (.int .i64 (x.2 : Int)) ∧ W.cell? ⟨b, o + k * 2, none⟩ = some (.int .i64 (y.1 : Int)) ∧ W.cell? ⟨b, o + k * 2 + 1, none⟩ = some (.int .i64 (y.2 : Int)) ∧ Fr (fun _ => False) w3 W from
          ⟨hf.cell e0 (fun h => h), hf.cell e1 (fun h => h), hf.cell f0 (fun h => h), hf.cell f1 (fun h => h), hf⟩)
        have D := hide ((Fr.refl (fun _ => False) w3).drew)
        by_cases hyx : y = x
        · have heq : ∀ W : World, (binOp .eql 40 (.agg #[.int .i64 (y.1 : Int), .int .i64 (y.2 : Int)]) (.agg #[.int .i64 (x.1 : Int), .int .i64 (x.2 : Int)])).run Try.prog W = .ok (.bool true) W := fun W => by
            rw [eq_edge, hyx]; simp
          go_wp2_with fail
          go_region_held3 (fun W => W.cell? ⟨w.heap.size, 0, none⟩ = some (.int .i64 (x.1 : Int)) ∧ W.cell? ⟨w.heap.size, 1, none⟩ = some (.int .i64 (x.2 : Int)) ∧ W.cell? ⟨b, o + k * 2, none⟩ = some (.int .i64 (y.1 : Int)) ∧ W.cell? ⟨b, o + k * 2 + 1, none⟩ = some (.int .i64 (y.2 : Int)) ∧ Fr (fun _ => False) w3 W)
            (first | exact HS.out _ D.out)
            (first
              | (go_at_call 104; fail))
          have hput : Gr.put l x = l := by
            unfold Gr.put
            rw [HN.out, HP.out]
            simp only
            rw [if_pos ⟨by omega, by rw [Nat.add_sub_cancel, hgy]; exact hyx⟩]
          have HE := hide (H.out.up (HB.out.2.then_ (HF.out.then_ D.out)))
          have HF2 := hide (HB.out.2.then_ (HF.out.then_ D.out))
          have HPT := hide hput
          clear hput
          go_wp2
          go_ret
          exact ⟨some ⟨b, o, none⟩, c, by rw [HPT.out, HN.out]; rfl, by rw [HPT.out, HN.out]; exact hcap, by rw [HPT.out]; unfold EdgesAt; rw [HN.out]; exact HE.out, HF2.out⟩
        · have heq : ∀ W : World, (binOp .eql 40 (.agg #[.int .i64 (y.1 : Int), .int .i64 (y.2 : Int)]) (.agg #[.int .i64 (x.1 : Int), .int .i64 (x.2 : Int)])).run Try.prog W = .ok (.bool false) W := fun W => by
            rw [eq_edge]
            have : ((y.1 : Int) == (x.1 : Int) && (y.2 : Int) == (x.2 : Int)) = false := by
              rw [Bool.eq_false_iff]
              intro h
              simp only [Bool.and_eq_true, beq_iff_eq] at h
              exact hyx (Prod.ext (by omega) (by omega))
            rw [this]
          go_wp2_with fail
          go_region_held3 (fun W => W.cell? ⟨w.heap.size, 0, none⟩ = some (.int .i64 (x.1 : Int)) ∧ W.cell? ⟨w.heap.size, 1, none⟩ = some (.int .i64 (x.2 : Int)) ∧ W.cell? ⟨b, o + k * 2, none⟩ = some (.int .i64 (y.1 : Int)) ∧ W.cell? ⟨b, o + k * 2 + 1, none⟩ = some (.int .i64 (y.2 : Int)) ∧ Fr (fun _ => False) w3 W)
            (first | exact HS.out _ D.out)
            (first
              | (go_at_call 104; fail))
          have hput : Gr.put l x = l.take (k + 1) ++ x :: l.drop (k + 1) := by
            unfold Gr.put
            rw [HN.out, HP.out]
            simp only
            rw [if_neg (by rintro ⟨_, h⟩; rw [Nat.add_sub_cancel, hgy] at h; exact hyx h)]
          have HE := hide (H.out.up (HB.out.2.then_ (HF.out.then_ D.out)))
          have HF2 := hide (HB.out.2.then_ (HF.out.then_ D.out))
          have HPT := hide hput
          have D2 := hide (show w3.drew.cell? ⟨w.heap.size, 0, none⟩ = some (.int .i64 (x.1 : Int)) ∧ w3.drew.cell? ⟨w.heap.size, 1, none⟩ = some (.int .i64 (x.2 : Int)) from ⟨e0, e1⟩)
          generalize w3.drew = W at *
          clear hput heq f0 f1 e0 e1 D HS hyx hgy hw hw2 hlt HP HI HF
          have b2 : (k : Int) + 1 ≤ (n : Int) := by omega
          have HRT := hide (ereads_take HE.out HN.out (show k + 1 ≤ n by omega))
          have hown0 := World.ownsRow_nil W W.heap.size 40 2
          obtain ⟨i0, hi, hz0, hz1, hz2⟩ := info_parts edge_info
          have hrt := HRT.out
          go_wp2_with (at_builtin; refine wpList_append_reads rfl (.const (.slice none 0 0)) (.tmp 41) _ rfl W.heap.size 40 i0 _ 2 16 Try.underlying26 hi hz0 hz1 hz2 rfl (by decide) _ _ _ rfl hown0 _ _ (k + 1) c (ecells (l.take (k + 1))) rfl hrt ecells_one ?c2 ?c3 ?c4 ?c5)
          case c2 => unfold maxLen; omega
          case c3 => omega
          case c4 => exact Nat.le_refl _
          case c5 =>
            intro v5 w5 hown5 hg5 _
            have F5 := hide ((Fr.refl (fun _ => False) W).grown hg5 (fun k hk => by simp [Value.ownBlock] at hk))
            obtain ⟨A5, c5, rfl⟩ := Reads.own_val hown5
            have x0 := F5.out.cell D2.out.1 (fun h => h)
            have x1 := F5.out.cell D2.out.2 (fun h => h)
            have hb5 := F5.out.size
            clear hg5 hown0 hrt HRT D2
            go_wp2_with (at_builtin; refine wpList_append_box w5 _ _ rfl (.tmp 43) (.tmp 45) _ rfl W.heap.size 40 i0 _ 2 16 Try.underlying26 hi hz0 hz1 hz2 rfl (by decide) _ _ _ rfl hown5 rfl rfl ?c1 ?c2 ?c3 ?c4 ?c5)
            case c1 => simp [Value.oneCell']
            case c2 => unfold maxLen; omega
            case c3 => omega
            case c4 => exact hb5
            case c5 =>
              intro v6 w6 hown6 hg6 _
              have F6 := hide (F5.out.grown hg6 (fun k hk => .inr ((hown5.lt k hk).1)))
              have hb6 := F6.out.size
              have hrd := ereads_drop (HE.out.up F6.out) HN.out (show k + 1 ≤ n by omega)
              obtain ⟨A6, c6, rfl⟩ := Reads.own_val hown6
              clear hg6 hown5 x0 x1
              by_cases hck : c = k + 1
              · have hnk : n = k + 1 := by omega
                have hrd0 : Reads w6 w6.heap.size 2 (some ⟨b, o, none⟩) 0 (ecells (l.drop (k + 1))) := by
                  rw [List.drop_of_length_le (by rw [HN.out]; omega)]
                  exact ⟨rfl, fun h => absurd h (by omega)⟩
                have hz : n - (k + 1) = 0 := by omega
                subst hck
                clear hrd
                go_wp2_with (at_builtin; refine wpList_append_reads rfl (.tmp 47) (.tmp 50) _ rfl W.heap.size 40 i0 _ 2 16 Try.underlying26 hi hz0 hz1 hz2 rfl (by decide) _ _ _ rfl hown6 _ _ 0 _ (ecells (l.drop (k + 1))) rfl hrd0 ecells_one ?c2 ?c3 ?c4 ?c5)
                case c2 => unfold maxLen; omega
                case c3 => omega
                case c4 => exact hb6
                case c5 =>
                  intro v7 w7 hown7 hg7 _
                  have F7 := hide (F6.out.grown hg7 (fun k hk => .inr ((hown6.lt k hk).1)))
                  have hfin := hide (put_end HPT.out HN.out hown7 (by simp) (by omega) (by omega))
                  obtain ⟨A7, c7, rfl, hcc, hrr⟩ := hfin.out
                  have HRR := hide hrr
                  have HFF := hide (HF2.out.then_ F7.out)
                  clear hown7 hg7 hown6 hfin hrr
                  go_wp2
                  go_ret
                  exact ⟨_, _, rfl, hcc, HRR.out, HFF.out⟩
              · have hck2 : ¬ (c - (k + 1) = 0) := by omega
                go_wp2_with (at_builtin; refine wpList_append_reads rfl (.tmp 47) (.tmp 50) _ rfl W.heap.size 40 i0 _ 2 16 Try.underlying26 hi hz0 hz1 hz2 rfl (by decide) _ _ _ rfl hown6 _ _ (n - (k + 1)) _ (ecells (l.drop (k + 1))) rfl hrd ecells_one ?c2 ?c3 ?c4 ?c5)
                case c2 => unfold maxLen; omega
                case c3 => omega
                case c4 => exact hb6
                case c5 =>
                  intro v7 w7 hown7 hg7 _
                  have F7 := hide (F6.out.grown hg7 (fun k hk => .inr ((hown6.lt k hk).1)))
                  have hfin := hide (put_end HPT.out HN.out hown7 (by simp) (by omega) (by omega))
                  obtain ⟨A7, c7, rfl, hcc, hrr⟩ := hfin.out
                  have HRR := hide hrr
                  have HFF := hide (HF2.out.then_ F7.out)
                  clear hown7 hg7 hown6 hfin hrr
                  go_wp2
                  go_ret
                  exact ⟨_, _, rfl, hcc, HRR.out, HFF.out⟩
      · have HP : Hid (Gr.place l x n = Gr.place l x k) := by
          rw [HI.out.1]
          exact place_down (by rw [hgy]; exact hlt)
        go_wp2
        go_roundw
        case rel => exact ⟨k, by omega, by go_num, HP.out, HF.out⟩
        case measure => simp [intOf]
end Go.Proofs.Ytjdbjahgimlhbaa
