/- kernels.numbers, kernels.Run, by contract. -/
import Derived.Test.YtjdbjahgimlhbaaKPlain
import Derived.Test.YtjdbjahgimlhbaaReadIn
set_option linter.unusedVariables false
set_option maxRecDepth 100000
namespace Go.Proofs.Ytjdbjahgimlhbaa
open Go.RowKit
open Gr (E T)

theorem numbers_in {p g : Nat} {xs : List Nat} {w : World} (h : PlainAt w p g xs) :
    Calls Try.prog 78 #[vecv p] w fun e w' => ∃ A c, e = .returned (.slice A xs.length c) ∧ ReadsIn w' w.heap.size 1 A xs.length (xs.map u64v) ∧ Fr (fun _ => False) w w' := by
  obtain ⟨i0, hi, hz0, hz1, hz2⟩ := info_parts u64_info
  have hl := h.len
  have hmv := fun p => meth_len p
  have hmg := fun p => meth_get p
  have H := hide h
  clear h
  unfold vecv
  go_enter Try.func78, Try.ntmps78
  go_wp2_with fail
  go_at_call 61
  refine (len_any H.out).mono ?_
  rintro e w1 ⟨rfl, rfl⟩
  go_wp2_with fail
  go_loopw [3, 9] (fun r i wr => ∃ k : Nat, k ≤ xs.length ∧ i = .int .i64 k ∧ wr.ownsRow w.heap.size 36 1 r k ((xs.take k).map u64v) ∧ Hid (Fr (fun _ => False) w wr)) (fun _ i _ => xs.length - (intOf i).toNat)
  case atStart => exact ⟨0, by omega, rfl, by simpa using World.ownsRow_nil w _ 36 1, hide (Fr.refl _ _)⟩
  case round =>
    obtain ⟨k, hk, rfl, hown, HF⟩ := hrel
    have HP := hide (H.out.fr HF.out id id)
    by_cases hlt : k < xs.length
    · have HG := hide (get_in HP.out k hlt)
      generalize hxk : xs.getD k 0 = x at *
      go_wp2_with fail
      go_at_call 21
      refine HG.out.mono ?_
      rintro e w1 ⟨rfl, rfl⟩
      go_wp2_with (at_builtin; refine wpList_append_box wr _ _ rfl (.tmp 18) (.tmp 20) _ rfl w.heap.size 36 i0 _ 1 8 Try.underlying49 hi hz0 hz1 hz2 rfl (by decide) _ _ _ rfl hown rfl rfl ?c1 ?c2 ?c3 ?c4 ?c5)
      case c1 => simp [Value.oneCell']
      case c2 => unfold maxLen; omega
      case c3 => omega
      case c4 => exact HF.out.size
      case c5 =>
        intro v' w1 hown1 hg _
        have HF1 := hide (HF.out.grown hg (fun q hq => .inr ((hown.lt q hq).1)))
        have hM : (xs.take k).map u64v ++ [Value.int .u64 (x : Int)] = (xs.take (k + 1)).map u64v := by
          rw [List.take_succ_eq_append_getElem hlt, List.map_append, ← hxk]
          simp [u64v, List.getD, hlt]
        have hown2 : w1.ownsRow w.heap.size 36 1 v' (k + 1) ((xs.take (k + 1)).map u64v) := by rw [← hM]; simpa [List.map_take] using hown1
        clear hown hown1 hg hM
        go_wp2
        go_roundw
        case rel => exact ⟨k + 1, by omega, by go_num, hown2, HF1⟩
        case measure => simp [intOf]; omega
    · obtain rfl : k = xs.length := by omega
      rw [List.take_of_length_le (Nat.le_refl _)] at hown
      obtain ⟨A, c, rfl⟩ := Reads.own_val hown
      have HR := hide (ReadsIn.of_own hown)
      clear hown
      go_wp2
      go_ret
      exact ⟨_, _, rfl, HR.out, HF.out⟩

set_option maxHeartbeats 4000000 in
theorem run_any (k arg prio n s c : Nat) (need : Int) (A : Option Addr) (Ls : List (List T)) (w : World) (hp : prio ≤ 7) (hk : okK k arg n) (h1 : 1 ≤ n) (h2 : n ≤ 256) (hs : s ≤ 1000) (hS : ShsAt w w.heap.size A s n Ls) :
    Calls Try.prog 46 #[reqv k arg prio need, .int .i64 (n : Int), .slice A s c] w fun e w' => ∃ B d, e = .returned (.tuple #[.slice B n d, .int .i64 ((stopAt (kdn (kdOf k arg) n Ls) (bnd k arg n) : Nat) : Int), .int .i64 0]) ∧
      ReadsIn w' w.heap.size 1 B n ((kst (kdOf k arg) n Ls (stopAt (kdn (kdOf k arg) n Ls) (bnd k arg n))).1.map u64v) ∧ Fr (fun _ => False) w w' := by
  have HK := hide (kd_good k arg)
  have hb : 1 ≤ bnd k arg n ∧ bnd k arg n ≤ 257 := by unfold bnd okK at *; split <;> omega
  have HTC := hide (fun w => tcheck_ok k arg prio n need h1 h2 hp hk w)
  have HBD := hide (fun w => bound_ok k arg prio n need h1 h2 hp hk w)
  have HNW := hide (fun w => new_ok n w h2)
  have HBG := hide (fun (W : World) (pa ga pb gb : Nat) (xs ys : List Nat) (h : TwoAt W pa ga pb gb xs ys) (lx : xs.length = n) (ly : ys.length = n) => kbegin_ok h (may_n h1 h2 lx ly) k arg prio need hp (by rw [lx]; exact hk))
  have HSH := hide (fun (W : World) (pa ga pb gb : Nat) (xs ys : List Nat) (fr to : Int) (Ai : Option Addr) (m c : Nat) (vs : List Value) (L : List (List Int)) (r : Nat) (h : TwoAt W pa ga pb gb xs ys) (lx : xs.length = n) (ly : ys.length = n) (stay : ∀ w', Fr (fun k => k = gb) W w' → LsAt w' vs Ai m L) (hfit : fitsB fr to n L = true) (hr : r ≤ 1000) =>
    kshard_ok (c := c) h (may_n h1 h2 lx ly) k arg prio need hp (by rw [lx]; exact hk) stay (by rw [lx]; exact hfit) r hr)
  have HCM := hide (fun (W : World) (pa ga pb gb : Nat) (xs ys : List Nat) (r : Nat) (h : TwoAt W pa ga pb gb xs ys) (lx : xs.length = n) (ly : ys.length = n) (hr : r ≤ 1000) => kcommit_ok h (may_n h1 h2 lx ly) k arg prio need hp (by rw [lx]; exact hk) r hr)
  generalize kdOf k arg = K at *
  generalize bnd k arg n = b at *
  obtain ⟨W1, hW1⟩ : ∃ W1, W1 = w.alloc (reqc k arg prio need) := ⟨_, rfl⟩
  have F1 := hide (show Fr (fun _ => False) w W1 by rw [hW1]; exact (Fr.refl _ _).alloc _)
  have c0 : W1.cell? ⟨w.heap.size, 0, none⟩ = some (.int .i64 (k : Int)) := by rw [hW1]; unfold reqc; simp
  have c1 : W1.cell? ⟨w.heap.size, 1, none⟩ = some (.int .i64 (arg : Int)) := by rw [hW1]; unfold reqc; simp
  have c2 : W1.cell? ⟨w.heap.size, 2, none⟩ = some (.int .i64 (prio : Int)) := by rw [hW1]; unfold reqc; simp
  have c3 : W1.cell? ⟨w.heap.size, 3, none⟩ = some (.int .i64 need) := by rw [hW1]; unfold reqc; simp
  have HCL := hide (fun (S : Nat → Prop) W (hf : Fr S W1 W) (hn : ¬ S w.heap.size) => (⟨hf.cell c0 hn, hf.cell c1 hn, hf.cell c2 hn, hf.cell c3 hn⟩ : W.cell? ⟨w.heap.size, 0, none⟩ = some (.int .i64 (k : Int)) ∧ W.cell? ⟨w.heap.size, 1, none⟩ = some (.int .i64 (arg : Int)) ∧ W.cell? ⟨w.heap.size, 2, none⟩ = some (.int .i64 (prio : Int)) ∧ W.cell? ⟨w.heap.size, 3, none⟩ = some (.int .i64 need)))
  have SZ1 : W1.heap.size = w.heap.size + 1 := by rw [hW1]; simp
  have HZ := hide hW1
  have HSS := hide (hS.fr F1.out (fun k h => h.elim))
  unfold reqv reqc vecv at *
  clear c0 c1 c2 c3 hW1 hS
  go_enter Try.func46, Try.ntmps46
  go_wp2_with fail
  rw [← HZ.out]
  go_at_call 76
  refine (HTC.out _).mono ?_
  rintro e w1 ⟨rfl, hf⟩
  have HFa := hide hf
  have sa := hf.size
  clear hf
  go_wp2_with fail
  go_at_call 52
  refine (HNW.out _).mono ?_
  rintro e w2 ⟨pa, ga, rfl, hpa, hga, hA, hf⟩
  have HA := hide hA
  have la := hA.row.lt
  have HFb := hide (HFa.out.then_ hf)
  clear hf hA
  go_wp2_with fail
  go_at_call 52
  refine (HNW.out _).mono ?_
  rintro e w3 ⟨pb, gb, rfl, hpb, hgb, hB, hf⟩
  have HT := hide (show TwoAt w3 pa ga pb gb (List.replicate n 0) (List.replicate n 0) from ⟨HA.out.fr hf id id, hB, by omega⟩)
  have HFc := hide (HFb.out.then_ hf)
  have lb := hB.row.lt
  have sc := hf.size
  obtain ⟨q0, q1, q2, q3⟩ := HCL.out _ _ HFc.out id
  clear hf hB HA HFb
  go_wp2_with fail
  go_at_call 42
  refine (HBG.out w3 pa ga pb gb _ _ HT.out (by simp) (by simp)).mono ?_
  rintro e w4 ⟨rfl, hT, hf⟩
  rw [List.length_replicate] at hT
  have HT4 := hide hT
  have HF4 := hide (HFc.out.trans hf (fun k h => .inr (by omega)))
  have s4 := hf.size
  clear hf hT HT HFc q0 q1 q2 q3 HBG HTC HNW HFa
  go_wp2_with fail
  go_loopw [13] (fun i wr => ∃ r : Nat, r ≤ b ∧ i = .int .i64 r ∧ (∀ j, j < r → kdn K n Ls j = false) ∧ Hid (TwoAt wr pa ga pb gb (kst K n Ls r).1 (kst K n Ls r).2 ∧ Fr (fun _ => False) W1 wr)) (fun i _ => b - (intOf i).toNat)
  case atStart => exact ⟨0, by omega, rfl, fun j hj => absurd hj (by omega), HT4.out, HF4.out⟩
  case round =>
    obtain ⟨r, hr, rfl, hno, HI⟩ := hrel
    have HNO := hide hno
    clear hno
    obtain ⟨q0, q1, q2, q3⟩ := HCL.out _ _ HI.out.2 id
    have sI := HI.out.2.size
    obtain ⟨lX, lY⟩ := kst_len HK.out n Ls r
    by_cases hrb : r < b
    · have hd4 : decide ((r : Int) < (b : Int)) = true := by simp; omega
      have hd5 : decide (r < b) = true := by simp; omega
      have HNX := hide (show kst K n Ls (r + 1) = (K.cX (kst K n Ls r).1 (kacc K r (kst K n Ls r).1 (kst K n Ls r).2 Ls), K.cY (kst K n Ls r).1 (kacc K r (kst K n Ls r).1 (kst K n Ls r).2 Ls)) from rfl)
      have HDN := hide (show kdn K n Ls r = K.dn r (kst K n Ls r).1 (kacc K r (kst K n Ls r).1 (kst K n Ls r).2 Ls) from rfl)
      have HLL := hide (kst_len HK.out n Ls (r + 1))
      generalize (kst K n Ls r).1 = X at *
      generalize (kst K n Ls r).2 = Y at *
      go_wp2_with fail
      go_at_call 77
      refine (HBD.out _).mono ?_
      rintro e w5 ⟨rfl, hf⟩
      have HT5 := hide (HI.out.1.still hf)
      have HF5 := hide (HI.out.2.then_ hf)
      have s5 := hf.size
      clear hf HI q0 q1 q2 q3
      go_wp2_with fail
      try simp only [hd4, hd5]
      go_loopw [59] (fun i wr => ∃ j : Nat, j ≤ s ∧ i = .int .i64 j ∧ Hid (TwoAt wr pa ga pb gb X (kacc K r X Y (Ls.take j)) ∧ Fr (fun k => k = gb) w5 wr)) (fun i _ => s - (intOf i).toNat)
      case atStart => exact ⟨0, by omega, rfl, HT5.out, Fr.refl _ _⟩
      case round =>
        obtain ⟨j, hj, rfl, HJ⟩ := hrel
        have HFr := hide (HF5.out.trans HJ.out.2 (fun k h => .inr (by omega)))
        obtain ⟨q0, q1, q2, q3⟩ := HCL.out _ _ HFr.out id
        by_cases hjs : j < s
        · have HSr := hide (HSS.out.fr HFr.out (fun k h => h.elim))
          obtain ⟨b0, o0, fr, to, Ai, m, cc, vs, L, e0, hb0, z0, z1, z2, hfit, hed, hst⟩ := HSr.out.2.2 j hjs
          have HST := hide hst
          have HED := hide hed
          have HFIT := hide hfit
          have lJ : (kacc K r X Y (Ls.take j)).length = n := by rw [kacc_len HK.out]; exact lY
          have bj0 : (0 : Int) ≤ (j : Int) := by omega
          have bj1 : (j : Int) < (s : Int) := by omega
          subst e0
          have HNXT := hide (kacc_take K r X Y Ls (i := j) (by have := HSS.out.1; omega))
          obtain ⟨W6, hW6⟩ : ∃ W6, W6 = wr.alloc (.cells #[.int .i64 fr, .int .i64 to, .slice Ai m cc] 45) := ⟨_, rfl⟩
          have F6 : Fr (fun _ => False) wr W6 := by rw [hW6]; exact (Fr.refl _ _).alloc _
          have HT6 := hide (HJ.out.1.still F6)
          have HF6 := hide (HJ.out.2.then_ F6)
          have x0 := F6.cell q0 id
          rw [hW6] at x0
          have x1 := F6.cell q1 id
          rw [hW6] at x1
          have x2 := F6.cell q2 id
          rw [hW6] at x2
          have x3 := F6.cell q3 id
          rw [hW6] at x3
          have HSTY := hide (fun w' (hf' : Fr (fun k => k = gb) W6 w') => HST.out (fun k => k = gb) w' ((F6.mono (fun k h => h.elim)).trans hf' (fun k h => .inl h)) (fun k h => by omega))
          have HZ6 := hide hW6
          clear hst hed hfit F6 hW6 HJ
          go_wp2_with fail
          try simp only [hd4, hd5]
          go_at_call 43
          rw [← HZ6.out]
          refine (HSH.out W6 pa ga pb gb X (kacc K r X Y (Ls.take j)) fr to Ai m cc vs L r HT6.out lX lJ HSTY.out HFIT.out (by omega)).mono ?_
          rintro e w8 ⟨rfl, hT, hf⟩
          have H8 := hide (show TwoAt w8 pa ga pb gb X (kacc K r X Y (Ls.take (j + 1))) by rw [HNXT.out, ← HED.out]; exact hT)
          have HF8 := hide (HF6.out.trans hf (fun k h => .inl h))
          clear hT hf x0 x1 x2 x3 z0 z1 z2 q0 q1 q2 q3
          go_wp2
          try simp only [hd4, hd5]
          go_roundw
          case rel => exact ⟨j + 1, by omega, by go_num, H8.out, HF8.out⟩
          case measure => simp [intOf]; omega
        · obtain rfl : j = s := by omega
          have HJT := hide (show TwoAt wr pa ga pb gb X (kacc K r X Y Ls) from by
            have := HJ.out.1
            rwa [List.take_of_length_le (by have := HSS.out.1; omega)] at this)
          have lJ : (kacc K r X Y Ls).length = n := by rw [kacc_len HK.out]; exact lY
          clear HJ
          generalize kacc K r X Y Ls = ac at *
          go_wp2_with fail
          go_at_call 41
          refine (HCM.out _ pa ga pb gb X ac r HJT.out lX lJ (by omega)).mono ?_
          rintro e w7 ⟨rfl, hT, hf⟩
          have HT7 := hide hT
          have HF7 := hide (HFr.out.trans hf (fun k h => .inr (by omega)))
          have s7 := hf.size
          have s7' := HFr.out.size
          clear hT hf q0 q1 q2 q3 HJT
          generalize K.dn r X ac = dd at *
          rcases dd with _ | _
          · go_wp2
            try simp only [hd4, hd5]
            go_roundw
            case rel => exact ⟨r + 1, by omega, by go_num, fun j hj => by
              by_cases hjr : j = r
              · subst hjr; exact HDN.out
              · exact HNO.out j (by omega), by rw [HNX.out]; exact HT7.out, HF7.out⟩
            case measure => simp [intOf]; omega
          · have HSTOP := hide (stop_some hrb HDN.out HNO.out)
            have lZ := HLL.out.1
            rw [HNX.out] at lZ
            simp only at lZ
            go_wp2_with fail
            go_at_call 78
            refine (numbers_in HT7.out.a).mono ?_
            rintro e w8 ⟨B, d, rfl, hR, hf⟩
            rw [lZ] at hR ⊢
            have HR := hide (hR.less (lo' := w.heap.size) (by omega))
            have HF8 := hide (F1.out.trans (HF7.out.then_ hf) (fun k h => h.elim))
            clear hR hf
            go_wp2
            go_ret3
            refine ⟨B, d, ?_, ?_, HF8.out⟩
            · rw [HSTOP.out]; go_num
            · rw [HSTOP.out, HNX.out]; exact HR.out
    · obtain rfl : r = b := by omega
      have HSTOP := hide (stop_none HNO.out)
      have hd4 : decide ((r : Int) < (r : Int)) = false := by simp
      generalize hX : (kst K n Ls r).1 = X at *
      generalize (kst K n Ls r).2 = Y at *
      go_wp2_with fail
      go_at_call 77
      refine (HBD.out _).mono ?_
      rintro e w5 ⟨rfl, hf⟩
      have HT5 := hide (HI.out.1.still hf)
      have HF5 := hide (HI.out.2.then_ hf)
      have s5 := hf.size
      have HX := hide hX
      clear hf HI q0 q1 q2 q3 hX
      go_wp2_with fail
      refine wp_region_ord [(0, true), (1, true), (3, true), (4, true), (2, false), (5, false), (6, true), (7, true), (8, true)] (fun W => Fr (fun _ => False) W1 W) (by kernel_rfl) (by kernel_rfl) HF5.out.drew ?_
      iterate 4
        refine ord_read rfl ?_ ?_ (fun W hS => ?_) ?_
        · rfl
        rotate_left
        · (obtain ⟨s0, s1, s2, s3⟩ := HCL.out _ _ hS id; go_simp; try with_reducible rfl)
        simp only [List.getElem_toArray, List.getElem_cons_zero, List.getElem_cons_succ, Act.put, List.setIfInBounds_toArray, List.set_cons_zero, List.set_cons_succ]
      refine ord_act rfl ?_
      go_wp2_with fail
      go_at_call 78
      refine (numbers_in (HT5.out.a.fr (Fr.refl (fun _ => False) _).drew id id)).mono ?_
      rintro e w8 ⟨B, d, rfl, hR, hf⟩
      rw [lX] at hR ⊢
      have HR := hide (hR.less (lo' := w.heap.size) (by show w.heap.size ≤ w5.heap.size; omega))
      have HF8 := hide (HF5.out.drew.then_ hf)
      clear hR hf
      go_wp2
      refine midQ_ok HF8.out ?_
      refine ord_act rfl ?_
      go_wp2_with fail
      go_at_call 77
      refine (HBD.out _).mono ?_
      rintro e w9 ⟨rfl, hf⟩
      have HR9 := hide (HR.out.fr hf (fun k h => h.elim))
      have HF9 := hide (HF8.out.then_ hf)
      clear hf
      go_wp2
      refine midQ_ok HF9.out ?_
      iterate 3
        refine ord_read rfl ?_ ?_ (fun W hS => ?_) ?_
        · rfl
        rotate_left
        · (skip; go_simp; try with_reducible rfl)
        simp only [List.getElem_toArray, List.getElem_cons_zero, List.getElem_cons_succ, Act.put, List.setIfInBounds_toArray, List.set_cons_zero, List.set_cons_succ]
      refine ord_done ?_
      refine NoPanic.normal ?_
      go_wp2
      go_ret3
      refine ⟨B, d, ?_, ?_, F1.out.trans HF9.out (fun k h => h.elim)⟩
      · rw [HSTOP.out]; rfl
      · rw [HSTOP.out, HX.out]; exact HR9.out
end Go.Proofs.Ytjdbjahgimlhbaa
