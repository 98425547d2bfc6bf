/- Parts of the proof of KernelsTruth: no conditions of their own. -/
import Derived.Test.YtjdbjahgimlhbaaGreatKernelsTruthPk17
import Derived.Test.YtjdbjahgimlhbaaGreatKernelsTruthPk21
import Derived.Test.YtjdbjahgimlhbaaGreatKernelsTruthPk14
import Derived.Test.YtjdbjahgimlhbaaGreatKernelsTruthPk16
section
set_option linter.unusedVariables false
set_option maxRecDepth 100000
namespace Go.Proofs.YtjdbjahgimlhbaaGreat
open Go.RowKit
open Gr (E T FAR QInv)

/-- a table of lists -/
def TabAt (w : World) (t n : Nat) (nb : Nat → List Nat) : Prop := ∀ u, u < n → ∃ A c, w.cell? ⟨t, u, none⟩ = some (.slice A (nb u).length c) ∧ Reads w w.heap.size 1 A (nb u).length (ivals (nb u))
theorem TabAt.up {w w' : World} {t n : Nat} {nb : Nat → List Nat} (h : TabAt w t n nb) (hf : Fr (fun _ => False) w w') : TabAt w' t n nb := fun u hu => by
  obtain ⟨A, c, h1, h2⟩ := h u hu
  exact ⟨A, c, hf.cell h1 id, h2.up hf⟩
theorem TabAt.outs {w : World} {H B o a n : Nat} {f f' : Nat → List Nat} (h : GAt w H B o a n ((List.range n).map f) ((List.range n).map f')) : TabAt w o n f := fun u hu => by
  obtain ⟨A, c, h1, h2⟩ := h.outRow (i := u) (l := f u) (map_at _ hu)
  exact ⟨A, c, h1, Reads.of_own h2⟩
theorem TabAt.alls {w : World} {H B o a n : Nat} {f f' : Nat → List Nat} (h : GAt w H B o a n ((List.range n).map f) ((List.range n).map f')) : TabAt w a n f' := fun u hu => by
  obtain ⟨A, c, h1, h2⟩ := h.allRow (i := u) (l := f' u) (map_at _ hu)
  exact ⟨A, c, h1, Reads.of_own h2⟩
theorem RowU.uniq {w : World} {g : Nat} {X Y : List Nat} (h : RowU w g X) (k : RowU w g Y) : X = Y := by
  have e : some (Obj.cells (X.map u64v).toArray 57 (0, 0)) = some (Obj.cells (Y.map u64v).toArray 57 (0, 0)) := h.symm.trans k
  injection e with e
  injection e with e1 e2 e3
  have e4 : X.map u64v = Y.map u64v := by simpa using e1
  have hinj : Function.Injective u64v := fun a b hab => by
    unfold u64v at hab
    injection hab with _ h2
    omega
  exact (List.map_inj_right (fun a b hab => hinj hab)).1 e4
open Classical in
/-- how many of a row are not told -/
noncomputable def farN (w : World) (g : Nat) : Nat := if h : ∃ X, RowU w g X then (Classical.choose h).count FAR else 0
theorem farN_eq {w : World} {g : Nat} {X : List Nat} (h : RowU w g X) : farN w g = X.count FAR := by
  unfold farN
  have hx : ∃ X, RowU w g X := ⟨X, h⟩
  rw [dif_pos hx, (Classical.choose_spec hx).uniq h]
def lenV : Value → Nat
  | .slice _ n _ => n
  | _ => 0
theorem far_zero (n s : Nat) (hs : s < n) : ((List.replicate n FAR).set s 0).count FAR + 1 = n := by
  have h := Gr.count_step (List.replicate n FAR) s 0 (by simpa using hs) (by simp [List.getD, hs]) (by decide)
  simpa using h
set_option maxHeartbeats 4000000 in
theorem tfar_ok (t n s : Nat) (nb : Nat → List Nat) (w : World) (hT : TabAt w t n nb) (hn : 1 ≤ n) (hn2 : n ≤ 256) (hs : s < n) (hnb : ∀ a b, b ∈ nb a → b < n) (hq : ∀ u, (nb u).length ≤ 8000) :
    Calls Tryz.prog 34 #[.slice (some ⟨t, 0, none⟩) n n, .int .i64 (s : Int)] w fun e w' => ∃ g X, e = .returned (.slice (some ⟨g, 0, none⟩) n n) ∧ w.heap.size ≤ g ∧ RowU w' g X ∧ Gr.FarRow nb s n X ∧ Fr (fun _ => False) w w' := by
  obtain ⟨i1, hj, hj0, hj1, hj2⟩ := info_parts int_info
  have HT := hide hT
  have HNB := hide hnb
  have HQL := hide hq
  have HFL := hide (fun x w => fill_ok n x hn hn2 w)
  have HST := hide (QInv.start (nb := nb) hs)
  have HZF := hide (far_zero n s hs)
  have s0 : (0 : Int) ≤ (s : Int) := by omega
  have s1 : (s : Int) < (n : Int) := by omega
  clear hT hnb hq
  go_enter Tryz.func34, Tryz.ntmps34
  go_wp2_with fail
  go_at_call 75
  refine (HFL.out 18446744073709551615 _).mono ?_
  rintro e w2 ⟨g, rfl, hg, hrow, hf⟩
  have HR2 : Hid (RowU (w2.setCell ⟨g, s, none⟩ (.int .u64 0)) g ((List.replicate n FAR).set s 0)) := RowU.set hrow s 0
  have HF2 : Hid (Fr (fun _ => False) w (w2.setCell ⟨g, s, none⟩ (.int .u64 0))) := hf.setCell (p := ⟨g, s, none⟩) (.inr hg) (.int .u64 0)
  have lg := hrow.lt
  have hc1 := hrow.cell (i := s) (by simpa using hs)
  have hfz := hrow.frozen s
  have hz2 : (w2.setCell ⟨g, s, none⟩ (.int .u64 0)).heap.size = w2.heap.size := by simp [World.setCell]
  clear hrow hf
  go_wp2_with fail
  clear hc1 hfz
  generalize w2.setCell ⟨g, s, none⟩ (.int .u64 0) = w3 at *
  rw [← hz2] at lg ⊢
  clear hz2
  have HQ4 := hide (QAt.new (lo := w3.heap.size) w3 3 s (Nat.le_refl _))
  have HR4 := hide (HR2.out.fr ((Fr.refl (fun _ => False) w3).alloc (.cells #[.int .i64 (s : Int)] 3)) id)
  have HF4 := hide (HF2.out.alloc (.cells #[.int .i64 (s : Int)] 3))
  have sz4 : (w3.alloc (.cells #[.int .i64 (s : Int)] 3)).heap.size = w3.heap.size + 1 := by simp
  generalize w3.alloc (.cells #[.int .i64 (s : Int)] 3) = w4 at *
  go_loopw [6] (fun qv wr => ∃ (X Q : List Nat) (A : Option Addr) (q c : Nat), qv = .slice A q c ∧ Q.length = q ∧ q ≤ c ∧ X.count FAR + q ≤ n ∧ Hid (RowU wr g X ∧ QInv nb s n X Q ∧ (0 < q → ∃ b o, A = some ⟨b, o, none⟩ ∧ QAt wr w3.heap.size b o q c Q) ∧ Fr (fun _ => False) w wr ∧ w3.heap.size ≤ wr.heap.size)) (fun qv wr => farN wr g + lenV qv)
  case atStart => exact ⟨_, [s], _, 1, 1, rfl, rfl, Nat.le_refl _, by have := HZF.out; omega, HR4.out, HST.out, fun _ => ⟨_, 0, rfl, HQ4.out⟩, HF4.out, by omega⟩
  case round =>
    obtain ⟨X, Q, A, q, c, rfl, hQ, hqc, hcn, HI⟩ := hrel
    cases Q with
    | nil =>
      obtain rfl : 0 = q := hQ
      have HR9 := hide HI.out.1
      have HF9 := hide HI.out.2.2.2.1
      have HD9 := hide (HI.out.2.1.done HNB.out hs)
      go_wp2
      go_ret
      exact ⟨g, X, rfl, hg, HR9.out, HD9.out, HF9.out⟩
    | cons u Q =>
      obtain ⟨q, rfl⟩ : ∃ q', q = q' + 1 := ⟨Q.length, by rw [← hQ]; rfl⟩
      obtain ⟨b, o, rfl, hqa⟩ := HI.out.2.2.1 (by omega)
      have HM0 := hide (farN_eq HI.out.1)
      have hu := hqa.holds 0 u rfl
      rw [Nat.add_zero] at hu
      have hun := HI.out.2.1.head.1
      obtain ⟨A3, c3, hv0, hrd3⟩ := HT.out u hun
      have hv3 := HI.out.2.2.2.1.cell hv0 id
      have HRD := hide hrd3
      have HVN := hide (fun j (hj : j < (nb u).length) => HNB.out u _ (List.getElem_mem hj))
      have HVM := hide (fun j (hj : j < (nb u).length) => List.getElem_mem hj)
      have HTK := hide (fun j (hj : j < (nb u).length) => (List.take_succ_eq_append_getElem hj : (nb u).take (j + 1) = _))
      have HTA := hide (fun (Y : List Nat) (h : ∀ v, v ∈ (nb u).take (nb u).length → Y.getD v 0 ≠ FAR) => (show ∀ v, v ∈ nb u → Y.getD v 0 ≠ FAR by rwa [List.take_of_length_le (Nat.le_refl _)] at h))
      have hqb := HQL.out u
      obtain ⟨ys, hys⟩ : ∃ ys, nb u = ys := ⟨_, rfl⟩
      have HYS := hide hys
      rw [hys] at hv3 HRD HVN HVM HTK HTA hqb
      clear hys hrd3 hv0
      obtain ⟨m, hm⟩ : ∃ m, ys.length = m := ⟨_, rfl⟩
      have HM := hide hm
      rw [hm] at hv3 HRD HTA hqb
      obtain ⟨K, hK⟩ : ∃ K, X.count FAR + (q + 1) = K := ⟨_, rfl⟩
      have e0 : (0 : Int) ≤ (u : Int) := by omega
      have e1 : (u : Int) < (n : Int) := by omega
      have HQA := hide hqa
      clear hm hqa
      generalize hwo : wr = wo at *
      go_wp2_with fail
      go_loopw [6, 31] (fun qv i wr => ∃ (j : Nat) (X Q : List Nat) (b o q c : Nat), j ≤ m ∧ i = .int .i64 (j : Int) ∧ qv = .slice (some ⟨b, o, none⟩) (q + 1) c ∧ q + 1 ≤ c ∧ X.count FAR + (q + 1) = K ∧ Hid (RowU wr g X ∧ QInv nb s n X (u :: Q) ∧ QAt wr w3.heap.size b o (q + 1) c (u :: Q) ∧ (∀ v, v ∈ ys.take j → X.getD v 0 ≠ FAR) ∧ Fr (fun _ => False) w wr ∧ w3.heap.size ≤ wr.heap.size)) (fun _ i _ => m - (intOf i).toNat)
      case atStart => exact ⟨0, X, Q, b, o, q, c, by omega, rfl, rfl, hqc, hK, HI.out.1, HI.out.2.1, HQA.out, fun v hv => by simp at hv, HI.out.2.2.2.1, HI.out.2.2.2.2⟩
      case round =>
        obtain ⟨j, X, Q, b, o, q, c, hjm, rfl, rfl, hqc, hK2, HJ⟩ := hrel
        by_cases hlt : j < m
        · have lj : j < ys.length := by rw [HM.out]; exact hlt
          have HTj := hide (HTK.out j lj)
          have hvn := HVN.out j lj
          have HVj := hide (show ys[j] ∈ nb u by rw [HYS.out]; exact HVM.out j lj)
          obtain ⟨b2, o2, e, hb, hcs⟩ := (HRD.out.up HJ.out.2.2.2.2.1).2 (by omega)
          have hc := hcs j (.int .i64 (ys[j] : Int)) (by rw [ivals, List.getElem?_map, List.getElem?_eq_getElem lj]; rfl)
          subst e
          generalize ys[j]'lj = v at *
          have f0 : (0 : Int) ≤ (j : Int) := by omega
          have f1 : (j : Int) < (m : Int) := by omega
          have f2 : (0 : Int) ≤ (v : Int) := by omega
          have f3 : (v : Int) < (n : Int) := by omega
          have hlX : X.length = n := HJ.out.2.1.len
          have hc1 := HJ.out.1.cell (i := v) (by rw [hlX]; exact hvn)
          clear hcs
          have hgb : g ≠ b := by have := HJ.out.2.2.1.lo; omega
          have hlw := HJ.out.2.2.1.lt
          by_cases hX : X.getD v 0 = FAR
          · have hcX : (18446744073709551615 : Int) = ((X.getD v 0 : Nat) : Int) := by rw [hX]; rfl
            rw [← hcX] at hc1
            have hc2 := HJ.out.1.cell (i := u) (by rw [hlX]; exact hun)
            have hfz := HJ.out.1.frozen v
            have hhd := HJ.out.2.1.head
            have hlu := hhd.2.2.lt HNB.out hs
            have HN1 := hide (HJ.out.2.1.step HNB.out hs hn2 HVj.out hX)
            have HC1 := hide (Gr.count_step X v (X.getD u 0 + 1) (by rw [hlX]; exact hvn) hX (by unfold FAR; omega))
            have HS1 := hide (RowU.set HJ.out.1 v (X.getD u 0 + 1))
            have HG1 := hide (fun i => Gr.getD_set X v (X.getD u 0 + 1) i (by rw [hlX]; exact hvn))
            generalize hy : X.getD u 0 = y at *
            have hv64 : ((y + 1 : Nat) : Int) = (y : Int) + 1 := by omega
            rw [hv64] at HS1
            have HS2 : Hid (RowU (wr.setCell ⟨g, v, none⟩ (.int .u64 ((y : Int) + 1))) g (X.set v (y + 1))) := HS1
            have HFs : Hid (Fr (fun k => k = g) wr (wr.setCell ⟨g, v, none⟩ (.int .u64 ((y : Int) + 1)))) := (Fr.refl (fun k => k = g) wr).setCell (p := ⟨g, v, none⟩) (.inl rfl) _
            have HQs := hide (HJ.out.2.2.1.fr HFs.out (Ne.symm hgb))
            have hqb2 : q + 1 ≤ 100000 := by omega
            have HSZ := hide (show (wr.setCell ⟨g, v, none⟩ (.int .u64 ((y : Int) + 1))).heap.size = wr.heap.size by simp [World.setCell])
            have szs := HFs.out.size
            have szj := HJ.out.2.2.2.2.2
            clear hlX
            go_wp2_with (at_builtin; refine wpList_append_q _ v _ rfl (.tmp 48) (.tmp 50) _ rfl 3 i1 _ Tryz.underlying37 hj hj0 hj1 hj2 rfl w3.heap.size b o (q + 1) c (u :: Q) rfl HQs.out (by rw [HSZ.out]; rfl) hqb2 (Nat.le_trans szj szs) ?_)
            intro b5 o5 c5 w5 hq5 hf5
            have HQ5 := hide hq5
            have HF5 := hide ((HJ.out.2.2.2.2.1.trans HFs.out (fun k h => .inr (by omega))).trans hf5 (fun k h => .inr (by have := HJ.out.2.2.1.lo; omega)))
            have HR5 := hide (HS2.out.fr hf5 hgb)
            have HU5 := hide (show ∀ z, z ∈ ys.take (j + 1) → (X.set v (y + 1)).getD z 0 ≠ FAR from fun z hz => by
              rw [HG1.out]
              by_cases hzv : z = v
              · rw [if_pos hzv]; unfold FAR; omega
              · rw [if_neg hzv]
                rw [HTj.out] at hz
                rcases List.mem_append.1 hz with hz | hz
                · exact HJ.out.2.2.2.1 z hz
                · exact absurd (by simpa using hz) hzv)
            have hc5 := hq5.le
            have sz5 : w3.heap.size ≤ w5.heap.size := Nat.le_trans (Nat.le_trans szj szs) hf5.size
            clear hq5 hf5 hc1 hc2 hfz hc
            go_wp2
            go_roundw
            case rel => exact ⟨j + 1, X.set v (y + 1), Q ++ [v], b5, o5, q + 1, c5, by omega, by go_num, rfl, hc5, by have := HC1.out; omega, HR5.out, HN1.out, HQ5.out, HU5.out, HF5.out, sz5⟩
            case measure => simp [intOf]; omega
          · have hne : ¬ (((X.getD v 0 : Nat) : Int) = 18446744073709551615) := fun h => hX (by unfold FAR; omega)
            have HU5 := hide (show ∀ z, z ∈ ys.take (j + 1) → X.getD z 0 ≠ FAR from fun z hz => by
              rw [HTj.out] at hz
              rcases List.mem_append.1 hz with hz | hz
              · exact HJ.out.2.2.2.1 z hz
              · rw [show z = v by simpa using hz]; exact hX)
            generalize X.getD v 0 = xv at *
            go_wp2
            go_roundw
            case rel => exact ⟨j + 1, X, Q, b, o, q, c, by omega, by go_num, rfl, hqc, hK2, HJ.out.1, HJ.out.2.1, HJ.out.2.2.1, HU5.out, HJ.out.2.2.2.2.1, HJ.out.2.2.2.2.2⟩
            case measure => simp [intOf]; omega
        · obtain rfl : j = m := by omega
          have HP := hide (HJ.out.2.1.pop (by rw [HYS.out]; exact HTA.out X HJ.out.2.2.2.1))
          have HQP := hide HJ.out.2.2.1.pop
          have hlQ : Q.length = q := HQP.out.len
          have HMF := hide (farN_eq HJ.out.1)
          have hm1 : (1 : Int) ≤ ((q + 1 : Nat) : Int) := by omega
          go_wp2
          go_roundw
          case rel => exact ⟨X, Q, _, q, c - 1, rfl, hlQ, by omega, by omega, HJ.out.1, HP.out, fun hq0 => ⟨b, o + 1, if_neg (by omega), HQP.out⟩, HJ.out.2.2.2.2.1, HJ.out.2.2.2.2.2⟩
          case measure => rw [HMF.out, HM0.out]; simp only [lenV]; omega
theorem far_small {nb : Nat → List Nat} {s n : Nat} {X : List Nat} (h : Gr.FarRow nb s n X) (hnb : ∀ a b, b ∈ nb a → b < n) (hs : s < n) (hn : n ≤ 256) : ∀ x, x ∈ X → x = FAR ∨ x < 256 := fun x hx => by
  obtain ⟨v, hv, he⟩ := List.mem_iff_getElem.1 hx
  have hv2 : v < n := by rw [← h.1]; exact hv
  have hg : X.getD v 0 = x := by rw [← he]; simp [List.getD, hv]
  rcases h.2 v hv2 with ⟨d, hd, e⟩ | ⟨_, e⟩
  · have := hd.lt hnb hs
    exact .inr (by omega)
  · exact .inl (by omega)
theorem grt_small {X : List Nat} (h : ∀ x, x ∈ X → x = FAR ∨ x < 256) : Gr.grt X < 256 := by
  rcases Gr.grt_in X 0 with h1 | ⟨h1, h2⟩
  · unfold Gr.grt; rw [h1]; omega
  · rcases h _ h1 with h3 | h3
    · exact absurd h3 h2
    · exact h3
set_option maxHeartbeats 2000000 in
theorem tgreat_ok (g n : Nat) (X : List Nat) (hX : X.length = n) (hn : n ≤ 256) (hb : ∀ x, x ∈ X → x = FAR ∨ x < 256) (w : World) (hr : RowU w g X) :
    Calls Tryz.prog 35 #[.slice (some ⟨g, 0, none⟩) n n] w fun e w' => e = .returned (.int .i64 ((Gr.grt X : Nat) : Int)) ∧ Fr (fun _ => False) w w' := by
  have HR := hide hr
  have HX := hide hX
  have HB := hide hb
  have HS := hide (fun j (hj : j < X.length) => Gr.grt_take_succ X hj)
  have HSM := hide (fun j => grt_small (X := X.take j) (fun x hx => hb x (List.mem_of_mem_take hx)))
  clear hr hX hb
  go_enter Tryz.func35, Tryz.ntmps35
  go_wp2_with fail
  go_loopw [3, 8] (fun mv i wr => ∃ j : Nat, j ≤ n ∧ i = .int .i64 (j : Int) ∧ mv = .int .u64 ((Gr.grt (X.take j) : Nat) : Int) ∧ Hid (Fr (fun _ => False) w wr)) (fun _ i _ => n - (intOf i).toNat)
  case atStart => exact ⟨0, by omega, rfl, by simp [Gr.grt], Fr.refl _ _⟩
  case round =>
    obtain ⟨j, hj, rfl, rfl, HI⟩ := hrel
    have hsm := HSM.out j
    by_cases hlt : j < n
    · have lj : j < X.length := by rw [HX.out]; exact hlt
      have hc := (HR.out.fr HI.out id).cell lj
      have HSj := hide (HS.out j lj)
      have hbj := HB.out _ (List.getElem_mem lj)
      have hgd : X.getD j 0 = X[j] := by simp [List.getD, lj]
      rw [hgd] at hc
      clear hgd
      generalize X[j]'lj = x at *
      generalize hm : Gr.grt (X.take j) = m at *
      have f0 : (0 : Int) ≤ (j : Int) := by omega
      have f1 : (j : Int) < (n : Int) := by omega
      rcases hbj with rfl | hx
      · have HSk := hide (show Gr.grt (X.take (j + 1)) = m by rw [HSj.out, if_pos rfl])
        go_wp2
        go_roundw
        case rel => exact ⟨j + 1, by omega, by go_num, by rw [HSk.out], HI⟩
        case measure => simp [intOf]; omega
      · have HSk := hide (show Gr.grt (X.take (j + 1)) = max m x by rw [HSj.out, if_neg (by unfold FAR; omega)])
        have hne : ¬ ((x : Int) = 18446744073709551615) := by omega
        go_wp2
        go_roundw
        case rel => exact ⟨j + 1, by omega, by go_num, by rw [HSk.out]; go_num, HI⟩
        case measure => simp [intOf]; omega
    · obtain rfl : j = n := by omega
      have HE := hide (show X.take j = X from List.take_of_length_le (by rw [HX.out]; exact Nat.le_refl _))
      rw [HE.out] at hsm ⊢
      obtain ⟨m, hm⟩ : ∃ m, Gr.grt X = m := ⟨_, rfl⟩
      rw [hm] at hsm ⊢
      have HMM := hide hm
      clear hm
      have f5 : IntKind.i64.wrap (m : Int) = (m : Int) := by simp only [IntKind.wrap, IntKind.bits, IntKind.signed]; simp; omega
      go_wp2
      go_ret
      exact ⟨by rw [HMM.out]; rfl, HI.out⟩
end Go.Proofs.YtjdbjahgimlhbaaGreat
end
section
set_option linter.unusedVariables false
namespace Go.Proofs.YtjdbjahgimlhbaaGreat.Gr
open Go.RowKit

/-- the distances up to so many -/
def BRow (nb : Nat → List Nat) (s n r : Nat) (X : List Nat) : Prop := X.length = n ∧ ∀ v, v < n → (∃ d, d ≤ r ∧ Dist nb s v d ∧ X.getD v 0 = d) ∨ (¬ Rch nb s r v ∧ X.getD v 0 = FAR)
/-- what the edges say of a vertex -/
def fromB (r : Nat) (X : List Nat) (L : List T) (v : Nat) : Bool := L.any fun e => decide (e.2.1.toNat = v) && bfs.hitB (r : Int) X e.1.toNat
theorem bfs_get (r : Nat) (X s : List Nat) (e : T) {v : Nat} (hv : v < s.length) : (bfs.step (r : Int) X s e).getD v 0 = if decide (e.2.1.toNat = v) && bfs.hitB (r : Int) X e.1.toNat then min (s.getD v 0) (r + 1) else s.getD v 0 := by
  rw [bfs_step]
  by_cases hh : bfs.hitB (r : Int) X e.1.toNat = true
  · have hx : X.getD e.1.toNat 0 = r := by have : ((X.getD e.1.toNat 0 : Nat) : Int) = (r : Int) := of_decide_eq_true hh; omega
    rw [if_pos hh, upd_get, hh, hx]
    by_cases h : e.2.1.toNat = v
    · simp [h, hv, least]
    · simp [h]
  · rw [if_neg hh]
    simp [hh]
theorem bfs_fold (r : Nat) (X : List Nat) {v : Nat} : ∀ (L : List T) (s : List Nat), v < s.length → (L.foldl (bfs.step (r : Int) X) s).getD v 0 = if fromB r X L v then min (s.getD v 0) (r + 1) else s.getD v 0
  | [], s, _ => rfl
  | e :: L, s, hv => by
    rw [List.foldl_cons, bfs_fold r X L _ (by rw [bfs.step_len]; exact hv), bfs_get r X s e hv]
    unfold fromB
    rw [List.any_cons]
    generalize (decide (e.2.1.toNat = v) && bfs.hitB (r : Int) X e.1.toNat) = a
    generalize (L.any fun e => decide (e.2.1.toNat = v) && bfs.hitB (r : Int) X e.1.toNat) = b
    cases a <;> cases b <;> simp <;> omega
theorem fromB_iff (r : Nat) (X : List Nat) (l : List E) (v : Nat) : fromB r X (flat l) v = true ↔ ∃ u, v ∈ outs l u ∧ X.getD u 0 = r := by
  unfold fromB flat
  rw [List.any_map, List.any_eq_true]
  constructor
  · rintro ⟨⟨a, b⟩, he, h⟩
    have h' : (decide (((b : Int)).toNat = v) && bfs.hitB (r : Int) X ((a : Int)).toNat) = true := h
    rw [Bool.and_eq_true, Int.toNat_natCast, Int.toNat_natCast] at h'
    have h1 : b = v := of_decide_eq_true h'.1
    have h2 : ((X.getD a 0 : Nat) : Int) = (r : Int) := of_decide_eq_true h'.2
    refine ⟨a, ?_, by omega⟩
    rw [outs_mem, ← h1]
    exact he
  · rintro ⟨u, hu, hx⟩
    refine ⟨(u, v), (outs_mem l u v).1 hu, ?_⟩
    simp only [Function.comp, trip, Int.toNat_natCast, bfs.hitB, hx]
    simp
section
variable {l : List E} {n s r : Nat} {X : List Nat}
/-- where a vertex of just that distance leads to it -/
theorem from_dist (hl : ∀ e ∈ l, e.1 < n ∧ e.2 < n) (hn : n ≤ 256) (hs : s < n) (h : BRow (outs l) s n r X) (hr : r ≤ n) {v : Nat} : fromB r X (flat l) v = true ↔ ∃ u, v ∈ outs l u ∧ Dist (outs l) s u r := by
  rw [fromB_iff]
  constructor
  · rintro ⟨u, hu, hx⟩
    have hun : u < n := (hl _ ((outs_mem l u v).1 hu)).1
    rcases h.2 u hun with ⟨d, hd, hD, e⟩ | ⟨_, e⟩
    · rw [hx] at e; subst e; exact ⟨u, hu, hD⟩
    · rw [hx] at e; unfold FAR at e; omega
  · rintro ⟨u, hu, hD⟩
    have hun : u < n := (hl _ ((outs_mem l u v).1 hu)).1
    rcases h.2 u hun with ⟨d, hd, hD', e⟩ | ⟨hno, e⟩
    · have := hD.uniq hD'
      exact ⟨u, hu, by omega⟩
    · exact absurd hD.1 hno
theorem acc_get (hl : ∀ e ∈ l, e.1 < n ∧ e.2 < n) {v : Nat} (hv : v < n) : ((flat l).foldl (bfs.step (r : Int) X) (bfs.bY n)).getD v 0 = if fromB r X (flat l) v then min FAR (r + 1) else FAR := by
  have hY : (bfs.bY n).getD v 0 = FAR := by
    simp only [bfs.bY, List.getD_eq_getElem?_getD, List.getElem?_map]
    rw [List.getElem?_range hv]
    rfl
  rw [bfs_fold r X (flat l) (bfs.bY n) (by simpa [bfs.bY] using hv), hY]
theorem outs_lt (hl : ∀ e ∈ l, e.1 < n ∧ e.2 < n) (a b : Nat) (h : b ∈ outs l a) : b < n := (hl _ ((outs_mem l a b).1 h)).2
theorem brow_next (hl : ∀ e ∈ l, e.1 < n ∧ e.2 < n) (hn : n ≤ 256) (hs : s < n) (h : BRow (outs l) s n r X) (hr : r ≤ n) : BRow (outs l) s n (r + 1) (bfs.cXs 0 X ((flat l).foldl (bfs.step (r : Int) X) (bfs.bY n))) := by
  refine ⟨by simp [bfs.cXs, h.1], fun v hv => ?_⟩
  have e1 : (bfs.cXs 0 X ((flat l).foldl (bfs.step (r : Int) X) (bfs.bY n))).getD v 0 = min (X.getD v 0) (((flat l).foldl (bfs.step (r : Int) X) (bfs.bY n)).getD v 0) := by
    unfold bfs.cXs
    rw [List.getD_eq_getElem?_getD, List.getElem?_map, List.getElem?_range (by rw [h.1]; exact hv)]
    rfl
  rw [e1, acc_get hl hv]
  rcases h.2 v hv with ⟨d, hd, hD, e⟩ | ⟨hno, e⟩
  · refine .inl ⟨d, by omega, hD, ?_⟩
    rw [e]
    unfold FAR
    split <;> omega
  · rw [e]
    by_cases hf : fromB r X (flat l) v = true
    · obtain ⟨u, hu, hD⟩ := (from_dist hl hn hs h hr).1 hf
      refine .inl ⟨r + 1, Nat.le_refl _, ⟨hD.1.step hu, fun j hj hR => hno (hR.mono (by omega))⟩, ?_⟩
      rw [if_pos hf]
      unfold FAR
      omega
    · refine .inr ⟨?_, by rw [if_neg hf]; simp⟩
      intro hR
      obtain ⟨d, hd, hD⟩ := hR.dist
      have hdr : d = r + 1 := by
        rcases Nat.lt_or_ge d (r + 1) with h1 | h1
        · exact absurd (hD.1.mono (by omega)) hno
        · omega
      subst hdr
      obtain ⟨u, hu, hv2⟩ := hD.pred
      exact hf ((from_dist hl hn hs h hr).2 ⟨u, hv2, hu⟩)
theorem bdone (hl : ∀ e ∈ l, e.1 < n ∧ e.2 < n) (hn : n ≤ 256) (hs : s < n) (h : BRow (outs l) s n r X) (hr : r ≤ n) : bfs.cDone 0 X ((flat l).foldl (bfs.step (r : Int) X) (bfs.bY n)) = true ↔ ∀ v, ¬ Dist (outs l) s v (r + 1) := by
  unfold bfs.cDone bfs.cAll
  rw [h.1, List.all_eq_true]
  constructor
  · intro ha v hD
    have hv : v < n := hD.1.lt (outs_lt hl) hs
    have h1 := ha v (List.mem_range.2 hv)
    rw [acc_get hl hv] at h1
    obtain ⟨u, hu, hv2⟩ := hD.pred
    rw [if_pos ((from_dist hl hn hs h hr).2 ⟨u, hv2, hu⟩)] at h1
    rcases h.2 v hv with ⟨d, hd, hD', e⟩ | ⟨_, e⟩
    · have := hD.uniq hD'; omega
    · rw [e] at h1
      unfold bfs.cD FAR at h1
      simp at h1
      omega
  · intro ha v hv
    have hv := List.mem_range.1 hv
    rw [acc_get hl hv]
    by_cases hf : fromB r X (flat l) v = true
    · obtain ⟨u, hu, hD⟩ := (from_dist hl hn hs h hr).1 hf
      rcases h.2 v hv with ⟨d, hd, hD', e⟩ | ⟨hno, e⟩
      · rw [if_pos hf, e]
        unfold bfs.cD FAR
        simp
        omega
      · exact absurd (show Dist (outs l) s v (r + 1) from ⟨hD.1.step hu, fun j hj hR => hno (hR.mono (by omega))⟩) (ha v)
    · rw [if_neg hf]
      rcases h.2 v hv with ⟨d, hd, hD', e⟩ | ⟨hno, e⟩
      · rw [e]
        have := hD'.lt (outs_lt hl) hs
        unfold bfs.cD FAR
        simp
        omega
      · rw [e]
        simp [bfs.cD]
theorem bfs_kst (hl : ∀ e ∈ l, e.1 < n ∧ e.2 < n) (hn : n ≤ 256) (hs : s < n) : ∀ r, r ≤ n + 1 → BRow (outs l) s n r (kst (kdOf 1 s) n [flat l] r).1 ∧ (kst (kdOf 1 s) n [flat l] r).2 = bfs.bY n
  | 0, _ => by
    refine ⟨⟨by simp [kst, kdOf, bfs.bX], fun v hv => ?_⟩, rfl⟩
    have e1 : (kst (kdOf 1 s) n [flat l] 0).1.getD v 0 = bfs.fX (s : Int) v := by
      show (bfs.bX n (s : Int)).getD v 0 = _
      unfold bfs.bX
      rw [List.getD_eq_getElem?_getD, List.getElem?_map, List.getElem?_range hv]
      rfl
    rw [e1]
    by_cases h : v = s
    · subst h
      exact .inl ⟨0, Nat.le_refl _, Dist.self, by simp [bfs.fX]⟩
    · exact .inr ⟨h, by unfold bfs.fX FAR; rw [if_neg (by omega)]⟩
  | r + 1, hr => by
    obtain ⟨h1, h2⟩ := bfs_kst hl hn hs r (by omega)
    have e1 : kst (kdOf 1 s) n [flat l] (r + 1) = (bfs.cXs (s : Int) (kst (kdOf 1 s) n [flat l] r).1 ((flat l).foldl (bfs.step (r : Int) (kst (kdOf 1 s) n [flat l] r).1) (kst (kdOf 1 s) n [flat l] r).2), bfs.cYs (s : Int) (kst (kdOf 1 s) n [flat l] r).1 ((flat l).foldl (bfs.step (r : Int) (kst (kdOf 1 s) n [flat l] r).1) (kst (kdOf 1 s) n [flat l] r).2)) := rfl
    rw [e1, h2]
    refine ⟨brow_next hl hn hs h1 (by omega), ?_⟩
    show bfs.cYs (s : Int) _ _ = _
    unfold bfs.cYs bfs.bY
    rw [h1.1]
    rfl
/-- a row of distances, the greatest of which is G: behind G + 1 rounds it is there -/
theorem bfs_runs (hl : ∀ e ∈ l, e.1 < n ∧ e.2 < n) (hn : n ≤ 256) (hs : s < n) {out : List Nat} (ho : FarRow (outs l) s n out) {G : Nat} (hG : ∃ v, Dist (outs l) s v G) (hG2 : ∀ v d, Dist (outs l) s v d → d ≤ G) :
    kruns 1 s n l = G + 1 ∧ kout 1 s n l = out := by
  have hGn : G < n := by obtain ⟨v, hv⟩ := hG; exact hv.lt (outs_lt hl) hs
  have hd : ∀ r, r ≤ n → (kdn (kdOf 1 s) n [flat l] r = true ↔ ∀ v, ¬ Dist (outs l) s v (r + 1)) := fun r hr => by
    obtain ⟨h1, h2⟩ := bfs_kst hl hn hs r (by omega)
    have e1 : kdn (kdOf 1 s) n [flat l] r = bfs.cDone (s : Int) (kst (kdOf 1 s) n [flat l] r).1 ((flat l).foldl (bfs.step (r : Int) (kst (kdOf 1 s) n [flat l] r).1) (kst (kdOf 1 s) n [flat l] r).2) := rfl
    rw [e1, h2]
    exact bdone hl hn hs h1 hr
  have h1 : kruns 1 s n l = G + 1 := by
    unfold kruns
    refine stop_some (show G < n + 1 by omega) ((hd G (by omega)).2 (fun v hv => by have := hG2 v _ hv; omega)) (fun j hj => ?_)
    obtain ⟨v, hv⟩ := hG
    obtain ⟨u, hu⟩ := hv.level (show j + 1 ≤ G by omega)
    cases hk : kdn (kdOf 1 s) n [flat l] j with
    | false => rfl
    | true => exact absurd hu ((hd j (by omega)).1 hk u)
  refine ⟨h1, ?_⟩
  unfold kout
  rw [h1]
  obtain ⟨h2, _⟩ := bfs_kst hl hn hs (G + 1) (by omega)
  refine row_ext (by rw [h2.1, ho.1]) (fun v hv => ?_)
  rw [h2.1] at hv
  rcases h2.2 v hv with ⟨d, hd, hD, e⟩ | ⟨hno, e⟩
  · rcases ho.2 v hv with ⟨d', hD', e'⟩ | ⟨hno', _⟩
    · rw [e, e', hD.uniq hD']
    · exact absurd hD.1 (hno' d)
  · rcases ho.2 v hv with ⟨d', hD', e'⟩ | ⟨_, e'⟩
    · exact absurd (hD'.1.mono (by have := hG2 v d' hD'; omega)) hno
    · rw [e, e']
end
end Go.Proofs.YtjdbjahgimlhbaaGreat.Gr
end
section
set_option linter.unusedVariables false
namespace Go.Proofs.YtjdbjahgimlhbaaGreat.Gr
open Go.RowKit

theorem alls_symm (l : List E) (a b : Nat) (h : b ∈ alls l a) : a ∈ alls l b := by
  rw [alls_mem] at *
  exact h.symm
theorem alls_lt {l : List E} {n : Nat} (hl : ∀ e ∈ l, e.1 < n ∧ e.2 < n) (a b : Nat) (h : b ∈ alls l a) : b < n := by
  rw [alls_mem] at h
  rcases h with h | h
  · exact (hl _ h).2
  · exact (hl _ h).1
/-- the least vertex from which one is reached within so many steps -/
def LRow (l : List E) (n r : Nat) (X : List Nat) : Prop := X.length = n ∧ ∀ v, v < n → Rch (alls l) (X.getD v 0) r v ∧ ∀ s, Rch (alls l) s r v → X.getD v 0 ≤ s
/-- what a fold of the labels' steps makes of a vertex -/
theorem lab_get (X s : List Nat) (e : T) {v : Nat} (hv : v < s.length) : (labels.step X s e).getD v 0 = min (if e.2.1.toNat = v then min (s.getD v 0) (X.getD e.1.toNat 0) else s.getD v 0) (if e.1.toNat = v then X.getD e.2.1.toNat 0 else s.getD v 0) := by
  rw [labels_step, upd_get, upd_len, upd_get]
  unfold least
  by_cases h1 : e.1.toNat = v <;> by_cases h2 : e.2.1.toNat = v <;> simp only [h1, h2, hv, and_self, and_true, true_and, if_true, if_false, false_and] <;> omega
theorem alls_cons (e : E) (l : List E) (v u : Nat) : u ∈ alls (e :: l) v ↔ (e.1 = v ∧ u = e.2) ∨ (e.2 = v ∧ u = e.1) ∨ u ∈ alls l v := by
  unfold alls
  rw [List.flatMap_cons, List.mem_append, List.mem_append]
  by_cases h1 : e.1 = v <;> by_cases h2 : e.2 = v <;> simp [h1, h2]
theorem lab_fold (X : List Nat) (m : List E) {v : Nat} : ∀ (l : List E) (s : List Nat), v < s.length →
    (((l.map (trip m)).foldl (labels.step X) s).getD v 0 ≤ s.getD v 0 ∧ (∀ u ∈ alls l v, ((l.map (trip m)).foldl (labels.step X) s).getD v 0 ≤ X.getD u 0) ∧ (((l.map (trip m)).foldl (labels.step X) s).getD v 0 = s.getD v 0 ∨ ∃ u ∈ alls l v, ((l.map (trip m)).foldl (labels.step X) s).getD v 0 = X.getD u 0))
  | [], s, _ => ⟨Nat.le_refl _, (fun u hu => by cases hu), .inl rfl⟩
  | e :: l, s, hv => by
    rw [List.map_cons, List.foldl_cons]
    obtain ⟨h1, h2, h3⟩ := lab_fold X m l (labels.step X s (trip m e)) (by rw [labels.step_len]; exact hv)
    have hg := lab_get X s (trip m e) hv
    have e1 : (trip m e).1.toNat = e.1 := by simp [trip]
    have e2 : (trip m e).2.1.toNat = e.2 := by simp [trip]
    rw [e1, e2] at hg
    rw [hg] at h1 h3
    generalize ((l.map (trip m)).foldl (labels.step X) (labels.step X s (trip m e))).getD v 0 = R at *
    generalize s.getD v 0 = sv at *
    refine ⟨?_, fun u hu => ?_, ?_⟩
    · split at h1 <;> split at h1 <;> omega
    · rcases (alls_cons e l v u).1 hu with ⟨a, rfl⟩ | ⟨a, rfl⟩ | hu
      · rw [if_pos a] at h1; omega
      · rw [if_pos a] at h1; omega
      · exact h2 u hu
    · rcases h3 with h3 | ⟨u, hu, h3⟩
      · by_cases a : e.1 = v <;> by_cases b : e.2 = v
        · rw [if_pos a, if_pos b] at h3
          have : R = sv ∨ R = X.getD e.1 0 ∨ R = X.getD e.2 0 := by omega
          rcases this with h | h | h
          · exact .inl h
          · exact .inr ⟨e.1, (alls_cons e l v _).2 (.inr (.inl ⟨b, rfl⟩)), h⟩
          · exact .inr ⟨e.2, (alls_cons e l v _).2 (.inl ⟨a, rfl⟩), h⟩
        · rw [if_pos a, if_neg b] at h3
          have : R = sv ∨ R = X.getD e.2 0 := by omega
          rcases this with h | h
          · exact .inl h
          · exact .inr ⟨e.2, (alls_cons e l v _).2 (.inl ⟨a, rfl⟩), h⟩
        · rw [if_neg a, if_pos b] at h3
          have : R = sv ∨ R = X.getD e.1 0 := by omega
          rcases this with h | h
          · exact .inl h
          · exact .inr ⟨e.1, (alls_cons e l v _).2 (.inr (.inl ⟨b, rfl⟩)), h⟩
        · rw [if_neg a, if_neg b] at h3
          exact .inl (by omega)
      · exact .inr ⟨u, (alls_cons e l v u).2 (.inr (.inr hu)), h3⟩
section
variable {l : List E} {n r : Nat} {X : List Nat}
theorem lrow_next (hl : ∀ e ∈ l, e.1 < n ∧ e.2 < n) (h : LRow l n r X) : LRow l n (r + 1) ((flat l).foldl (labels.step X) X) := by
  refine ⟨by rw [foldl_len (labels.step_len X)]; exact h.1, fun v hv => ?_⟩
  obtain ⟨h1, h2, h3⟩ := lab_fold X l l X (v := v) (by rw [h.1]; exact hv)
  obtain ⟨g1, g2⟩ := h.2 v hv
  unfold flat
  refine ⟨?_, fun s hs => ?_⟩
  · rcases h3 with h3 | ⟨u, hu, h3⟩
    · rw [h3]; exact g1.mono (by omega)
    · rw [h3]
      exact (h.2 u (alls_lt hl v u hu)).1.step (alls_symm l v u hu)
  · rcases hs with hs | ⟨u, hs, hu⟩
    · exact Nat.le_trans h1 (g2 s hs)
    · have hu2 := alls_symm l u v hu
      exact Nat.le_trans (h2 u hu2) ((h.2 u (alls_lt hl v u hu2)).2 s hs)
theorem lab_done (h : X.length = n) (Y : List Nat) : labels.cDone 0 X Y = true ↔ ∀ v, v < n → ¬ Y.getD v 0 < X.getD v 0 := by
  unfold labels.cDone labels.cAll labels.cD
  rw [h, List.all_eq_true]
  constructor
  · intro ha v hv
    have := ha v (List.mem_range.2 hv)
    simpa [-List.getD_eq_getElem?_getD] using this
  · intro ha v hv
    have := ha v (List.mem_range.1 hv)
    simpa [-List.getD_eq_getElem?_getD] using this
theorem lab_kst (hl : ∀ e ∈ l, e.1 < n ∧ e.2 < n) : ∀ r, LRow l n r (kst (kdOf 3 0) n [flat l] r).1 ∧ (kst (kdOf 3 0) n [flat l] r).2 = (kst (kdOf 3 0) n [flat l] r).1
  | 0 => by
    refine ⟨⟨by simp [kst, kdOf, labels.bX], fun v hv => ?_⟩, rfl⟩
    have e1 : (kst (kdOf 3 0) n [flat l] 0).1.getD v 0 = v := by
      show (labels.bX n).getD v 0 = v
      unfold labels.bX
      rw [List.getD_eq_getElem?_getD, List.getElem?_map, List.getElem?_range hv]
      rfl
    rw [e1]
    exact ⟨rfl, fun s hs => by rw [show v = s from hs]; exact Nat.le_refl _⟩
  | r + 1 => by
    obtain ⟨h1, h2⟩ := lab_kst hl r
    have hn := lrow_next hl h1
    generalize hX : (kst (kdOf 3 0) n [flat l] r).1 = X at *
    have e1 : kst (kdOf 3 0) n [flat l] (r + 1) = (labels.cXs 0 X ((flat l).foldl (labels.step X) X), labels.cYs 0 X ((flat l).foldl (labels.step X) X)) := by
      simp only [kst, hX, h2]
      rfl
    have hle : ∀ v, v < n → ((flat l).foldl (labels.step X) X).getD v 0 ≤ X.getD v 0 := fun v hv => by
      have := (lab_fold X l l X (v := v) (by rw [h1.1]; exact hv)).1
      exact this
    have e2 : labels.cXs 0 X ((flat l).foldl (labels.step X) X) = (flat l).foldl (labels.step X) X := by
      refine row_ext (by rw [hn.1]; simp [labels.cXs, h1.1]) (fun v hv => ?_)
      have hv : v < n := by simpa [labels.cXs, h1.1] using hv
      unfold labels.cXs
      rw [List.getD_eq_getElem?_getD, List.getElem?_map, List.getElem?_range (by rw [h1.1]; exact hv)]
      show labels.cX 0 (X.getD v 0) (((flat l).foldl (labels.step X) X).getD v 0) = _
      unfold labels.cX
      have := hle v hv
      omega
    have e3 : labels.cYs 0 X ((flat l).foldl (labels.step X) X) = (flat l).foldl (labels.step X) X := by
      refine row_ext (by rw [hn.1]; simp [labels.cYs, h1.1]) (fun v hv => ?_)
      have hv : v < n := by simpa [labels.cYs, h1.1] using hv
      unfold labels.cYs
      rw [List.getD_eq_getElem?_getD, List.getElem?_map, List.getElem?_range (by rw [h1.1]; exact hv)]
      rfl
    rw [e1, e2, e3]
    exact ⟨hn, rfl⟩
/-- truth's labels: each vertex's is the least that reaches it, `most` is how far that is at most -/
def TLab (l : List E) (n : Nat) (out : List Nat) (most : Nat) : Prop := out.length = n ∧ (∀ v, v < n → (∃ d, d ≤ most ∧ Dist (alls l) (out.getD v 0) v d) ∧ ∀ s r, Rch (alls l) s r v → out.getD v 0 ≤ s) ∧ ∃ v, v < n ∧ Dist (alls l) (out.getD v 0) v most
theorem lab_runs (hl : ∀ e ∈ l, e.1 < n ∧ e.2 < n) {out : List Nat} {most : Nat} (h : TLab l n out most) : kruns 3 0 n l = most + 1 ∧ kout 3 0 n l = out := by
  obtain ⟨hlen, hv, v0, hv0, hD0⟩ := h
  have hsy := alls_symm l
  have hlt := alls_lt hl
  -- the row behind r rounds, where r is at least most
  have same : ∀ r, most ≤ r → (kst (kdOf 3 0) n [flat l] r).1 = out := fun r hr => by
    obtain ⟨h1, _⟩ := lab_kst hl r
    refine row_ext (by rw [h1.1, hlen]) (fun v hvl => ?_)
    rw [h1.1] at hvl
    obtain ⟨⟨d, hd, hD⟩, hmin⟩ := hv v hvl
    obtain ⟨g1, g2⟩ := h1.2 v hvl
    have a := g2 _ (hD.1.mono (show d ≤ r by omega))
    have b := hmin _ _ g1
    omega
  have hdn : ∀ r, kdn (kdOf 3 0) n [flat l] r = labels.cDone 0 (kst (kdOf 3 0) n [flat l] r).1 (kst (kdOf 3 0) n [flat l] (r + 1)).1 := fun r => by
    obtain ⟨h1, h2⟩ := lab_kst hl r
    obtain ⟨_, h4⟩ := lab_kst hl (r + 1)
    have e1 : kdn (kdOf 3 0) n [flat l] r = labels.cDone 0 (kst (kdOf 3 0) n [flat l] r).1 ((flat l).foldl (labels.step (kst (kdOf 3 0) n [flat l] r).1) (kst (kdOf 3 0) n [flat l] r).2) := rfl
    have hn := lrow_next hl h1
    have e3 : (kst (kdOf 3 0) n [flat l] (r + 1)).2 = (flat l).foldl (labels.step (kst (kdOf 3 0) n [flat l] r).1) (kst (kdOf 3 0) n [flat l] r).1 := by
      have : (kst (kdOf 3 0) n [flat l] (r + 1)).2 = labels.cYs 0 (kst (kdOf 3 0) n [flat l] r).1 ((flat l).foldl (labels.step (kst (kdOf 3 0) n [flat l] r).1) (kst (kdOf 3 0) n [flat l] r).2) := rfl
      rw [this, h2]
      refine row_ext (by rw [hn.1]; simp [labels.cYs, h1.1]) (fun v hv => ?_)
      have hv : v < n := by simpa [labels.cYs, h1.1] using hv
      unfold labels.cYs
      rw [List.getD_eq_getElem?_getD, List.getElem?_map, List.getElem?_range (by rw [h1.1]; exact hv)]
      rfl
    rw [e1, h2, ← e3, h4]
  have hmn : most < n := by
    have hs : out.getD v0 0 < n := (hD0.1.symm hsy).lt hlt hv0
    exact hD0.lt hlt hs
  have h1 : kruns 3 0 n l = most + 1 := by
    unfold kruns
    refine stop_some (show most < n + 1 by omega) ?_ (fun r hr => ?_)
    · rw [hdn, same most (Nat.le_refl _), same (most + 1) (by omega), lab_done hlen]
      intro v _
      omega
    · rw [hdn]
      obtain ⟨k1, _⟩ := lab_kst hl r
      obtain ⟨k2, _⟩ := lab_kst hl (r + 1)
      cases hk : labels.cDone 0 (kst (kdOf 3 0) n [flat l] r).1 (kst (kdOf 3 0) n [flat l] (r + 1)).1 with
      | false => rfl
      | true =>
        exfalso
        have hk2 := (lab_done k1.1 _).1 hk
        obtain ⟨w, hw⟩ := hD0.level (show r + 1 ≤ most by omega)
        have hs : out.getD v0 0 < n := (hD0.1.symm hsy).lt hlt hv0
        have hwn : w < n := hw.1.lt hlt hs
        obtain ⟨_, wmin⟩ := hv w hwn
        obtain ⟨_, vmin⟩ := hv v0 hv0
        obtain ⟨⟨dw, _, hDw⟩, _⟩ := hv w hwn
        -- w's label is v0's
        have a1 : out.getD w 0 ≤ out.getD v0 0 := wmin _ _ hw.1
        have a2 : out.getD v0 0 ≤ out.getD w 0 := vmin _ _ (hDw.1.trans ((hw.1.symm hsy).trans hD0.1))
        obtain ⟨g1, g2⟩ := k1.2 w hwn
        obtain ⟨_, g4⟩ := k2.2 w hwn
        have b1 := g4 _ hw.1
        have b2 := wmin _ _ g1
        have b3 : (kst (kdOf 3 0) n [flat l] r).1.getD w 0 ≠ out.getD v0 0 := fun e => by
          rw [e] at g1
          exact hw.2 r (by omega) g1
        have := hk2 w hwn
        omega
  refine ⟨h1, ?_⟩
  unfold kout
  rw [h1]
  exact same (most + 1) (by omega)
end
end Go.Proofs.YtjdbjahgimlhbaaGreat.Gr
end
