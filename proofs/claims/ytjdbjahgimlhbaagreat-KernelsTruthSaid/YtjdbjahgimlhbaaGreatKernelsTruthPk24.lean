/- Parts of the proof of KernelsTruth: no conditions of their own. -/
import Derived.Test.YtjdbjahgimlhbaaGreatKernelsTruthPk22
import Derived.Test.YtjdbjahgimlhbaaGreatKernelsTruthPk23
import Derived.Test.YtjdbjahgimlhbaaGreatKernelsTruthPk19
import Derived.Test.YtjdbjahgimlhbaaGreatKernelsTruthPk4
import Derived.Test.YtjdbjahgimlhbaaGreatKernelsTruthPk20
import Derived.Test.YtjdbjahgimlhbaaGreatKernelsTruthPk21
section
set_option linter.unusedVariables false
set_option maxRecDepth 100000
namespace Go.Proofs.YtjdbjahgimlhbaaGreat
open Go.RowKit
open Gr (E T FAR LInv labF)

theorem alls_lim (l : List E) (h : l.length ≤ 4000) (u : Nat) : (Gr.alls l u).length ≤ 8000 := Nat.le_trans (alls_len_le l u) (by omega)
set_option maxHeartbeats 4000000 in
theorem tlabels_ok (H B o a n : Nat) (l : List E) (w : World) (hG : GAt w H B o a n ((List.range n).map (Gr.outs l)) ((List.range n).map (Gr.alls l))) (hn : 1 ≤ n) (hn2 : n ≤ 256) (hlm : l.length ≤ 4000) (hl : ∀ e ∈ l, e.1 < n ∧ e.2 < n ∧ e.1 ≠ e.2) :
    Calls Tryz.prog 37 #[.agg #[.int .i64 (n : Int), .slice (some ⟨o, 0, none⟩) n n, .slice (some ⟨a, 0, none⟩) n n]] w fun e w' => ∃ (g : Nat) (Y : List Nat) (most : Nat), e = .returned (.tuple #[.slice (some ⟨g, 0, none⟩) n n, .int .i64 (most : Int)]) ∧ w.heap.size ≤ g ∧ RowU w' g Y ∧ Gr.TLab l n Y most ∧ most < 256 ∧ Fr (fun _ => False) w w' := by
  have hl2 : ∀ e ∈ l, e.1 < n ∧ e.2 < n := fun e he => ⟨(hl e he).1, (hl e he).2.1⟩
  obtain ⟨W1, hW1⟩ : ∃ W1, W1 = w.alloc (.cells #[.int .i64 (n : Int), .slice (some ⟨o, 0, none⟩) n n, .slice (some ⟨a, 0, none⟩) n n] 96) := ⟨_, rfl⟩
  have F1 : Fr (fun _ => False) w W1 := by rw [hW1]; exact (Fr.refl _ _).alloc _
  have b1 : Blk W1 w.heap.size 96 #[.int .i64 (n : Int), .slice (some ⟨o, 0, none⟩) n n, .slice (some ⟨a, 0, none⟩) n n] := by rw [hW1]; exact Blk.new _ _ _
  have HB := hide b1
  have HTB := hide (TabAt.alls (hG.up F1))
  have HF1 := hide F1
  have HZ := hide hW1
  have s1 : W1.heap.size = w.heap.size + 1 := by rw [hW1]; simp
  have HFL := hide (fun x w => fill_ok n x hn hn2 w)
  have HNB := hide (fun a b hb => Gr.alls_lt hl2 a b hb)
  have HTF := hide (fun (v : Nat) (hv : v < n) (W : World) (hf : Fr (fun _ => False) W1 W) => tfar_ok a n v (Gr.alls l) W (HTB.out.up hf) hn hn2 hv (fun a b hb => Gr.alls_lt hl2 a b hb) (alls_lim l hlm))
  have HL0 := hide (LInv.start n l)
  have HNX := hide (fun v Y X most (h : LInv l n v Y most) (hv : v < n) (hY : Y.getD v 0 = FAR) (hX : Gr.FarRow (Gr.alls l) v n X) => h.next hl2 hv hn2 hY hX)
  have c0 := (b1.cell 0).trans rfl
  clear hG F1 b1 hl hl2 hW1
  go_enter Tryz.func37, Tryz.ntmps37
  go_wp2_with fail
  rw [← HZ.out]
  go_at_call 75
  refine (HFL.out 18446744073709551615 _).mono ?_
  rintro e w2 ⟨g, rfl, hg, hrow, hf⟩
  have HR2 := hide hrow
  have HF2 := hide hf
  have lg := hrow.lt
  have d0 := ((HB.out.fr hf id).cell 0).trans rfl
  clear hrow hf c0
  go_wp2_with fail
  clear d0
  go_loopw [5, 15] (fun mv i wr => ∃ (v most : Nat) (Y : List Nat), v ≤ n ∧ i = .int .i64 (v : Int) ∧ mv = .int .i64 (most : Int) ∧ most < 256 ∧ Hid (RowU wr g Y ∧ LInv l n v Y most ∧ Fr (fun _ => False) W1 wr)) (fun _ i _ => n - (intOf i).toNat)
  case atStart => exact ⟨0, 0, _, by omega, rfl, rfl, by omega, HR2.out, HL0.out, HF2.out⟩
  case round =>
    obtain ⟨v, most, Y, hv, rfl, rfl, hmost, HI⟩ := hrel
    by_cases hvn : v < n
    · have hlY : Y.length = n := HI.out.2.1.len
      have hc1 := HI.out.1.cell (i := v) (by rw [hlY]; exact hvn)
      have e0 : (0 : Int) ≤ (v : Int) := by omega
      have e1 : (v : Int) < (n : Int) := by omega
      by_cases hY : Y.getD v 0 = FAR
      · have hcY : (18446744073709551615 : Int) = ((Y.getD v 0 : Nat) : Int) := by rw [hY]; rfl
        rw [← hcY] at hc1
        have c2 := ((HB.out.fr HI.out.2.2 id).cell 2).trans rfl
        have HTFv := hide (HTF.out v hvn wr HI.out.2.2)
        have szr := HI.out.2.2.size
        have lgr := HI.out.1.lt
        have HNXv := hide (fun X hX => HNX.out v Y X most HI.out.2.1 hvn hY hX)
        clear hcY
        generalize hwo : wr = wo at *
        go_wp2_with fail
        go_at_call 34
        refine HTFv.out.mono ?_
        rintro e w4 ⟨p, X, rfl, hp, hrow, hfar, hf⟩
        have HX4 := hide hrow
        have HR4 := hide (HI.out.1.fr hf id)
        have HF4 := hide (HI.out.2.2.then_ hf)
        have HN4 := hide (HNXv.out X hfar)
        have HSM := hide (far_small hfar HNB.out hvn hn2)
        have hlX : X.length = n := hfar.1
        have hgp : g ≠ p := by omega
        have sz4 := hf.size
        clear hrow hfar hf c2 hc1
        go_wp2_with fail
        go_loopw [29] (fun i wr => ∃ u : Nat, u ≤ n ∧ i = .int .i64 (u : Int) ∧ Hid (RowU wr g (pre (labF X Y v) u Y) ∧ Fr (fun k => k = g) w4 wr)) (fun i _ => n - (intOf i).toNat)
        case atStart => exact ⟨0, by omega, rfl, by rw [pre_zero]; exact HR4.out, Fr.refl _ _⟩
        case round =>
          obtain ⟨u, hu, rfl, HK⟩ := hrel
          by_cases hun : u < n
          · have hcx := (HX4.out.fr HK.out.2 (Ne.symm hgp)).cell (i := u) (by rw [hlX]; exact hun)
            have hlp : (pre (labF X Y v) u Y).length = n := by rw [pre_len _ (by rw [hlY]; omega)]; exact hlY
            have hcy := HK.out.1.cell (i := u) (by rw [hlp]; exact hun)
            have hfz := HK.out.1.frozen u
            have HST := hide (pre_set (labF X Y v) (k := u) (xs := Y) (by rw [hlY]; exact hun))
            have hgt := pre_get (labF X Y v) (k := u) (xs := Y) (by rw [hlY]; exact hun)
            have f0 : (0 : Int) ≤ (u : Int) := by omega
            have f1 : (u : Int) < (n : Int) := by omega
            by_cases hx : X.getD u 0 = FAR
            · have hcX : (18446744073709551615 : Int) = ((X.getD u 0 : Nat) : Int) := by rw [hx]; rfl
              rw [← hcX] at hcx
              have HRS := hide (show RowU wr g (pre (labF X Y v) (u + 1) Y) by
                have he : labF X Y v u = Y.getD u 0 := by unfold labF; rw [if_pos hx]
                rw [← HST.out, he, ← hgt]
                have : (pre (labF X Y v) u Y).set u ((pre (labF X Y v) u Y).getD u 0) = pre (labF X Y v) u Y := by
                  apply List.ext_getElem?
                  intro j
                  rw [List.getElem?_set]
                  by_cases hju : u = j
                  · subst hju
                    have hl : u < (pre (labF X Y v) u Y).length := by rw [hlp]; exact hun
                    simp [hl, List.getD]
                  · rw [if_neg hju]
                rw [this]
                exact HK.out.1)
              clear hcX hgt hlp hcy
              go_wp2
              go_roundw
              case rel => exact ⟨u + 1, by omega, by go_num, HRS.out, HK.out.2⟩
              case measure => simp [intOf]; omega
            · have hne : ¬ (((X.getD u 0 : Nat) : Int) = 18446744073709551615) := fun h => hx (by unfold FAR; omega)
              have HS2 := hide (RowU.set HK.out.1 u v)
              have HRS := hide (show RowU (wr.setCell ⟨g, u, none⟩ (.int .u64 (v : Int))) g (pre (labF X Y v) (u + 1) Y) by
                have he : labF X Y v u = v := by unfold labF; rw [if_neg hx]
                rw [← HST.out, he]
                exact HS2.out)
              have HFS := hide (HK.out.2.setCell (p := ⟨g, u, none⟩) (.inl rfl) (.int .u64 (v : Int)))
              generalize X.getD u 0 = xv at *
              generalize (pre (labF X Y v) u Y).getD u 0 = yv at *
              have f5 : IntKind.u64.wrap (v : Int) = (v : Int) := by simp only [IntKind.wrap, IntKind.bits, IntKind.signed]; simp; omega
              clear hgt
              go_wp2
              go_roundw
              case rel => exact ⟨u + 1, by omega, by go_num, HRS.out, HFS.out⟩
              case measure => simp [intOf]; omega
          · obtain rfl : u = n := by omega
            have HRN := hide (show RowU wr g ((List.range u).map (labF X Y v)) by rw [← pre_full (labF X Y v) hlY]; exact HK.out.1)
            have HFN := hide (HF4.out.trans HK.out.2 (fun k h => .inr (by omega)))
            have HXN := hide (HX4.out.fr HK.out.2 (Ne.symm hgp))
            have hgs := grt_small HSM.out
            obtain ⟨gx, hgx⟩ : ∃ gx, Gr.grt X = gx := ⟨_, rfl⟩
            rw [hgx] at hgs HN4
            have HGX := hide hgx
            clear hgx
            go_wp2_with fail
            go_at_call 35
            refine (tgreat_ok p u X hlX hn2 HSM.out wr HXN.out).mono ?_
            rintro e w5 ⟨rfl, hf⟩
            rw [HGX.out]
            have HR5 := hide (HRN.out.fr hf id)
            have HF5 := hide (HFN.out.then_ hf)
            clear hf
            go_wp2
            go_roundw
            case rel => exact ⟨v + 1, max most gx, _, by omega, by go_num, by go_num, by omega, HR5.out, HN4.out, HF5.out⟩
            case measure => simp [intOf]; omega
      · have hne : ¬ (((Y.getD v 0 : Nat) : Int) = 18446744073709551615) := fun h => hY (by unfold FAR; omega)
        have HSK := hide (HI.out.2.1.skip hvn hY)
        generalize Y.getD v 0 = yv at *
        go_wp2
        go_roundw
        case rel => exact ⟨v + 1, most, Y, by omega, by go_num, rfl, hmost, HI.out.1, HSK.out, HI.out.2.2⟩
        case measure => simp [intOf]; omega
    · obtain rfl : v = n := by omega
      have HD := hide (HI.out.2.1.done hn)
      go_wp2
      go_ret2
      exact ⟨g, Y, most, rfl, by omega, HI.out.1, HD.out, hmost, HF1.out.trans HI.out.2.2 (fun k h => h.elim)⟩
end Go.Proofs.YtjdbjahgimlhbaaGreat
end
section
set_option linter.unusedVariables false
set_option maxRecDepth 100000
namespace Go.Proofs.YtjdbjahgimlhbaaGreat
open Go.RowKit
open Gr (E T)

set_option maxHeartbeats 4000000 in
theorem trun3 (A : Option Addr) (n m c arg prio : Nat) (need : Int) (l : List E) (w : World) (h : EdgesAt w A l) (hm : l.length = m) (hmx : m ≤ 400) (hs : Gr.Sorted l) (h1 : 1 ≤ n) (h2 : n ≤ 60) (hl : ∀ e ∈ l, e.1 < n ∧ e.2 < n ∧ e.1 ≠ e.2) (hp : prio ≤ 7) (hk : okK 3 arg n) :
    Calls Tryz.prog 24 #[.int .i64 (n : Int), .slice A m c, reqv 3 arg prio need] w fun e w' => ∃ g, e = .returned (.tuple #[.slice (some ⟨g, 0, none⟩) n n, .int .i64 ((kruns 3 arg n l : Nat) : Int), .int .i64 0]) ∧ w.heap.size ≤ g ∧ RowU w' g (kout 3 arg n l) ∧ Fr (fun _ => False) w w' ∧ KEnd 3 arg n l := by
  obtain ⟨W1, hW1⟩ : ∃ W1, W1 = w.alloc (reqc 3 arg prio need) := ⟨_, rfl⟩
  have F1 : Fr (fun _ => False) w W1 := by rw [hW1]; exact (Fr.refl _ _).alloc _
  have b1 : Blk W1 w.heap.size 45 #[.int .i64 3, .int .i64 (arg : Int), .int .i64 (prio : Int), .int .i64 need] := by rw [hW1]; exact Blk.new _ _ _
  have HB := hide b1
  have hE1 := h.up F1
  have HE := hide hE1
  have HF1 := hide F1
  have HZ := hide hW1
  have HNO := hide (tnormal_ok A n m c l W1 hE1 hm (by omega) hs h1 (by omega) hl)
  have HQ := hide (fun (B : Option Addr) (d : Nat) (W : World) (hf : Fr (fun _ => False) W1 W) (h' : EdgesAt W B l) => equal_ok A B m c d l W (hE1.up hf) h' hm (by omega))
  have HCK := hide (fun w => tcheck_ok 3 arg prio n need h1 (by omega) hp hk w)
  have HOF := hide (fun (W : World) (hf : Fr (fun _ => False) W1 W) => trof_ok A n m c l W (hE1.up hf) hm (by omega) h1 (by omega) hl)
  have HL := hide hl
  unfold reqv reqc at *
  clear h F1 hE1 hs b1 hW1
  go_enter Tryz.func24, Tryz.ntmps24
  go_wp2_with fail
  try simp only [show ((3 : Nat) : Int) = 3 from rfl] at HZ
  rw [← HZ.out]
  go_at_call 31
  refine HNO.out.mono ?_
  rintro e w2 ⟨A2, c2, rfl, hE2, hf⟩
  have HE2 := hide hE2
  have HF2 := hide hf
  clear hE2 hf
  go_wp2_with fail
  go_at_call 32
  refine (HQ.out A2 c2 w2 HF2.out HE2.out).mono ?_
  rintro e w3 ⟨rfl, hf⟩
  have HF3 := hide (HF2.out.then_ hf)
  have x0 := ((HB.out.fr HF3.out id).cell 0).trans rfl
  have x1 := ((HB.out.fr HF3.out id).cell 1).trans rfl
  have x2 := ((HB.out.fr HF3.out id).cell 2).trans rfl
  have x3 := ((HB.out.fr HF3.out id).cell 3).trans rfl
  clear hf HE2
  go_wp2_with fail
  go_at_call 17
  refine (HCK.out w3).mono ?_
  rintro e w4 ⟨rfl, hf⟩
  have HF4 := hide (HF3.out.then_ hf)
  clear hf x0 x1 x2 x3
  go_wp2_with fail
  go_at_call 33
  refine (HOF.out w4 HF4.out).mono ?_
  rintro e w5 ⟨H, Bg, o, a, rfl, hG, hf⟩
  obtain ⟨W6, hW6⟩ : ∃ W6, W6 = w5.alloc (.cells #[.int .i64 (n : Int), .slice (some ⟨o, 0, none⟩) n n, .slice (some ⟨a, 0, none⟩) n n] 96) := ⟨_, rfl⟩
  have F6 : Fr (fun _ => False) w5 W6 := by rw [hW6]; exact (Fr.refl _ _).alloc _
  have b6 : Blk W6 w5.heap.size 96 #[.int .i64 (n : Int), .slice (some ⟨o, 0, none⟩) n n, .slice (some ⟨a, 0, none⟩) n n] := by rw [hW6]; exact Blk.new _ _ _
  have HG6 := hide (hG.up F6)
  have HF6 := hide (HF4.out.then_ (hf.then_ F6))
  have HZ6 := hide hW6
  have bq := HB.out.fr HF6.out id
  have HCL := hide (fun W (hf : Fr (fun _ => False) W6 W) => (⟨((bq.fr hf id).cell 0).trans rfl, ((bq.fr hf id).cell 1).trans rfl, ((b6.fr hf id).cell 0).trans rfl, ((b6.fr hf id).cell 1).trans rfl, ((b6.fr hf id).cell 2).trans rfl⟩ :
    W.cell? ⟨w.heap.size, 0, none⟩ = some (.int .i64 3) ∧ W.cell? ⟨w.heap.size, 1, none⟩ = some (.int .i64 (arg : Int)) ∧ W.cell? ⟨w5.heap.size, 0, none⟩ = some (.int .i64 (n : Int)) ∧ W.cell? ⟨w5.heap.size, 1, none⟩ = some (.slice (some ⟨o, 0, none⟩) n n) ∧ W.cell? ⟨w5.heap.size, 2, none⟩ = some (.slice (some ⟨a, 0, none⟩) n n)))
  have x0 : (w5.alloc (.cells #[.int .i64 (n : Int), .slice (some ⟨o, 0, none⟩) n n, .slice (some ⟨a, 0, none⟩) n n] 96)).cell? ⟨w.heap.size, 0, none⟩ = some (.int .i64 3) := by rw [← hW6]; exact (HCL.out W6 (Fr.refl _ _)).1
  clear hG hf F6 b6 bq hW6
  have xs := HCL.out W6 (Fr.refl _ _)
  rw [HZ6.out] at xs
  obtain ⟨y0, y1, y2, y3, y4⟩ := xs
  obtain rfl : arg = 0 := by unfold okK at hk; omega
  have HLL := hide (fun e he => (⟨(HL.out e he).1, (HL.out e he).2.1⟩ : (e : E).1 < n ∧ e.2 < n))
  go_wp2_with fail
  rw [← HZ6.out]
  go_at_call 37
  refine (tlabels_ok H Bg o a n l W6 HG6.out h1 (by omega) (by omega) HL.out).mono ?_
  rintro e w7 ⟨g, Y, most, rfl, hg, hr, hlab, hmost, hf⟩
  have HR7 := hide hr
  have HF7 := hide hf
  have HC7 := hide (Gr.lab_runs HLL.out hlab)
  have HE7 := hide (lab_end HLL.out hlab HC7.out.1)
  clear hr hf y0 y1 y2 y3 y4 hlab
  go_wp2
  go_ret3
  have sz := HF6.out.size
  have sz1 := HF1.out.size
  obtain ⟨r1, r2⟩ := HC7.out
  have he := HE7.out
  exact ⟨g, by rw [r1]; push_cast; rfl, by show w.heap.size ≤ g; have : W6.heap.size ≤ g := hg; omega, by rw [r2]; exact HR7.out, HF1.out.trans (HF6.out.then_ HF7.out) (fun k h => h.elim), he⟩
set_option maxHeartbeats 1600000 in
theorem tof3 (A : Option Addr) (n m c arg prio : Nat) (need : Int) (l : List E) (w : World) (h : EdgesAt w A l) (hm : l.length = m) (hmx : m ≤ 400) (hs : Gr.Sorted l) (h1 : 1 ≤ n) (h2 : n ≤ 60) (hl : ∀ e ∈ l, e.1 < n ∧ e.2 < n ∧ e.1 ≠ e.2) (hp : prio ≤ 7) (hk : okK 3 arg n) :
    Calls Tryz.prog 11 #[.int .i64 (n : Int), .slice A m c, reqv 3 arg prio need] w fun e w' => ∃ g, e = .returned (.tuple #[.slice (some ⟨g, 0, none⟩) n n, .int .i64 0]) ∧ w.heap.size ≤ g ∧ RowU w' g (kout 3 arg n l) ∧ Fr (fun _ => False) w w' ∧ KEnd 3 arg n l := by
  have F1 := hide ((Fr.refl (fun _ => False) w).alloc (reqc 3 arg prio need))
  have HR := hide (fun (W : World) (hf : Fr (fun _ => False) w W) => trun3 A n m c arg prio need l W (h.up hf) hm hmx hs h1 h2 hl hp hk)
  have HZ := hide (show (w.alloc (reqc 3 arg prio need)).heap.size = w.heap.size + 1 by simp)
  clear h hs hl hk
  unfold reqv reqc at *
  go_enter Tryz.func11, Tryz.ntmps11
  go_wp2_with fail
  go_at_call 24
  refine (HR.out _ F1.out).mono ?_
  rintro e w1 ⟨g, rfl, hg, hr, hf, he⟩
  have HB := hide hr
  have HEn := hide he
  have HF := hide (F1.out.then_ hf)
  have hg2 : w.heap.size ≤ g := by have := HZ.out; omega
  clear hr hf hg
  go_wp2
  go_ret2
  exact ⟨g, by first | rfl | trivial, hg2, HB.out, HF.out, HEn.out⟩
set_option maxHeartbeats 1600000 in
theorem trounds3 (A : Option Addr) (n m c arg prio : Nat) (need : Int) (l : List E) (w : World) (h : EdgesAt w A l) (hm : l.length = m) (hmx : m ≤ 400) (hs : Gr.Sorted l) (h1 : 1 ≤ n) (h2 : n ≤ 60) (hl : ∀ e ∈ l, e.1 < n ∧ e.2 < n ∧ e.1 ≠ e.2) (hp : prio ≤ 7) (hk : okK 3 arg n) :
    Calls Tryz.prog 12 #[.int .i64 (n : Int), .slice A m c, reqv 3 arg prio need] w fun e w' => ∃ g, e = .returned (.tuple #[.int .i64 ((kruns 3 arg n l : Nat) : Int), .int .i64 0]) ∧ w.heap.size ≤ g ∧ RowU w' g (kout 3 arg n l) ∧ Fr (fun _ => False) w w' ∧ KEnd 3 arg n l := by
  have F1 := hide ((Fr.refl (fun _ => False) w).alloc (reqc 3 arg prio need))
  have HR := hide (fun (W : World) (hf : Fr (fun _ => False) w W) => trun3 A n m c arg prio need l W (h.up hf) hm hmx hs h1 h2 hl hp hk)
  have HZ := hide (show (w.alloc (reqc 3 arg prio need)).heap.size = w.heap.size + 1 by simp)
  clear h hs hl hk
  unfold reqv reqc at *
  go_enter Tryz.func12, Tryz.ntmps12
  go_wp2_with fail
  go_at_call 24
  refine (HR.out _ F1.out).mono ?_
  rintro e w1 ⟨g, rfl, hg, hr, hf, he⟩
  have HB := hide hr
  have HEn := hide he
  have HF := hide (F1.out.then_ hf)
  have hg2 : w.heap.size ≤ g := by have := HZ.out; omega
  clear hr hf hg
  go_wp2
  go_ret2
  exact ⟨g, by first | rfl | trivial, hg2, HB.out, HF.out, HEn.out⟩
end Go.Proofs.YtjdbjahgimlhbaaGreat
end
section
set_option linter.unusedVariables false
set_option maxRecDepth 100000
namespace Go.Proofs.YtjdbjahgimlhbaaGreat
open Go.RowKit
open Gr (E T)

theorem tof_any (k : Nat) (A : Option Addr) (n m c arg prio : Nat) (need : Int) (l : List E) (w : World) (h : EdgesAt w A l) (hm : l.length = m) (hmx : m ≤ 400) (hs : Gr.Sorted l) (h1 : 1 ≤ n) (h2 : n ≤ 60) (hl : ∀ e ∈ l, e.1 < n ∧ e.2 < n ∧ e.1 ≠ e.2) (hp : prio ≤ 7) (hk : okK k arg n) :
    Calls Tryz.prog 11 #[.int .i64 (n : Int), .slice A m c, reqv k arg prio need] w fun e w' => ∃ g, e = .returned (.tuple #[.slice (some ⟨g, 0, none⟩) n n, .int .i64 0]) ∧ w.heap.size ≤ g ∧ RowU w' g (kout k arg n l) ∧ Fr (fun _ => False) w w' := by
  have hk4 : k = 1 ∨ k = 2 ∨ k = 3 ∨ k = 4 := by unfold okK at hk; omega
  rcases hk4 with rfl | rfl | rfl | rfl
  · exact (tof1 A n m c arg prio need l w h hm hmx hs h1 h2 hl hp hk).mono fun e w' ⟨g, a, b, c, d, _⟩ => ⟨g, a, b, c, d⟩
  · exact tof2 A n m c arg prio need l w h hm hmx hs h1 h2 hl hp hk
  · exact (tof3 A n m c arg prio need l w h hm hmx hs h1 h2 hl hp hk).mono fun e w' ⟨g, a, b, c, d, _⟩ => ⟨g, a, b, c, d⟩
  · exact (tof4 A n m c arg prio need l w h hm hmx hs h1 h2 hl hp hk).mono fun e w' ⟨g, a, b, c, d, _⟩ => ⟨g, a, b, c, d⟩
theorem trounds_any (k : Nat) (A : Option Addr) (n m c arg prio : Nat) (need : Int) (l : List E) (w : World) (h : EdgesAt w A l) (hm : l.length = m) (hmx : m ≤ 400) (hs : Gr.Sorted l) (h1 : 1 ≤ n) (h2 : n ≤ 60) (hl : ∀ e ∈ l, e.1 < n ∧ e.2 < n ∧ e.1 ≠ e.2) (hp : prio ≤ 7) (hk : okK k arg n) :
    Calls Tryz.prog 12 #[.int .i64 (n : Int), .slice A m c, reqv k arg prio need] w fun e w' => ∃ g, e = .returned (.tuple #[.int .i64 ((kruns k arg n l : Nat) : Int), .int .i64 0]) ∧ w.heap.size ≤ g ∧ RowU w' g (kout k arg n l) ∧ Fr (fun _ => False) w w' := by
  have hk4 : k = 1 ∨ k = 2 ∨ k = 3 ∨ k = 4 := by unfold okK at hk; omega
  rcases hk4 with rfl | rfl | rfl | rfl
  · exact (trounds1 A n m c arg prio need l w h hm hmx hs h1 h2 hl hp hk).mono fun e w' ⟨g, a, b, c, d, _⟩ => ⟨g, a, b, c, d⟩
  · exact trounds2 A n m c arg prio need l w h hm hmx hs h1 h2 hl hp hk
  · exact (trounds3 A n m c arg prio need l w h hm hmx hs h1 h2 hl hp hk).mono fun e w' ⟨g, a, b, c, d, _⟩ => ⟨g, a, b, c, d⟩
  · exact (trounds4 A n m c arg prio need l w h hm hmx hs h1 h2 hl hp hk).mono fun e w' ⟨g, a, b, c, d, _⟩ => ⟨g, a, b, c, d⟩
end Go.Proofs.YtjdbjahgimlhbaaGreat
end
