/- Parts of the proof of KernelsTruth: no conditions of their own. -/
import Derived.Test.YtjdbjahgimlhbaaGreatKernelsTruthPk20
import Derived.Test.YtjdbjahgimlhbaaGreatKernelsTruthPk22
import Derived.Test.YtjdbjahgimlhbaaGreatKernelsTruthPk19
import Derived.Test.YtjdbjahgimlhbaaGreatKernelsTruthPk4
import Derived.Test.YtjdbjahgimlhbaaGreatKernelsTruthPk21
section
set_option linter.unusedVariables false
namespace Go.Proofs.YtjdbjahgimlhbaaGreat
open Go.RowKit
open Gr (E T)

theorem stop_found {d : Nat → Bool} {b : Nat} (h : stopAt d b < b) : 1 ≤ stopAt d b ∧ d (stopAt d b - 1) = true := by
  unfold stopAt at *
  cases hf : (List.range b).find? d with
  | none => rw [hf] at h; simp only at h; omega
  | some r =>
    have := (List.find?_range_eq_some (i := r) (p := d)).1 hf
    exact ⟨by simp, by simpa using this.1⟩
theorem KEnd.of_lt {k arg n : Nat} {l : List E} (h : kruns k arg n l < bnd k arg n) : KEnd k arg n l := stop_found h
theorem bfs_end {l : List E} {n s : Nat} (hl : ∀ e ∈ l, e.1 < n ∧ e.2 < n) (hs : s < n) {G : Nat} (hG : ∃ v, Gr.Dist (Gr.outs l) s v G) (h : kruns 1 s n l = G + 1) : KEnd 1 s n l := by
  obtain ⟨v, hv⟩ := hG
  have := hv.lt (Gr.outs_lt hl) hs
  exact KEnd.of_lt (by rw [h]; show G + 1 < n + 1; omega)
theorem lab_end {l : List E} {n most : Nat} {out : List Nat} (hl : ∀ e ∈ l, e.1 < n ∧ e.2 < n) (ht : Gr.TLab l n out most) (h : kruns 3 0 n l = most + 1) : KEnd 3 0 n l := by
  obtain ⟨_, _, v0, hv0, hD0⟩ := ht
  have hs : out.getD v0 0 < n := (hD0.1.symm (Gr.alls_symm l)).lt (Gr.alls_lt hl) hv0
  have := hD0.lt (Gr.alls_lt hl) hs
  exact KEnd.of_lt (by rw [h]; show most + 1 < n + 1; omega)
end Go.Proofs.YtjdbjahgimlhbaaGreat
end
section
set_option linter.unusedVariables false
set_option maxRecDepth 100000
namespace Go.Proofs.YtjdbjahgimlhbaaGreat
open Go.RowKit
open Gr (E T)

set_option maxHeartbeats 4000000 in
theorem trun1 (A : Option Addr) (n m c arg prio : Nat) (need : Int) (l : List E) (w : World) (h : EdgesAt w A l) (hm : l.length = m) (hmx : m ≤ 400) (hs : Gr.Sorted l) (h1 : 1 ≤ n) (h2 : n ≤ 60) (hl : ∀ e ∈ l, e.1 < n ∧ e.2 < n ∧ e.1 ≠ e.2) (hp : prio ≤ 7) (hk : okK 1 arg n) :
    Calls Tryz.prog 24 #[.int .i64 (n : Int), .slice A m c, reqv 1 arg prio need] w fun e w' => ∃ g, e = .returned (.tuple #[.slice (some ⟨g, 0, none⟩) n n, .int .i64 ((kruns 1 arg n l : Nat) : Int), .int .i64 0]) ∧ w.heap.size ≤ g ∧ RowU w' g (kout 1 arg n l) ∧ Fr (fun _ => False) w w' ∧ KEnd 1 arg n l := by
  obtain ⟨W1, hW1⟩ : ∃ W1, W1 = w.alloc (reqc 1 arg prio need) := ⟨_, rfl⟩
  have F1 : Fr (fun _ => False) w W1 := by rw [hW1]; exact (Fr.refl _ _).alloc _
  have b1 : Blk W1 w.heap.size 45 #[.int .i64 1, .int .i64 (arg : Int), .int .i64 (prio : Int), .int .i64 need] := by rw [hW1]; exact Blk.new _ _ _
  have HB := hide b1
  have hE1 := h.up F1
  have HE := hide hE1
  have HF1 := hide F1
  have HZ := hide hW1
  have HNO := hide (tnormal_ok A n m c l W1 hE1 hm (by omega) hs h1 (by omega) hl)
  have HQ := hide (fun (B : Option Addr) (d : Nat) (W : World) (hf : Fr (fun _ => False) W1 W) (h' : EdgesAt W B l) => equal_ok A B m c d l W (hE1.up hf) h' hm (by omega))
  have HCK := hide (fun w => tcheck_ok 1 arg prio n need h1 (by omega) hp hk w)
  have HOF := hide (fun (W : World) (hf : Fr (fun _ => False) W1 W) => trof_ok A n m c l W (hE1.up hf) hm (by omega) h1 (by omega) hl)
  have HL := hide hl
  unfold reqv reqc at *
  clear h F1 hE1 hs b1 hW1
  go_enter Tryz.func24, Tryz.ntmps24
  go_wp2_with fail
  try simp only [show ((1 : Nat) : Int) = 1 from rfl] at HZ
  rw [← HZ.out]
  go_at_call 31
  refine HNO.out.mono ?_
  rintro e w2 ⟨A2, c2, rfl, hE2, hf⟩
  have HE2 := hide hE2
  have HF2 := hide hf
  clear hE2 hf
  go_wp2_with fail
  go_at_call 32
  refine (HQ.out A2 c2 w2 HF2.out HE2.out).mono ?_
  rintro e w3 ⟨rfl, hf⟩
  have HF3 := hide (HF2.out.then_ hf)
  have x0 := ((HB.out.fr HF3.out id).cell 0).trans rfl
  have x1 := ((HB.out.fr HF3.out id).cell 1).trans rfl
  have x2 := ((HB.out.fr HF3.out id).cell 2).trans rfl
  have x3 := ((HB.out.fr HF3.out id).cell 3).trans rfl
  clear hf HE2
  go_wp2_with fail
  go_at_call 17
  refine (HCK.out w3).mono ?_
  rintro e w4 ⟨rfl, hf⟩
  have HF4 := hide (HF3.out.then_ hf)
  clear hf x0 x1 x2 x3
  go_wp2_with fail
  go_at_call 33
  refine (HOF.out w4 HF4.out).mono ?_
  rintro e w5 ⟨H, Bg, o, a, rfl, hG, hf⟩
  obtain ⟨W6, hW6⟩ : ∃ W6, W6 = w5.alloc (.cells #[.int .i64 (n : Int), .slice (some ⟨o, 0, none⟩) n n, .slice (some ⟨a, 0, none⟩) n n] 96) := ⟨_, rfl⟩
  have F6 : Fr (fun _ => False) w5 W6 := by rw [hW6]; exact (Fr.refl _ _).alloc _
  have b6 : Blk W6 w5.heap.size 96 #[.int .i64 (n : Int), .slice (some ⟨o, 0, none⟩) n n, .slice (some ⟨a, 0, none⟩) n n] := by rw [hW6]; exact Blk.new _ _ _
  have HG6 := hide (hG.up F6)
  have HF6 := hide (HF4.out.then_ (hf.then_ F6))
  have HZ6 := hide hW6
  have bq := HB.out.fr HF6.out id
  have HCL := hide (fun W (hf : Fr (fun _ => False) W6 W) => (⟨((bq.fr hf id).cell 0).trans rfl, ((bq.fr hf id).cell 1).trans rfl, ((b6.fr hf id).cell 0).trans rfl, ((b6.fr hf id).cell 1).trans rfl, ((b6.fr hf id).cell 2).trans rfl⟩ :
    W.cell? ⟨w.heap.size, 0, none⟩ = some (.int .i64 1) ∧ W.cell? ⟨w.heap.size, 1, none⟩ = some (.int .i64 (arg : Int)) ∧ W.cell? ⟨w5.heap.size, 0, none⟩ = some (.int .i64 (n : Int)) ∧ W.cell? ⟨w5.heap.size, 1, none⟩ = some (.slice (some ⟨o, 0, none⟩) n n) ∧ W.cell? ⟨w5.heap.size, 2, none⟩ = some (.slice (some ⟨a, 0, none⟩) n n)))
  have x0 : (w5.alloc (.cells #[.int .i64 (n : Int), .slice (some ⟨o, 0, none⟩) n n, .slice (some ⟨a, 0, none⟩) n n] 96)).cell? ⟨w.heap.size, 0, none⟩ = some (.int .i64 1) := by rw [← hW6]; exact (HCL.out W6 (Fr.refl _ _)).1
  clear hG hf F6 b6 bq hW6
  have xs := HCL.out W6 (Fr.refl _ _)
  rw [HZ6.out] at xs
  obtain ⟨y0, y1, y2, y3, y4⟩ := xs
  have hargn : arg < n := by unfold okK at hk; omega
  have HLL := hide (fun e he => (⟨(HL.out e he).1, (HL.out e he).2.1⟩ : (e : E).1 < n ∧ e.2 < n))
  have HOL := hide (fun a b hb => Gr.outs_lt HLL.out a b hb)
  have HTF := hide (tfar_ok o n arg (Gr.outs l) W6 (TabAt.outs HG6.out) h1 (by omega) hargn HOL.out (fun u => Nat.le_trans (outs_len_le l u) (by omega)))
  go_wp2_with fail
  rw [← HZ6.out]
  go_at_call 34
  refine HTF.out.mono ?_
  rintro e w7 ⟨g, X, rfl, hg, hr, hfar, hf⟩
  have HR7 := hide hr
  have HF7 := hide hf
  have lX : X.length = n := hfar.1
  have HG7 := hide (Gr.grt_far hfar HOL.out hargn (by omega))
  have HC7 := hide (Gr.bfs_runs HLL.out (by omega) hargn hfar HG7.out.1 HG7.out.2)
  have HE7 := hide (bfs_end HLL.out hargn HG7.out.1 HC7.out.1)
  have HS7 := hide (far_small hfar HOL.out hargn (by omega))
  have hgs := grt_small HS7.out
  obtain ⟨gx, hgx⟩ : ∃ gx, Gr.grt X = gx := ⟨_, rfl⟩
  have HGX := hide hgx
  rw [hgx] at hgs
  clear hr hf hfar y0 y1 y2 y3 y4 hgx x0
  go_wp2_with fail
  go_at_call 35
  refine (tgreat_ok g n X lX (by omega) HS7.out w7 HR7.out).mono ?_
  rintro e w8 ⟨rfl, hf⟩
  rw [HGX.out]
  have HR8 := hide (HR7.out.fr hf id)
  have HF8 := hide (HF7.out.then_ hf)
  clear hf
  go_wp2
  go_ret3
  have sz := HF6.out.size
  have sz1 := HF1.out.size
  obtain ⟨r1, r2⟩ := HC7.out
  have he := HE7.out
  exact ⟨g, by rw [r1, HGX.out]; push_cast; rfl, by show w.heap.size ≤ g; have : W6.heap.size ≤ g := hg; omega, by rw [r2]; exact HR8.out, HF1.out.trans (HF6.out.then_ HF8.out) (fun k h => h.elim), he⟩
set_option maxHeartbeats 1600000 in
theorem tof1 (A : Option Addr) (n m c arg prio : Nat) (need : Int) (l : List E) (w : World) (h : EdgesAt w A l) (hm : l.length = m) (hmx : m ≤ 400) (hs : Gr.Sorted l) (h1 : 1 ≤ n) (h2 : n ≤ 60) (hl : ∀ e ∈ l, e.1 < n ∧ e.2 < n ∧ e.1 ≠ e.2) (hp : prio ≤ 7) (hk : okK 1 arg n) :
    Calls Tryz.prog 11 #[.int .i64 (n : Int), .slice A m c, reqv 1 arg prio need] w fun e w' => ∃ g, e = .returned (.tuple #[.slice (some ⟨g, 0, none⟩) n n, .int .i64 0]) ∧ w.heap.size ≤ g ∧ RowU w' g (kout 1 arg n l) ∧ Fr (fun _ => False) w w' ∧ KEnd 1 arg n l := by
  have F1 := hide ((Fr.refl (fun _ => False) w).alloc (reqc 1 arg prio need))
  have HR := hide (fun (W : World) (hf : Fr (fun _ => False) w W) => trun1 A n m c arg prio need l W (h.up hf) hm hmx hs h1 h2 hl hp hk)
  have HZ := hide (show (w.alloc (reqc 1 arg prio need)).heap.size = w.heap.size + 1 by simp)
  clear h hs hl hk
  unfold reqv reqc at *
  go_enter Tryz.func11, Tryz.ntmps11
  go_wp2_with fail
  go_at_call 24
  refine (HR.out _ F1.out).mono ?_
  rintro e w1 ⟨g, rfl, hg, hr, hf, he⟩
  have HB := hide hr
  have HEn := hide he
  have HF := hide (F1.out.then_ hf)
  have hg2 : w.heap.size ≤ g := by have := HZ.out; omega
  clear hr hf hg
  go_wp2
  go_ret2
  exact ⟨g, by first | rfl | trivial, hg2, HB.out, HF.out, HEn.out⟩
set_option maxHeartbeats 1600000 in
theorem trounds1 (A : Option Addr) (n m c arg prio : Nat) (need : Int) (l : List E) (w : World) (h : EdgesAt w A l) (hm : l.length = m) (hmx : m ≤ 400) (hs : Gr.Sorted l) (h1 : 1 ≤ n) (h2 : n ≤ 60) (hl : ∀ e ∈ l, e.1 < n ∧ e.2 < n ∧ e.1 ≠ e.2) (hp : prio ≤ 7) (hk : okK 1 arg n) :
    Calls Tryz.prog 12 #[.int .i64 (n : Int), .slice A m c, reqv 1 arg prio need] w fun e w' => ∃ g, e = .returned (.tuple #[.int .i64 ((kruns 1 arg n l : Nat) : Int), .int .i64 0]) ∧ w.heap.size ≤ g ∧ RowU w' g (kout 1 arg n l) ∧ Fr (fun _ => False) w w' ∧ KEnd 1 arg n l := by
  have F1 := hide ((Fr.refl (fun _ => False) w).alloc (reqc 1 arg prio need))
  have HR := hide (fun (W : World) (hf : Fr (fun _ => False) w W) => trun1 A n m c arg prio need l W (h.up hf) hm hmx hs h1 h2 hl hp hk)
  have HZ := hide (show (w.alloc (reqc 1 arg prio need)).heap.size = w.heap.size + 1 by simp)
  clear h hs hl hk
  unfold reqv reqc at *
  go_enter Tryz.func12, Tryz.ntmps12
  go_wp2_with fail
  go_at_call 24
  refine (HR.out _ F1.out).mono ?_
  rintro e w1 ⟨g, rfl, hg, hr, hf, he⟩
  have HB := hide hr
  have HEn := hide he
  have HF := hide (F1.out.then_ hf)
  have hg2 : w.heap.size ≤ g := by have := HZ.out; omega
  clear hr hf hg
  go_wp2
  go_ret2
  exact ⟨g, by first | rfl | trivial, hg2, HB.out, HF.out, HEn.out⟩
end Go.Proofs.YtjdbjahgimlhbaaGreat
end
section
set_option linter.unusedVariables false
namespace Go.Proofs.YtjdbjahgimlhbaaGreat.Gr
open Go.RowKit

/-- behind the first v vertices: who is reached from one of them has his label, the least; how far at most -/
structure LInv (l : List E) (n v : Nat) (Y : List Nat) (most : Nat) : Prop where
  len : Y.length = n
  lab : ∀ u, u < n → Y.getD u 0 ≠ FAR → Y.getD u 0 < v ∧ (∃ d, d ≤ most ∧ Dist (alls l) (Y.getD u 0) u d) ∧ ∀ s r, Rch (alls l) s r u → Y.getD u 0 ≤ s
  all : ∀ u, u < n → ∀ s r, s < v → Rch (alls l) s r u → Y.getD u 0 ≠ FAR
  top : most = 0 ∨ ∃ u, u < n ∧ Y.getD u 0 ≠ FAR ∧ Dist (alls l) (Y.getD u 0) u most
section
variable {l : List E} {n v most : Nat} {Y X : List Nat}
theorem LInv.start (n : Nat) (l : List E) : LInv l n 0 (List.replicate n FAR) 0 := by
  refine ⟨by simp, fun u hu h => absurd (by simp [List.getD, hu]) h, fun u hu s r hs => by omega, .inl rfl⟩
theorem LInv.skip (h : LInv l n v Y most) (hv : v < n) (hY : Y.getD v 0 ≠ FAR) : LInv l n (v + 1) Y most := by
  refine ⟨h.len, fun u hu hX => ?_, fun u hu s r hs hR => ?_, h.top⟩
  · obtain ⟨h1, h2, h3⟩ := h.lab u hu hX
    exact ⟨by omega, h2, h3⟩
  · by_cases hsv : s < v
    · exact h.all u hu s r hsv hR
    · obtain rfl : s = v := by omega
      obtain ⟨h1, ⟨d, _, h2⟩, _⟩ := h.lab s hv hY
      exact h.all u hu _ _ h1 (Rch.trans h2.1 hR)
/-- the labels with those that v reaches -/
def labF (X Y : List Nat) (v : Nat) : Nat → Nat := fun u => if X.getD u 0 = FAR then Y.getD u 0 else v
theorem labF_get {u : Nat} (hu : u < n) : ((List.range n).map (labF X Y v)).getD u 0 = if X.getD u 0 = FAR then Y.getD u 0 else v := by
  rw [List.getD_eq_getElem?_getD, List.getElem?_map, List.getElem?_range hu]; rfl
theorem LInv.next (h : LInv l n v Y most) (hl : ∀ e ∈ l, e.1 < n ∧ e.2 < n) (hv : v < n) (hn : n ≤ 256) (hY : Y.getD v 0 = FAR) (hX : FarRow (alls l) v n X) :
    LInv l n (v + 1) ((List.range n).map (labF X Y v)) (max most (grt X)) := by
  obtain ⟨⟨z, hz⟩, hg⟩ := grt_far hX (fun a b hb => alls_lt hl a b hb) hv hn
  have hvF : v ≠ FAR := by unfold FAR; omega
  -- who v reaches has had no label
  have hnew : ∀ u r, Rch (alls l) v r u → ∀ s q, Rch (alls l) s q u → v ≤ s := fun u r hR s q hS => by
    rcases Nat.lt_or_ge s v with hsv | hsv
    · exact absurd hY (h.all v hv s (q + r) hsv (Rch.trans hS (Rch.symm (fun a b hb => alls_symm l a b hb) hR)))
    · exact hsv
  have hr : ∀ u, u < n → X.getD u 0 ≠ FAR → ∃ d, Dist (alls l) v u d := fun u hu hx => by
    rcases hX.2 u hu with ⟨d, hd, _⟩ | ⟨_, e⟩
    · exact ⟨d, hd⟩
    · exact absurd e hx
  have hf : ∀ u, u < n → ∀ r, Rch (alls l) v r u → X.getD u 0 ≠ FAR := fun u hu r hR => by
    rcases hX.2 u hu with ⟨d, hd, e⟩ | ⟨e, _⟩
    · have := hd.lt (fun a b hb => alls_lt hl a b hb) hv
      rw [e]; unfold FAR; omega
    · exact absurd hR (e r)
  refine ⟨by simp, fun u hu hne => ?_, fun u hu s r hs hR => ?_, ?_⟩
  · rw [labF_get hu] at hne ⊢
    by_cases hx : X.getD u 0 = FAR
    · rw [if_pos hx] at hne ⊢
      obtain ⟨h1, ⟨d, hd, h2⟩, h3⟩ := h.lab u hu hne
      exact ⟨by omega, ⟨d, by omega, h2⟩, h3⟩
    · rw [if_neg hx]
      obtain ⟨d, hd⟩ := hr u hu hx
      exact ⟨by omega, ⟨d, by have := hg u d hd; omega, hd⟩, fun s q hS => hnew u d hd.1 s q hS⟩
  · rw [labF_get hu]
    by_cases hx : X.getD u 0 = FAR
    · rw [if_pos hx]
      by_cases hsv : s < v
      · exact h.all u hu s r hsv hR
      · obtain rfl : s = v := by omega
        exact absurd hx (hf u hu r hR)
    · rw [if_neg hx]; exact hvF
  · by_cases hm : grt X ≤ most
    · rcases h.top with h0 | ⟨u, hu, hne, hD⟩
      · exact .inl (by omega)
      · refine .inr ⟨u, hu, ?_, ?_⟩
        · rw [labF_get hu]
          split
          · exact hne
          · exact hvF
        · rw [labF_get hu, show max most (grt X) = most by omega]
          have hx : X.getD u 0 = FAR := by
            by_cases hx : X.getD u 0 = FAR
            · exact hx
            · obtain ⟨d, hd⟩ := hr u hu hx
              obtain ⟨h1, _, _⟩ := h.lab u hu hne
              have := hnew u d hd.1 _ _ hD.1
              omega
          rw [if_pos hx]
          exact hD
    · refine .inr ⟨z, hz.1.lt (fun a b hb => alls_lt hl a b hb) hv, ?_, ?_⟩
      · rw [labF_get (hz.1.lt (fun a b hb => alls_lt hl a b hb) hv)]
        rw [if_neg (hf z (hz.1.lt (fun a b hb => alls_lt hl a b hb) hv) _ hz.1)]
        exact hvF
      · rw [labF_get (hz.1.lt (fun a b hb => alls_lt hl a b hb) hv), if_neg (hf z (hz.1.lt (fun a b hb => alls_lt hl a b hb) hv) _ hz.1), show max most (grt X) = grt X by omega]
        exact hz
theorem LInv.done (h : LInv l n n Y most) (hn : 1 ≤ n) : TLab l n Y most := by
  have hne : ∀ u, u < n → Y.getD u 0 ≠ FAR := fun u hu => h.all u hu u 0 hu Rch.zero
  refine ⟨h.len, fun u hu => (h.lab u hu (hne u hu)).2, ?_⟩
  rcases h.top with h0 | ⟨u, hu, _, hD⟩
  · refine ⟨0, hn, ?_⟩
    have h1 := (h.lab 0 hn (hne 0 hn)).2.2 0 0 Rch.zero
    rw [show Y.getD 0 0 = 0 by omega, h0]
    exact Dist.self
  · exact ⟨u, hu, hD⟩
end
end Go.Proofs.YtjdbjahgimlhbaaGreat.Gr
end
