/- Parts of the proof of BfsWhole: no conditions of their own. -/
import Derived.Test.YtjdbjahgimlhbaaBfsWholePk0
import Derived.Test.YtjdbjahgimlhbaaWhPk16
import Derived.Test.YtjdbjahgimlhbaaWhPk3
import Derived.Test.YtjdbjahgimlhbaaBfsWholePk1
import Derived.Test.YtjdbjahgimlhbaaWhPk6
import Derived.Test.YtjdbjahgimlhbaaWhPk11
import Derived.Test.YtjdbjahgimlhbaaWhPk17
import Derived.Test.YtjdbjahgimlhbaaWhPk14
section
set_option linter.unusedVariables false
set_option maxRecDepth 100000
namespace Go.Proofs.Ytjdbjahgimlhbaa
open Go.RowKit
open Gr (E T)

set_option maxHeartbeats 4000000 in
theorem trun1 (A : Option Addr) (n m c arg prio : Nat) (need : Int) (l : List E) (w : World) (h : EdgesAt w A l) (hm : l.length = m) (hmx : m ≤ 400) (hs : Gr.Sorted l) (h1 : 1 ≤ n) (h2 : n ≤ 60) (hl : ∀ e ∈ l, e.1 < n ∧ e.2 < n ∧ e.1 ≠ e.2) (hp : prio ≤ 7) (hk : okK 1 arg n) :
    Calls Try.prog 79 #[.int .i64 (n : Int), .slice A m c, reqv 1 arg prio need] w fun e w' => ∃ g, e = .returned (.tuple #[.slice (some ⟨g, 0, none⟩) n n, .int .i64 ((kruns 1 arg n l : Nat) : Int), .int .i64 0]) ∧ w.heap.size ≤ g ∧ RowU w' g (kout 1 arg n l) ∧ Fr (fun _ => False) w w' ∧ KEnd 1 arg n l := by
  obtain ⟨W1, hW1⟩ : ∃ W1, W1 = w.alloc (reqc 1 arg prio need) := ⟨_, rfl⟩
  have F1 : Fr (fun _ => False) w W1 := by rw [hW1]; exact (Fr.refl _ _).alloc _
  have b1 : Blk W1 w.heap.size 76 #[.int .i64 1, .int .i64 (arg : Int), .int .i64 (prio : Int), .int .i64 need] := by rw [hW1]; exact Blk.new _ _ _
  have HB := hide b1
  have hE1 := h.up F1
  have HE := hide hE1
  have HF1 := hide F1
  have HZ := hide hW1
  have HNO := hide (tnormal_ok A n m c l W1 hE1 hm (by omega) hs h1 (by omega) hl)
  have HQ := hide (fun (B : Option Addr) (d : Nat) (W : World) (hf : Fr (fun _ => False) W1 W) (h' : EdgesAt W B l) => equal_ok A B m c d l W (hE1.up hf) h' hm (by omega))
  have HCK := hide (fun w => tcheck_ok 1 arg prio n need h1 (by omega) hp hk w)
  have HOF := hide (fun (W : World) (hf : Fr (fun _ => False) W1 W) => trof_ok A n m c l W (hE1.up hf) hm (by omega) h1 (by omega) hl)
  have HL := hide hl
  unfold reqv reqc at *
  clear h F1 hE1 hs b1 hW1
  go_enter Try.func79, Try.ntmps79
  go_wp2_with fail
  try simp only [show ((1 : Nat) : Int) = 1 from rfl] at HZ
  rw [← HZ.out]
  go_at_call 96
  refine HNO.out.mono ?_
  rintro e w2 ⟨A2, c2, rfl, hE2, hf⟩
  have HE2 := hide hE2
  have HF2 := hide hf
  clear hE2 hf
  go_wp2_with fail
  go_at_call 97
  refine (HQ.out A2 c2 w2 HF2.out HE2.out).mono ?_
  rintro e w3 ⟨rfl, hf⟩
  have HF3 := hide (HF2.out.then_ hf)
  have x0 := ((HB.out.fr HF3.out id).cell 0).trans rfl
  have x1 := ((HB.out.fr HF3.out id).cell 1).trans rfl
  have x2 := ((HB.out.fr HF3.out id).cell 2).trans rfl
  have x3 := ((HB.out.fr HF3.out id).cell 3).trans rfl
  clear hf HE2
  go_wp2_with fail
  go_at_call 76
  refine (HCK.out w3).mono ?_
  rintro e w4 ⟨rfl, hf⟩
  have HF4 := hide (HF3.out.then_ hf)
  clear hf x0 x1 x2 x3
  go_wp2_with fail
  go_at_call 98
  refine (HOF.out w4 HF4.out).mono ?_
  rintro e w5 ⟨H, Bg, o, a, rfl, hG, hf⟩
  obtain ⟨W6, hW6⟩ : ∃ W6, W6 = w5.alloc (.cells #[.int .i64 (n : Int), .slice (some ⟨o, 0, none⟩) n n, .slice (some ⟨a, 0, none⟩) n n] 141) := ⟨_, rfl⟩
  have F6 : Fr (fun _ => False) w5 W6 := by rw [hW6]; exact (Fr.refl _ _).alloc _
  have b6 : Blk W6 w5.heap.size 141 #[.int .i64 (n : Int), .slice (some ⟨o, 0, none⟩) n n, .slice (some ⟨a, 0, none⟩) n n] := by rw [hW6]; exact Blk.new _ _ _
  have HG6 := hide (hG.up F6)
  have HF6 := hide (HF4.out.then_ (hf.then_ F6))
  have HZ6 := hide hW6
  have bq := HB.out.fr HF6.out id
  have HCL := hide (fun W (hf : Fr (fun _ => False) W6 W) => (⟨((bq.fr hf id).cell 0).trans rfl, ((bq.fr hf id).cell 1).trans rfl, ((b6.fr hf id).cell 0).trans rfl, ((b6.fr hf id).cell 1).trans rfl, ((b6.fr hf id).cell 2).trans rfl⟩ :
    W.cell? ⟨w.heap.size, 0, none⟩ = some (.int .i64 1) ∧ W.cell? ⟨w.heap.size, 1, none⟩ = some (.int .i64 (arg : Int)) ∧ W.cell? ⟨w5.heap.size, 0, none⟩ = some (.int .i64 (n : Int)) ∧ W.cell? ⟨w5.heap.size, 1, none⟩ = some (.slice (some ⟨o, 0, none⟩) n n) ∧ W.cell? ⟨w5.heap.size, 2, none⟩ = some (.slice (some ⟨a, 0, none⟩) n n)))
  have x0 : (w5.alloc (.cells #[.int .i64 (n : Int), .slice (some ⟨o, 0, none⟩) n n, .slice (some ⟨a, 0, none⟩) n n] 141)).cell? ⟨w.heap.size, 0, none⟩ = some (.int .i64 1) := by rw [← hW6]; exact (HCL.out W6 (Fr.refl _ _)).1
  clear hG hf F6 b6 bq hW6
  have xs := HCL.out W6 (Fr.refl _ _)
  rw [HZ6.out] at xs
  obtain ⟨y0, y1, y2, y3, y4⟩ := xs
  have hargn : arg < n := by unfold okK at hk; omega
  have HLL := hide (fun e he => (⟨(HL.out e he).1, (HL.out e he).2.1⟩ : (e : E).1 < n ∧ e.2 < n))
  have HOL := hide (fun a b hb => Gr.outs_lt HLL.out a b hb)
  have HTF := hide (tfar_ok o n arg (Gr.outs l) W6 (TabAt.outs HG6.out) h1 (by omega) hargn HOL.out (fun u => Nat.le_trans (outs_len_le l u) (by omega)))
  go_wp2_with fail
  rw [← HZ6.out]
  go_at_call 99
  refine HTF.out.mono ?_
  rintro e w7 ⟨g, X, rfl, hg, hr, hfar, hf⟩
  have HR7 := hide hr
  have HF7 := hide hf
  have lX : X.length = n := hfar.1
  have HG7 := hide (Gr.grt_far hfar HOL.out hargn (by omega))
  have HC7 := hide (Gr.bfs_runs HLL.out (by omega) hargn hfar HG7.out.1 HG7.out.2)
  have HE7 := hide (bfs_end HLL.out hargn HG7.out.1 HC7.out.1)
  have HS7 := hide (far_small hfar HOL.out hargn (by omega))
  have hgs := grt_small HS7.out
  obtain ⟨gx, hgx⟩ : ∃ gx, Gr.grt X = gx := ⟨_, rfl⟩
  have HGX := hide hgx
  rw [hgx] at hgs
  clear hr hf hfar y0 y1 y2 y3 y4 hgx x0
  go_wp2_with fail
  go_at_call 100
  refine (tgreat_ok g n X lX (by omega) HS7.out w7 HR7.out).mono ?_
  rintro e w8 ⟨rfl, hf⟩
  rw [HGX.out]
  have HR8 := hide (HR7.out.fr hf id)
  have HF8 := hide (HF7.out.then_ hf)
  clear hf
  go_wp2
  go_ret3
  have sz := HF6.out.size
  have sz1 := HF1.out.size
  obtain ⟨r1, r2⟩ := HC7.out
  have he := HE7.out
  exact ⟨g, by rw [r1, HGX.out]; push_cast; rfl, by show w.heap.size ≤ g; have : W6.heap.size ≤ g := hg; omega, by rw [r2]; exact HR8.out, HF1.out.trans (HF6.out.then_ HF8.out) (fun k h => h.elim), he⟩
set_option maxHeartbeats 1600000 in
theorem tof1 (A : Option Addr) (n m c arg prio : Nat) (need : Int) (l : List E) (w : World) (h : EdgesAt w A l) (hm : l.length = m) (hmx : m ≤ 400) (hs : Gr.Sorted l) (h1 : 1 ≤ n) (h2 : n ≤ 60) (hl : ∀ e ∈ l, e.1 < n ∧ e.2 < n ∧ e.1 ≠ e.2) (hp : prio ≤ 7) (hk : okK 1 arg n) :
    Calls Try.prog 47 #[.int .i64 (n : Int), .slice A m c, reqv 1 arg prio need] w fun e w' => ∃ g, e = .returned (.tuple #[.slice (some ⟨g, 0, none⟩) n n, .int .i64 0]) ∧ w.heap.size ≤ g ∧ RowU w' g (kout 1 arg n l) ∧ Fr (fun _ => False) w w' ∧ KEnd 1 arg n l := by
  have F1 := hide ((Fr.refl (fun _ => False) w).alloc (reqc 1 arg prio need))
  have HR := hide (fun (W : World) (hf : Fr (fun _ => False) w W) => trun1 A n m c arg prio need l W (h.up hf) hm hmx hs h1 h2 hl hp hk)
  have HZ := hide (show (w.alloc (reqc 1 arg prio need)).heap.size = w.heap.size + 1 by simp)
  clear h hs hl hk
  unfold reqv reqc at *
  go_enter Try.func47, Try.ntmps47
  go_wp2_with fail
  go_at_call 79
  refine (HR.out _ F1.out).mono ?_
  rintro e w1 ⟨g, rfl, hg, hr, hf, he⟩
  have HB := hide hr
  have HEn := hide he
  have HF := hide (F1.out.then_ hf)
  have hg2 : w.heap.size ≤ g := by have := HZ.out; omega
  clear hr hf hg
  go_wp2
  go_ret2
  exact ⟨g, by first | rfl | trivial, hg2, HB.out, HF.out, HEn.out⟩
set_option maxHeartbeats 1600000 in
theorem trounds1 (A : Option Addr) (n m c arg prio : Nat) (need : Int) (l : List E) (w : World) (h : EdgesAt w A l) (hm : l.length = m) (hmx : m ≤ 400) (hs : Gr.Sorted l) (h1 : 1 ≤ n) (h2 : n ≤ 60) (hl : ∀ e ∈ l, e.1 < n ∧ e.2 < n ∧ e.1 ≠ e.2) (hp : prio ≤ 7) (hk : okK 1 arg n) :
    Calls Try.prog 48 #[.int .i64 (n : Int), .slice A m c, reqv 1 arg prio need] w fun e w' => ∃ g, e = .returned (.tuple #[.int .i64 ((kruns 1 arg n l : Nat) : Int), .int .i64 0]) ∧ w.heap.size ≤ g ∧ RowU w' g (kout 1 arg n l) ∧ Fr (fun _ => False) w w' ∧ KEnd 1 arg n l := by
  have F1 := hide ((Fr.refl (fun _ => False) w).alloc (reqc 1 arg prio need))
  have HR := hide (fun (W : World) (hf : Fr (fun _ => False) w W) => trun1 A n m c arg prio need l W (h.up hf) hm hmx hs h1 h2 hl hp hk)
  have HZ := hide (show (w.alloc (reqc 1 arg prio need)).heap.size = w.heap.size + 1 by simp)
  clear h hs hl hk
  unfold reqv reqc at *
  go_enter Try.func48, Try.ntmps48
  go_wp2_with fail
  go_at_call 79
  refine (HR.out _ F1.out).mono ?_
  rintro e w1 ⟨g, rfl, hg, hr, hf, he⟩
  have HB := hide hr
  have HEn := hide he
  have HF := hide (F1.out.then_ hf)
  have hg2 : w.heap.size ≤ g := by have := HZ.out; omega
  clear hr hf hg
  go_wp2
  go_ret2
  exact ⟨g, by first | rfl | trivial, hg2, HB.out, HF.out, HEn.out⟩
end Go.Proofs.Ytjdbjahgimlhbaa
end
section
set_option linter.unusedVariables false
set_option maxRecDepth 100000
namespace Go.Proofs.Ytjdbjahgimlhbaa.k17
open Go.RowKit

set_option maxHeartbeats 8000000 in
theorem ends_true (w : World) : Calls Try.prog 32 #[] w fun e w' => e = .returned (.bool true) ∧ Fr (fun _ => False) w w' := by
  go_enter Try.func32, Try.ntmps32
  go_wp2_with fail
  go_at_call 19
  refine (fresh_any 3 _ (by omega)).mono ?_
  rintro e w1 ⟨pa, ga, pb, gb, rfl, hga, hgb, hT, hf⟩
  have HT := hide hT
  have HF := hide hf
  have la := hT.a.row.lt
  have lb := hT.b.row.lt
  clear hT hf
  go_wp2_with fail
  obtain ⟨W2, hW2⟩ : ∃ W2, W2 = (((w1.alloc (.cells #[.int .i64 1] 3)).alloc (.cells #[.int .i64 2] 3)).alloc (.cells #[.slice (some ⟨w1.heap.size, 0, none⟩) 1 1, .slice (some ⟨w1.heap.size + 1, 0, none⟩) 1 1] 64)).alloc (.cells #[.int .i64 0, .int .i64 2, .slice (some ⟨w1.heap.size + 1 + 1, 0, none⟩) 2 2] 45) := ⟨_, rfl⟩
  rw [← hW2]
  have h4 := four W2 hW2
  have HB := hide h4
  have HT := hide (HT.out.still h4.1)
  have HF0 := hide (HF.out.then_ h4.1)
  have stay : Hid (∀ w', Fr (fun k => k = ga ∨ k = gb) W2 w' → LsAt w' [.slice (some ⟨w1.heap.size, 0, none⟩) 1 1, .slice (some ⟨w1.heap.size + 1, 0, none⟩) 1 1] (some ⟨w1.heap.size + 1 + 1, 0, none⟩) 2 [[1], [2]]) := by
    intro w' hF
    exact ls_two (h4.2.2.2.1.fr hF (by omega)) (h4.2.1.fr hF (by omega)) (h4.2.2.1.fr hF (by omega))
  have cells : Hid (∀ w', Fr (fun k => k = ga ∨ k = gb) W2 w' → w'.cell? ⟨w1.heap.size + 1 + 1 + 1, 0, none⟩ = some (.int .i64 0) ∧ w'.cell? ⟨w1.heap.size + 1 + 1 + 1, 1, none⟩ = some (.int .i64 2) ∧ w'.cell? ⟨w1.heap.size + 1 + 1 + 1, 2, none⟩ = some (.slice (some ⟨w1.heap.size + 1 + 1, 0, none⟩) 2 2)) := by
    intro w' hF
    have h := h4.2.2.2.2.fr hF (by omega)
    exact ⟨(h.cell 0).trans rfl, (h.cell 1).trans rfl, (h.cell 2).trans rfl⟩
  clear hW2 h4 HF HB
  have HF : Hid (Fr (fun k => k = ga ∨ k = gb) W2 W2) := Fr.refl _ _
  go_at_call 33
  refine (bfs.begin_ok HT.out rfl 0 rfl).mono ?_
  rintro e w3 ⟨rfl, hT, hf⟩
  have HT := hide (show TwoAt w3 pa ga pb gb [0, 18446744073709551615, 18446744073709551615] [18446744073709551615, 18446744073709551615, 18446744073709551615] from hT)
  have HF := hide (HF.out.trans hf (fun _ h => .inl h))
  clear hT hf
  obtain ⟨s0, s1, s2⟩ := cells.out _ HF.out
  go_wp2_with fail
  go_at_call 35
  refine (bfs.shard_ok HT.out rfl (fun w' hf => stay.out w' (HF.out.trans hf (fun _ h => .inl (.inr h)))) (by decide +kernel) 0 (by omega) (by omega)).mono ?_
  rintro e w4 ⟨rfl, hT, hf⟩
  have HT := hide (show TwoAt w4 pa ga pb gb [0, 18446744073709551615, 18446744073709551615] [18446744073709551615, 1, 18446744073709551615] from hT)
  have HF := hide (HF.out.trans hf (fun _ h => .inl (.inr h)))
  clear hT hf s0 s1 s2
  go_wp2_with fail
  go_at_call 26
  refine (read_any HT.out.b).mono ?_
  rintro e wR ⟨A1, c1, rfl, hr, hf⟩
  have HR := hide hr
  have HT := hide (HT.out.still hf)
  have HF := hide (HF.out.then_ hf)
  clear hr hf
  go_wp2_with fail
  go_at_call 29
  refine (same_lit A1 _ c1 _ _ _ [18446744073709551615,1,18446744073709551615] _ _ _ rfl HR.out rfl (by simp)).mono ?_
  rintro e wS ⟨rfl, hf⟩
  have HT := hide (HT.out.still hf)
  have HF := hide (HF.out.then_ hf)
  clear hf HR
  simp only [decide_true]
  go_wp2_with fail
  go_at_call 36
  refine (bfs.commit_ok HT.out rfl 0 0).mono ?_
  rintro e w5 ⟨rfl, hT, hf⟩
  have HT := hide (show TwoAt w5 pa ga pb gb [0, 1, 18446744073709551615] [18446744073709551615, 18446744073709551615, 18446744073709551615] from hT)
  have HF := hide (HF.out.trans hf (fun _ h => .inl h))
  clear hT hf
  rw [show bfs.cDone 0 [0, 18446744073709551615, 18446744073709551615] [18446744073709551615, 1, 18446744073709551615] = false from rfl]
  go_wp2_with fail
  go_at_call 26
  refine (read_any HT.out.a).mono ?_
  rintro e wR ⟨A1, c1, rfl, hr, hf⟩
  have HR := hide hr
  have HT := hide (HT.out.still hf)
  have HF := hide (HF.out.then_ hf)
  clear hr hf
  go_wp2_with fail
  go_at_call 29
  refine (same_lit A1 _ c1 _ _ _ [0,1,18446744073709551615] _ _ _ rfl HR.out rfl (by simp)).mono ?_
  rintro e wS ⟨rfl, hf⟩
  have HT := hide (HT.out.still hf)
  have HF := hide (HF.out.then_ hf)
  clear hf HR
  simp only [decide_true]
  obtain ⟨s0, s1, s2⟩ := cells.out _ HF.out
  go_wp2_with fail
  go_at_call 35
  refine (bfs.shard_ok HT.out rfl (fun w' hf => stay.out w' (HF.out.trans hf (fun _ h => .inl (.inr h)))) (by decide +kernel) 1 (by omega) (by omega)).mono ?_
  rintro e w6 ⟨rfl, hT, hf⟩
  have HT := hide (show TwoAt w6 pa ga pb gb [0, 1, 18446744073709551615] [18446744073709551615, 18446744073709551615, 2] from hT)
  have HF := hide (HF.out.trans hf (fun _ h => .inl (.inr h)))
  clear hT hf s0 s1 s2
  go_wp2_with fail
  go_at_call 36
  refine (bfs.commit_ok HT.out rfl 0 1).mono ?_
  rintro e w7 ⟨rfl, hT, hf⟩
  have HT := hide (show TwoAt w7 pa ga pb gb [0, 1, 2] [18446744073709551615, 18446744073709551615, 18446744073709551615] from hT)
  have HF := hide (HF.out.trans hf (fun _ h => .inl h))
  clear hT hf
  rw [show bfs.cDone 0 [0, 1, 18446744073709551615] [18446744073709551615, 18446744073709551615, 2] = false from rfl]
  obtain ⟨s0, s1, s2⟩ := cells.out _ HF.out
  go_wp2_with fail
  go_at_call 35
  refine (bfs.shard_ok HT.out rfl (fun w' hf => stay.out w' (HF.out.trans hf (fun _ h => .inl (.inr h)))) (by decide +kernel) 2 (by omega) (by omega)).mono ?_
  rintro e w8 ⟨rfl, hT, hf⟩
  have HT := hide (show TwoAt w8 pa ga pb gb [0, 1, 2] [18446744073709551615, 18446744073709551615, 18446744073709551615] from hT)
  have HF := hide (HF.out.trans hf (fun _ h => .inl (.inr h)))
  clear hT hf s0 s1 s2
  go_wp2_with fail
  go_at_call 36
  refine (bfs.commit_ok HT.out rfl 0 2).mono ?_
  rintro e w9 ⟨rfl, hT, hf⟩
  have HT := hide (show TwoAt w9 pa ga pb gb [0, 1, 2] [18446744073709551615, 18446744073709551615, 18446744073709551615] from hT)
  have HF := hide (HF.out.trans hf (fun _ h => .inl h))
  clear hT hf
  rw [show bfs.cDone 0 [0, 1, 2] [18446744073709551615, 18446744073709551615, 18446744073709551615] = true from rfl]
  go_wp2_with fail
  go_at_call 26
  refine (read_any HT.out.a).mono ?_
  rintro e wR ⟨A1, c1, rfl, hr, hf⟩
  have HR := hide hr
  have HT := hide (HT.out.still hf)
  have HF := hide (HF.out.then_ hf)
  clear hr hf
  go_wp2_with fail
  go_at_call 29
  refine (same_lit A1 _ c1 _ _ _ [0,1,2] _ _ _ rfl HR.out rfl (by simp)).mono ?_
  rintro e wS ⟨rfl, hf⟩
  have HT := hide (HT.out.still hf)
  have HF := hide (HF.out.then_ hf)
  clear hf HR
  simp only [decide_true]
  go_wp2_with fail
  go_at_call 33
  refine (bfs.begin_bad HT.out 3 rfl).mono ?_
  rintro e w10 ⟨rfl, hf⟩
  have HF := hide (HF0.out.trans (HF.out.then_ hf) (by rintro k (rfl | rfl) <;> exact .inr (by assumption)))
  clear hf
  go_wp2
  go_ret
  exact ⟨rfl, HF.out⟩
end Go.Proofs.Ytjdbjahgimlhbaa.k17
end
section
set_option linter.unusedVariables false
set_option maxRecDepth 100000
namespace Go.Proofs.Ytjdbjahgimlhbaa.bwhole
open Go.RowKit
open Gr (E T)

open whole in
set_option maxHeartbeats 8000000 in
theorem walk (A : Option Addr) (G m c : Nat) (l : List E) (many argt : Nat) (AB : Option Addr) (nB cB : Nat) (AM : Option Addr) (nM cM : Nat) (yb zm : List Nat) (w : World) (h : Reads w w.heap.size 2 A m (gcells l)) (hm : l.length = m) (hm63 : m ≤ 9223372036854775807) (hG : G < 256) (hl : ∀ e ∈ l, e.1 < 256 ∧ e.2 < 256) (hmany : many < 256) (hargt : argt < 256)
    (hrb : Reads w w.heap.size 1 AB nB (yb.map fun x : Nat => .int .u8 (x : Int))) (hyb : ∀ x ∈ yb, x < 256) (hnb : nB ≤ 9223372036854775807) (hrm : Reads w w.heap.size 1 AM nM (zm.map fun x : Nat => .int .u8 (x : Int))) (hzm : ∀ x ∈ zm, x < 256) (hnm : nM ≤ 9223372036854775807) :
    Calls Try.prog 14 #[.agg #[.int .u8 (G : Int), .slice A m c], .agg #[.int .u8 (many : Int), .int .u8 (argt : Int), .slice AB nB cB, .slice AM nM cM]] w fun e w' => e = .returned (.bool true) ∧ Fr (fun _ => False) w w' := by
  have H := hide h
  have HM := hide hm
  have HL := hide hl
  have HRB := hide hrb
  have HYB := hide hyb
  have LB := hide (show yb.length = nB by have := hrb.1; simpa using this)
  clear h hm hl hrb hrm hyb hzm
  have F0 := hide (((Fr.refl (fun _ => False) w).alloc (.cells #[.int .u8 (G : Int), .slice A m c] 24)).alloc (.cells #[.int .u8 (many : Int), .int .u8 (argt : Int), .slice AB nB cB, .slice AM nM cM] 62))
  have BK : Hid (Blk ((w.alloc (.cells #[.int .u8 (G : Int), .slice A m c] 24)).alloc (.cells #[.int .u8 (many : Int), .int .u8 (argt : Int), .slice AB nB cB, .slice AM nM cM] 62)) (w.heap.size + 1) 62 #[.int .u8 (many : Int), .int .u8 (argt : Int), .slice AB nB cB, .slice AM nM cM]) := by
    have := Blk.new (w.alloc (.cells #[.int .u8 (G : Int), .slice A m c] 24)) 62 #[.int .u8 (many : Int), .int .u8 (argt : Int), .slice AB nB cB, .slice AM nM cM]
    unfold Hid
    simpa using this
  have BG := hide ((Blk.new w 24 #[.int .u8 (G : Int), .slice A m c]).alloc (.cells #[.int .u8 (many : Int), .int .u8 (argt : Int), .slice AB nB cB, .slice AM nM cM] 62))
  have hcase : 300 < m ∨ (m ≤ 300 ∧ (decide (50 < nB) || decide (20 < nM)) = true) ∨ (m ≤ 300 ∧ (decide (50 < nB) || decide (20 < nM)) = false) := by
    rcases Nat.lt_or_ge 300 m with h | h
    · exact .inl h
    · cases hd : (decide (50 < nB) || decide (20 < nM))
      · exact .inr (.inr ⟨h, rfl⟩)
      · exact .inr (.inl ⟨h, rfl⟩)
  rcases hcase with hb | ⟨hb, hb2⟩ | ⟨hb, hb2⟩
  · go_enter Try.func14, Try.ntmps14
    go_wp2_with fail
    go_at_call 32
    refine (k17.ends_true _).mono ?_
    rintro e w1 ⟨rfl, hf⟩
    have HF := hide (F0.out.then_ hf)
    clear hf
    go_wp2
    go_ret
    exact ⟨rfl, HF.out⟩
  · go_enter Try.func14, Try.ntmps14
    go_wp2_with fail
    go_at_call 31
    refine (great_any many argt AB nB cB AM nM cM _).mono ?_
    rintro e wg ⟨rfl, hf⟩
    have FG := hide (F0.out.then_ hf)
    have BKg := hide (BK.out.fr hf (fun h => h))
    rw [hb2]
    clear hf
    go_wp2_with fail
    go_at_call 32
    refine (k17.ends_true _).mono ?_
    rintro e w1 ⟨rfl, hf⟩
    have HF := hide (FG.out.then_ hf)
    clear hf
    go_wp2
    go_ret
    exact ⟨rfl, HF.out⟩
  · go_enter Try.func14, Try.ntmps14
    go_wp2_with fail
    go_at_call 31
    refine (great_any many argt AB nB cB AM nM cM _).mono ?_
    rintro e wg ⟨rfl, hf⟩
    have FG := hide (F0.out.then_ hf)
    have BKg := hide (BK.out.fr hf (fun h => h))
    rw [hb2]
    have BGg := hide (BG.out.fr hf (fun h => h))
    have gg0 : wg.cell? ⟨w.heap.size, 0, none⟩ = some (.int .u8 (G : Int)) := (BGg.out.cell 0).trans rfl
    have gg1 : wg.cell? ⟨w.heap.size, 1, none⟩ = some (.slice A m c) := (BGg.out.cell 1).trans rfl
    clear hf
    go_wp2_with fail
    go_at_call 17
    refine (made_any A m c G l _ (H.out.up FG.out) HM.out (by omega) hG HL.out).mono ?_
    rintro e w1 ⟨A1, c1, rfl, hc1, hE, hf⟩
    have HF1 := hide (FG.out.then_ hf)
    have BK1 := hide (BKg.out.fr hf (fun h => h))
    have z0 : w1.cell? ⟨w.heap.size + 1, 0, none⟩ = some (.int .u8 (many : Int)) := (BK1.out.cell 0).trans rfl
    clear gg0 gg1
    have HE := hide hE
    obtain ⟨ok1, ok2, ok3⟩ := madeE_ok G l
    have hn1 : 1 ≤ madeN G := by unfold madeN; omega
    have hn2 : madeN G ≤ 60 := by unfold madeN; omega
    rw [HM.out] at ok3
    clear hf hE
    generalize hNN : madeN G = n at *
    generalize hEE : madeE G l = El at *
    have OK1 := hide ok1
    have OK2 := hide ok2
    obtain ⟨q, hq⟩ : ∃ q, El.length = q := ⟨_, rfl⟩
    have HQ := hide hq
    rw [hq] at ok3 hc1
    rw [hq]
    clear ok1 ok2 hq
    go_wp2_with fail
    obtain ⟨ag, hag⟩ : ∃ ag, argt % n = ag := ⟨_, rfl⟩
    have hag1 : ag < n := by rw [← hag]; exact Nat.mod_lt _ (by omega)
    have hga : (argt : Int) % (n : Int) = (ag : Int) := by rw [← hag]; rfl
    have hn0 : ¬ ((n : Int) = 0) := by omega
    clear hag
    go_at_call 18
    refine (shards_any A1 n q c1 many El _ HE.out HQ.out (by omega) OK1.out hn1 hn2 hmany OK2.out).mono ?_
    rintro e w2 ⟨AS, cS, rfl, hS, hf⟩
    obtain ⟨hs1, hs2, hs3⟩ := shN_ok hn1 many
    generalize shN n many = s at *
    obtain ⟨b, o, rfl, hbK⟩ := hS.addr
    have HS := hide hS
    have HF2 := hide (HF1.out.then_ hf)
    have BK2 := hide (BK1.out.fr hf (fun h => h))
    have HE3 := hide (HE.out.up hf)
    have z1 : w2.cell? ⟨w.heap.size + 1, 1, none⟩ = some (.int .u8 (argt : Int)) := (BK2.out.cell 1).trans rfl
    clear z0
    have hs0 : ((s : Int) == 0) = false := by simp; omega
    clear hS hf
    go_wp2_with fail
    obtain ⟨W3, hW3⟩ : ∃ W3, W3 = w2.alloc (.cells #[.int .i64 1, .int .i64 (ag : Int), .int .i64 0, .int .i64 0] 76) := ⟨_, rfl⟩
    have F3 : Fr (fun _ => False) w2 W3 := by rw [hW3]; exact (Fr.refl _ _).alloc _
    have b3 : Blk W3 w2.heap.size 76 #[.int .i64 1, .int .i64 (ag : Int), .int .i64 0, .int .i64 0] := by rw [hW3]; exact Blk.new _ _ _
    have sz3 : W3.heap.size = w2.heap.size + 1 := by rw [hW3]; simp
    have HTO : Hid (Calls Try.prog 47 #[.int .i64 (n : Int), .slice A1 q c1, .agg #[.int .i64 1, .int .i64 (ag : Int), .int .i64 0, .int .i64 0]] W3 fun e w' => ∃ g, e = .returned (.tuple #[.slice (some ⟨g, 0, none⟩) n n, .int .i64 0]) ∧ W3.heap.size ≤ g ∧ RowU w' g (kout 1 ag n El) ∧ Fr (fun _ => False) W3 w' ∧ KEnd 1 ag n El) :=
      tof1 A1 n q c1 ag 0 0 El W3 ((HE3.out.up F3)) HQ.out (by omega) OK1.out hn1 hn2 OK2.out (by omega) (.inl ⟨rfl, by omega⟩)
    have HTR : Hid (∀ W, Fr (fun _ => False) W3 W → Calls Try.prog 48 #[.int .i64 (n : Int), .slice A1 q c1, .agg #[.int .i64 1, .int .i64 (ag : Int), .int .i64 0, .int .i64 0]] W fun e w' => ∃ g, e = .returned (.tuple #[.int .i64 ((kruns 1 ag n El : Nat) : Int), .int .i64 0]) ∧ W.heap.size ≤ g ∧ RowU w' g (kout 1 ag n El) ∧ Fr (fun _ => False) W w' ∧ KEnd 1 ag n El) :=
      fun W hf => trounds1 A1 n q c1 ag 0 0 El W ((HE3.out.up F3).up hf) HQ.out (by omega) OK1.out hn1 hn2 OK2.out (by omega) (.inl ⟨rfl, by omega⟩)
    have HRB1 := hide (kruns_le 1 ag n El)
    have BR3 := hide b3
    have HFx3 := hide (HF2.out.then_ F3)
    have HS3 := hide (HS.out.fr F3 (fun k h => h.elim))
    have BK3 := hide (BK2.out.fr F3 id)
    have HZ3 := hide hW3
    clear F3 b3 hW3 HS
    rw [← HZ3.out]
    go_at_call 47
    refine HTO.out.mono ?_
    rintro e w4 ⟨gw, rfl, hgw, hrw, hf, hke⟩
    have HRW := hide hrw
    have HKE := hide hke
    have lgw := hrw.lt
    have BR4 := hide (BR3.out.fr hf id)
    have HS4 := hide (HS3.out.fr hf (fun k h => h.elim))
    have BK4 := hide (BK3.out.fr hf id)
    have HF4 := hide (HFx3.out.then_ hf)
    have HTR4 := hide (HTR.out w4 hf)
    have sz4 := hf.size
    have x0 := (BR4.out.cell 0).trans rfl
    have x1 := (BR4.out.cell 1).trans rfl
    have x2 := (BR4.out.cell 2).trans rfl
    have x3 := (BR4.out.cell 3).trans rfl
    clear hrw hf HTO hke HTR
    go_wp2_with fail
    go_at_call 48
    refine HTR4.out.mono ?_
    rintro e w4b ⟨gw2, rfl, hgw2, hrw2, hf, hke⟩
    have HRW4 := hide (HRW.out.fr hf id)
    have BR4b := hide (BR4.out.fr hf id)
    have HS4b := hide (HS4.out.fr hf (fun k h => h.elim))
    have BK4b := hide (BK4.out.fr hf id)
    have HF4b := hide (HF4.out.then_ hf)
    have sz4b := hf.size
    obtain ⟨rr, hrr⟩ : ∃ rr, kruns 1 ag n El = rr := ⟨_, rfl⟩
    have HDN := hide (fun r (hr : r < rr) => (show kdn (kdOf 1 ag) n [Gr.flat El] r = decide (r + 1 = rr) from by
      have := HKE.out.at (r := r) (by omega)
      rw [hrr] at this
      exact this))
    have HKO := hide (show kout 1 ag n El = (kst (kdOf 1 ag) n [Gr.flat El] rr).1 from by unfold kout; rw [hrr])
    have hrb1 : kruns 1 ag n El ≤ n + 1 := HRB1.out
    rw [hrr] at hrb1 ⊢
    clear hrw2 hf hke hrr x0 x1 x2 x3
    go_wp2_with fail
    go_at_call 19
    refine (fresh_any n _ (by omega)).mono ?_
    rintro e w5 ⟨pa, ga, pb, gb, rfl, hga5, hgb5, hT, hf⟩
    have HT5 := hide hT
    have la := hT.a.row.lt
    have lb := hT.b.row.lt
    have BR5 := hide (BR4b.out.fr hf id)
    have HS5 := hide (HS4b.out.fr hf (fun k h => h.elim))
    have BK5 := hide (BK4b.out.fr hf id)
    have HRW5 := hide (HRW4.out.fr hf id)
    have HF5 := hide (HF4b.out.then_ hf)
    have sz5 := hf.size
    have r1 : w5.cell? ⟨w2.heap.size, 1, none⟩ = some (.int .i64 (ag : Int)) := (BR5.out.cell 1).trans rfl
    clear hT hf
    go_wp2_with fail
    go_at_call 33
    refine (bfs.begin_ok HT5.out (may_n hn1 (by omega) (by simp) (by simp)) (ag : Int) (by simp [bfs.okArg]; omega)).mono ?_
    rintro e w6 ⟨rfl, hT, hf⟩
    rw [List.length_replicate] at hT
    have HT6 := hide (show TwoAt w6 pa ga pb gb (kst (kdOf 1 ag) n [Gr.flat El] 0).1 (kst (kdOf 1 ag) n [Gr.flat El] 0).2 from hT)
    have HG6 := hide hf
    have BR6 := hide (BR5.out.fr hf (by omega))
    have HS6 := hide (HS5.out.fr hf (fun k h => by omega))
    have BK6 := hide (BK5.out.fr hf (by have := BK2.out.lt; omega))
    have HRW6 := hide (HRW5.out.fr hf (by omega))
    have HF6 := hide (HF5.out.trans hf (fun k h => .inr (by have := HF5.out.size; have := HF4.out.size; omega)))
    have sz6 := hf.size
    have z2 : w6.cell? ⟨w.heap.size + 1, 2, none⟩ = some (.slice AB nB cB) := (BK6.out.cell 2).trans rfl
    clear hT hf r1
    go_wp2_with fail
    go_at_call 34
    refine (order_any AB s nB cB yb _ (HRB.out.up HF6.out) LB.out hs3 HYB.out hnb).mono ?_
    rintro e w7 ⟨Ao, co, rfl, hro, hf⟩
    have HOP := hide (Gr.order_perm s yb)
    have HOL := Gr.order_len s yb
    have HOlt := hide (Gr.order_lt s yb)
    generalize Gr.order s yb = OL at *
    have HT7 := hide (HT6.out.still hf)
    have HRO := hide hro
    have BR7 := hide (BR6.out.fr hf id)
    have HS7 := hide (HS6.out.fr hf (fun k h => h.elim))
    have HRW7 := hide (HRW6.out.fr hf id)
    have HF7 := hide (HF6.out.then_ hf)
    have sz7 := hf.size
    clear hro hf z2 BK6 BK5 BK4b BK4 BK3 HT6 HT5
    obtain ⟨bo, oo, rfl, _⟩ := HRO.out.2 (by omega)
    have HCO := hide (fun j (hj : j < s) (S : Nat → Prop) W (hf : Fr S w7 W) (hS : ∀ k, S k → k < w6.heap.size) => (show W.cell? ⟨bo, oo + j, none⟩ = some (.int .i64 ((OL.getD j 0 : Nat) : Int)) by
      obtain ⟨b', o', e, hlo, hb', hc⟩ := (HRO.out.fr hf hS).2 (by omega)
      injection e with e
      injection e with e1 e2
      subst e1
      subst e2
      refine hc j _ ?_
      simp [ivals, List.getD, show j < OL.length by omega]))
    go_wp2_with fail
    go_loopw [16] (fun i wr => ∃ r : Nat, r ≤ rr ∧ i = .int .i64 (r : Int) ∧ Hid (TwoAt wr pa ga pb gb (kst (kdOf 1 ag) n [Gr.flat El] r).1 (kst (kdOf 1 ag) n [Gr.flat El] r).2 ∧ Fr (fun k => k = ga ∨ k = gb) w7 wr)) (fun i _ => rr - (intOf i).toNat)
    case atStart => exact ⟨0, by omega, rfl, HT7.out, Fr.refl _ _⟩
    case round =>
      obtain ⟨r, hr, rfl, HI⟩ := hrel
      have cr1 : wr.cell? ⟨w2.heap.size, 1, none⟩ = some (.int .i64 (ag : Int)) := ((BR7.out.fr HI.out.2 (by omega)).cell 1).trans rfl
      obtain ⟨lx, ly⟩ := kst_len (kd_good 1 ag) n [Gr.flat El] r
      by_cases hlt : r < rr
      · have HNX := hide (show kst (kdOf 1 ag) n [Gr.flat El] (r + 1) = (bfs.cXs (ag : Int) (kst (kdOf 1 ag) n [Gr.flat El] r).1 ((Gr.flat El).foldl (bfs.step (r : Int) (kst (kdOf 1 ag) n [Gr.flat El] r).1) (kst (kdOf 1 ag) n [Gr.flat El] r).2), bfs.cYs (ag : Int) (kst (kdOf 1 ag) n [Gr.flat El] r).1 ((Gr.flat El).foldl (bfs.step (r : Int) (kst (kdOf 1 ag) n [Gr.flat El] r).1) (kst (kdOf 1 ag) n [Gr.flat El] r).2)) from rfl)
        have HDR := hide (show bfs.cDone (ag : Int) (kst (kdOf 1 ag) n [Gr.flat El] r).1 ((Gr.flat El).foldl (bfs.step (r : Int) (kst (kdOf 1 ag) n [Gr.flat El] r).1) (kst (kdOf 1 ag) n [Gr.flat El] r).2) = decide (r + 1 = rr) from HDN.out r hlt)
        generalize (kst (kdOf 1 ag) n [Gr.flat El] r).1 = xs at *
        generalize (kst (kdOf 1 ag) n [Gr.flat El] r).2 = ys at *
        generalize hwo : wr = wo at *
        have hd4 : decide ((r : Int) < (rr : Int)) = true := by simp; omega
        have hd5 : decide (r < rr) = true := by simp; omega
        go_wp2_with fail
        try simp only [hd4, hd5]
        go_loopw [17] (fun i wr => ∃ j : Nat, j ≤ s ∧ i = .int .i64 j ∧ Hid (TwoAt wr pa ga pb gb xs (accL (bfs.step (r : Int) xs) El n s ys (OL.take j)) ∧ Fr (fun k => k = gb) wo wr)) (fun i _ => s - (intOf i).toNat)
        case atStart => exact ⟨0, by omega, rfl, by simpa [accL] using HI.out.1, Fr.refl _ _⟩
        case round =>
          obtain ⟨j, hj, rfl, HJ⟩ := hrel
          have HFw := hide (HI.out.2.trans HJ.out.2 (fun k h => .inl (.inr h)))
          by_cases hjs : j < s
          · have HSr := hide (HS7.out.fr HFw.out (fun k h => by omega))
            have HFT := hide (fun i (hi : i < s) => Gr.shard_fits El n s i (by omega) hi (fun e he => (OK2.out e he).2.1))
            have lA : (accL (bfs.step (r : Int) xs) El n s ys (OL.take j)).length = n := by rw [accL_len _ (bfs.step_len (r : Int) xs)]; exact ly
            have lj : j < OL.length := by omega
            have HTK := hide (accL_take (bfs.step (r : Int) xs) El n s ys OL lj)
            have holt := HOlt.out _ (List.getElem_mem lj)
            have hgd : OL.getD j 0 = OL[j] := by simp [List.getD, lj]
            have c8 := HCO.out j hjs _ wr HFw.out (fun k h => by omega)
            rw [hgd] at c8
            clear hgd
            generalize OL[j]'lj = oj at *
            obtain ⟨Aj, vs2, q0, q1, q2, hst2⟩ := HSr.out.at holt
            have HST2 := hide hst2
            have bo0 : (0 : Int) ≤ (oj : Int) := by omega
            have bo1 : (oj : Int) < (s : Int) := by omega
            have hcut := Gr.cut_le (n := n) (s := s) (k := oj + 1) (by omega) (by omega)
            clear hst2
            go_wp2_with fail
            go_at_call 35
            refine (bfs.shard_ok HJ.out.1 (may_n hn1 (by omega) lx lA) (fun w' hf => HST2.out _ w' hf (fun k h => by omega)) (by rw [lx]; exact HFT.out oj holt) (r : Int) (by omega) (by omega)).mono ?_
            rintro e w8 ⟨rfl, hT, hf⟩
            have H8 := hide (show TwoAt w8 pa ga pb gb xs (accL (bfs.step (r : Int) xs) El n s ys (OL.take (j + 1))) by rw [HTK.out]; exact hT)
            have HF8 := hide (HJ.out.2.trans hf (fun k h => .inl h))
            clear hT hf q0 q1 q2 c8
            go_wp2
            try simp only [hd4, hd5]
            go_roundw
            case rel => exact ⟨j + 1, by omega, by go_num, H8.out, HF8.out⟩
            case measure => simp [intOf]; omega
          · obtain rfl : j = s := by omega
            have hto : OL.take j = OL := List.take_of_length_le (by omega)
            have hAl := accL_all (bfs.step (r : Int) xs) (Gr.bfs_comm (r : Int) xs) El n j (by omega) (fun e he => (OK2.out e he).1) ys OL HOP.out
            have HK := HJ.out.1
            rw [hto, hAl] at HK
            have HT6 := hide HK
            have lA : ((Gr.flat El).foldl (bfs.step (r : Int) xs) ys).length = n := by rw [foldl_len (bfs.step_len (r : Int) xs)]; exact ly
            have cr2 : wr.cell? ⟨w2.heap.size, 1, none⟩ = some (.int .i64 (ag : Int)) := ((BR7.out.fr HFw.out (by omega)).cell 1).trans rfl
            generalize (Gr.flat El).foldl (bfs.step (r : Int) xs) ys = ac at *
            clear hto hAl HK HJ
            have HCM := hide (bfs.commit_ok HT6.out (may_n hn1 (by omega) lx lA) (ag : Int) (r : Int))
            obtain ⟨dv, hdv⟩ : ∃ dv, decide (r + 1 = rr) = dv := ⟨_, rfl⟩
            rw [HDR.out, hdv] at HCM
            have hd1 : decide ((rr : Int) ≤ (r : Int) + 1) = dv := by rw [← hdv, decide_eq_decide]; omega
            have hd2 : ((r : Int) == (rr : Int) - 1) = dv := by
              rw [← hdv, Bool.eq_iff_iff]; simp; omega
            have hd3 : decide ((r : Int) + 1 = (rr : Int)) = dv := by rw [← hdv, decide_eq_decide]; omega
            have hd6 : decide ((r : Int) = (rr : Int) - 1) = dv := by rw [← hdv, decide_eq_decide]; omega
            have hdd : (dv != dv) = false := by simp
            have hw1 : IntKind.i64.wrap ((rr : Int) - 1) = (rr : Int) - 1 := by simp only [IntKind.wrap, IntKind.bits, IntKind.signed]; simp; omega
            clear hdv hd1
            go_wp2_with fail
            go_at_call 36
            refine HCM.out.mono ?_
            rintro e w8 ⟨rfl, hT, hf⟩
            have HT8 := hide hT
            have HF8 := hide (HFw.out.trans hf (fun k h => .inl h))
            have cr3 : w8.cell? ⟨w2.heap.size, 1, none⟩ = some (.int .i64 (ag : Int)) := ((BR7.out.fr HF8.out (by omega)).cell 1).trans rfl
            clear hT hf HCM cr2 cr1
            go_wp2
            try simp only [hd4, hd5]
            go_roundw
            case rel => exact ⟨r + 1, by omega, by go_num, by rw [HNX.out]; exact HT8.out, HF8.out⟩
            case measure => simp [intOf]; omega
      · obtain rfl : r = rr := by omega
        have HRW9 := hide (show RowU wr gw (kst (kdOf 1 ag) n [Gr.flat El] r).1 by rw [← HKO.out]; exact HRW7.out.fr HI.out.2 (by omega))
        have HF9 := hide (HF7.out.trans HI.out.2 (fun k h => .inr (by have := HF4.out.size; omega)))
        have hd4 : decide ((r : Int) < (r : Int)) = false := by simp
        generalize (kst (kdOf 1 ag) n [Gr.flat El] r).1 = xs at *
        go_wp2_with fail
        go_at_call 26
        refine (read_in HI.out.1.a).mono ?_
        rintro e wa ⟨Aw, cw, rfl, hrd, hf⟩
        rw [lx] at hrd ⊢
        have HRDa := hide hrd
        have HRWa := hide (HRW9.out.fr hf id)
        have HFa := hide (HF9.out.then_ hf)
        clear hrd hf
        go_wp2_with fail
        go_at_call 29
        refine (same_eq Aw (some ⟨gw, 0, none⟩) n cw n n wa.heap.size xs wa HRDa.out.reads (Reads.blk HRWa.out (by simp [lx])) (by omega)).mono ?_
        rintro e wb ⟨rfl, hf⟩
        have HFb := hide (HFa.out.then_ hf)
        clear hf
        go_wp2_with fail
        go_at_call 32
        refine (k17.ends_true _).mono ?_
        rintro e wc ⟨rfl, hf⟩
        have HFc := hide (HFb.out.then_ hf)
        clear hf
        go_wp2
        go_ret
        exact ⟨rfl, HFc.out⟩
end Go.Proofs.Ytjdbjahgimlhbaa.bwhole
end
