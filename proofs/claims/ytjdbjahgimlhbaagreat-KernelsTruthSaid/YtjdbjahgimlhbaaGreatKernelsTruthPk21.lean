/- Parts of the proof of KernelsTruth: no conditions of their own. -/
import Derived.Test.YtjdbjahgimlhbaaGreatKernelsTruthPk20
import Derived.Test.YtjdbjahgimlhbaaGreatKernelsTruthPk19
import Derived.Test.YtjdbjahgimlhbaaGreatKernelsTruthPk4
import Derived.Test.YtjdbjahgimlhbaaGreatKernelsTruthPk15
import Derived.ArgAppend
import Derived.Test.YtjdbjahgimlhbaaGreatKernelsTruthPk16
import Derived.Test.YtjdbjahgimlhbaaGreatKernelsTruthPk6
section
set_option linter.unusedVariables false
set_option maxRecDepth 100000
namespace Go.Proofs.YtjdbjahgimlhbaaGreat
open Go.RowKit
open Gr (E T)

theorem cores_end (k : Nat) (l : List E) (n r : Nat) (hl : l.length ≤ 4000) (h0 : ∀ v, v < n → Gr.tgoes k l (Gr.crun (k : Int) n (Gr.flat l) r).1 v = false) : kdn (kdOf 4 k) n [Gr.flat l] r = true := by
  rw [Gr.cores_kdn k l n hl, List.all_eq_true]
  intro v hv
  rw [h0 v (List.mem_range.1 hv)]
  rfl
set_option maxHeartbeats 4000000 in
theorem trun4 (A : Option Addr) (n m c arg prio : Nat) (need : Int) (l : List E) (w : World) (h : EdgesAt w A l) (hm : l.length = m) (hmx : m ≤ 400) (hs : Gr.Sorted l) (h1 : 1 ≤ n) (h2 : n ≤ 60) (hl : ∀ e ∈ l, e.1 < n ∧ e.2 < n ∧ e.1 ≠ e.2) (hp : prio ≤ 7) (hk : okK 4 arg n) :
    Calls Tryz.prog 24 #[.int .i64 (n : Int), .slice A m c, reqv 4 arg prio need] w fun e w' => ∃ g, e = .returned (.tuple #[.slice (some ⟨g, 0, none⟩) n n, .int .i64 ((kruns 4 arg n l : Nat) : Int), .int .i64 0]) ∧ w.heap.size ≤ g ∧ RowU w' g (kout 4 arg n l) ∧ Fr (fun _ => False) w w' ∧ KEnd 4 arg n l := by
  obtain ⟨W1, hW1⟩ : ∃ W1, W1 = w.alloc (reqc 4 arg prio need) := ⟨_, rfl⟩
  have F1 : Fr (fun _ => False) w W1 := by rw [hW1]; exact (Fr.refl _ _).alloc _
  have b1 : Blk W1 w.heap.size 45 #[.int .i64 4, .int .i64 (arg : Int), .int .i64 (prio : Int), .int .i64 need] := by rw [hW1]; exact Blk.new _ _ _
  have HB := hide b1
  have hE1 := h.up F1
  have HE := hide hE1
  have HF1 := hide F1
  have HZ := hide hW1
  have HNO := hide (tnormal_ok A n m c l W1 hE1 hm (by omega) hs h1 (by omega) hl)
  have HQ := hide (fun (B : Option Addr) (d : Nat) (W : World) (hf : Fr (fun _ => False) W1 W) (h' : EdgesAt W B l) => equal_ok A B m c d l W (hE1.up hf) h' hm (by omega))
  have HCK := hide (fun w => tcheck_ok 4 arg prio n need h1 (by omega) hp hk w)
  have HOF := hide (fun (W : World) (hf : Fr (fun _ => False) W1 W) => trof_ok A n m c l W (hE1.up hf) hm (by omega) h1 (by omega) hl)
  have HL := hide hl
  unfold reqv reqc at *
  clear h F1 hE1 hs b1 hW1
  go_enter Tryz.func24, Tryz.ntmps24
  go_wp2_with fail
  try simp only [show ((4 : Nat) : Int) = 4 from rfl] at HZ
  rw [← HZ.out]
  go_at_call 31
  refine HNO.out.mono ?_
  rintro e w2 ⟨A2, c2, rfl, hE2, hf⟩
  have HE2 := hide hE2
  have HF2 := hide hf
  clear hE2 hf
  go_wp2_with fail
  go_at_call 32
  refine (HQ.out A2 c2 w2 HF2.out HE2.out).mono ?_
  rintro e w3 ⟨rfl, hf⟩
  have HF3 := hide (HF2.out.then_ hf)
  have x0 := ((HB.out.fr HF3.out id).cell 0).trans rfl
  have x1 := ((HB.out.fr HF3.out id).cell 1).trans rfl
  have x2 := ((HB.out.fr HF3.out id).cell 2).trans rfl
  have x3 := ((HB.out.fr HF3.out id).cell 3).trans rfl
  clear hf HE2
  go_wp2_with fail
  go_at_call 17
  refine (HCK.out w3).mono ?_
  rintro e w4 ⟨rfl, hf⟩
  have HF4 := hide (HF3.out.then_ hf)
  clear hf x0 x1 x2 x3
  go_wp2_with fail
  go_at_call 33
  refine (HOF.out w4 HF4.out).mono ?_
  rintro e w5 ⟨H, Bg, o, a, rfl, hG, hf⟩
  obtain ⟨W6, hW6⟩ : ∃ W6, W6 = w5.alloc (.cells #[.int .i64 (n : Int), .slice (some ⟨o, 0, none⟩) n n, .slice (some ⟨a, 0, none⟩) n n] 96) := ⟨_, rfl⟩
  have F6 : Fr (fun _ => False) w5 W6 := by rw [hW6]; exact (Fr.refl _ _).alloc _
  have b6 : Blk W6 w5.heap.size 96 #[.int .i64 (n : Int), .slice (some ⟨o, 0, none⟩) n n, .slice (some ⟨a, 0, none⟩) n n] := by rw [hW6]; exact Blk.new _ _ _
  have HG6 := hide (hG.up F6)
  have HF6 := hide (HF4.out.then_ (hf.then_ F6))
  have HZ6 := hide hW6
  have bq := HB.out.fr HF6.out id
  have HCL := hide (fun W (hf : Fr (fun _ => False) W6 W) => (⟨((bq.fr hf id).cell 0).trans rfl, ((bq.fr hf id).cell 1).trans rfl, ((b6.fr hf id).cell 0).trans rfl, ((b6.fr hf id).cell 1).trans rfl, ((b6.fr hf id).cell 2).trans rfl⟩ :
    W.cell? ⟨w.heap.size, 0, none⟩ = some (.int .i64 4) ∧ W.cell? ⟨w.heap.size, 1, none⟩ = some (.int .i64 (arg : Int)) ∧ W.cell? ⟨w5.heap.size, 0, none⟩ = some (.int .i64 (n : Int)) ∧ W.cell? ⟨w5.heap.size, 1, none⟩ = some (.slice (some ⟨o, 0, none⟩) n n) ∧ W.cell? ⟨w5.heap.size, 2, none⟩ = some (.slice (some ⟨a, 0, none⟩) n n)))
  have x0 : (w5.alloc (.cells #[.int .i64 (n : Int), .slice (some ⟨o, 0, none⟩) n n, .slice (some ⟨a, 0, none⟩) n n] 96)).cell? ⟨w.heap.size, 0, none⟩ = some (.int .i64 4) := by rw [← hW6]; exact (HCL.out W6 (Fr.refl _ _)).1
  clear hG hf F6 b6 bq hW6
  have xs := HCL.out W6 (Fr.refl _ _)
  rw [HZ6.out] at xs
  obtain ⟨y0, y1, y2, y3, y4⟩ := xs
  go_wp2_with fail
  rw [← HZ6.out]
  go_at_call 38
  refine (tcores_ok H Bg o a n arg l W6 HG6.out h1 (by omega) (by unfold okK at hk; omega) (by omega) HL.out).mono ?_
  rintro e w7 ⟨g, r, rfl, hg, hr, hrn, h0, h2, hf⟩
  have HR7 := hide hr
  have HF7 := hide hf
  have HC7 := hide (Gr.cores_runs arg l n r (by omega) hrn h0 h2)
  have HE7 := hide (cores_end arg l n r (by omega) h0)
  clear hr hf y0 y1 y2 y3 y4 h0 h2
  go_wp2
  go_ret3
  have sz := HF6.out.size
  have sz1 := HF1.out.size
  obtain ⟨r1, r2⟩ := HC7.out
  have he : KEnd 4 arg n l := by unfold KEnd; rw [r1]; exact ⟨by omega, HE7.out⟩
  exact ⟨g, by rw [r1]; push_cast; rfl, by show w.heap.size ≤ g; have : W6.heap.size ≤ g := hg; omega, by rw [r2]; exact HR7.out, HF1.out.trans (HF6.out.then_ HF7.out) (fun k h => h.elim), he⟩
set_option maxHeartbeats 1600000 in
theorem tof4 (A : Option Addr) (n m c arg prio : Nat) (need : Int) (l : List E) (w : World) (h : EdgesAt w A l) (hm : l.length = m) (hmx : m ≤ 400) (hs : Gr.Sorted l) (h1 : 1 ≤ n) (h2 : n ≤ 60) (hl : ∀ e ∈ l, e.1 < n ∧ e.2 < n ∧ e.1 ≠ e.2) (hp : prio ≤ 7) (hk : okK 4 arg n) :
    Calls Tryz.prog 11 #[.int .i64 (n : Int), .slice A m c, reqv 4 arg prio need] w fun e w' => ∃ g, e = .returned (.tuple #[.slice (some ⟨g, 0, none⟩) n n, .int .i64 0]) ∧ w.heap.size ≤ g ∧ RowU w' g (kout 4 arg n l) ∧ Fr (fun _ => False) w w' ∧ KEnd 4 arg n l := by
  have F1 := hide ((Fr.refl (fun _ => False) w).alloc (reqc 4 arg prio need))
  have HR := hide (fun (W : World) (hf : Fr (fun _ => False) w W) => trun4 A n m c arg prio need l W (h.up hf) hm hmx hs h1 h2 hl hp hk)
  have HZ := hide (show (w.alloc (reqc 4 arg prio need)).heap.size = w.heap.size + 1 by simp)
  clear h hs hl hk
  unfold reqv reqc at *
  go_enter Tryz.func11, Tryz.ntmps11
  go_wp2_with fail
  go_at_call 24
  refine (HR.out _ F1.out).mono ?_
  rintro e w1 ⟨g, rfl, hg, hr, hf, he⟩
  have HB := hide hr
  have HEn := hide he
  have HF := hide (F1.out.then_ hf)
  have hg2 : w.heap.size ≤ g := by have := HZ.out; omega
  clear hr hf hg
  go_wp2
  go_ret2
  exact ⟨g, by first | rfl | trivial, hg2, HB.out, HF.out, HEn.out⟩
set_option maxHeartbeats 1600000 in
theorem trounds4 (A : Option Addr) (n m c arg prio : Nat) (need : Int) (l : List E) (w : World) (h : EdgesAt w A l) (hm : l.length = m) (hmx : m ≤ 400) (hs : Gr.Sorted l) (h1 : 1 ≤ n) (h2 : n ≤ 60) (hl : ∀ e ∈ l, e.1 < n ∧ e.2 < n ∧ e.1 ≠ e.2) (hp : prio ≤ 7) (hk : okK 4 arg n) :
    Calls Tryz.prog 12 #[.int .i64 (n : Int), .slice A m c, reqv 4 arg prio need] w fun e w' => ∃ g, e = .returned (.tuple #[.int .i64 ((kruns 4 arg n l : Nat) : Int), .int .i64 0]) ∧ w.heap.size ≤ g ∧ RowU w' g (kout 4 arg n l) ∧ Fr (fun _ => False) w w' ∧ KEnd 4 arg n l := by
  have F1 := hide ((Fr.refl (fun _ => False) w).alloc (reqc 4 arg prio need))
  have HR := hide (fun (W : World) (hf : Fr (fun _ => False) w W) => trun4 A n m c arg prio need l W (h.up hf) hm hmx hs h1 h2 hl hp hk)
  have HZ := hide (show (w.alloc (reqc 4 arg prio need)).heap.size = w.heap.size + 1 by simp)
  clear h hs hl hk
  unfold reqv reqc at *
  go_enter Tryz.func12, Tryz.ntmps12
  go_wp2_with fail
  go_at_call 24
  refine (HR.out _ F1.out).mono ?_
  rintro e w1 ⟨g, rfl, hg, hr, hf, he⟩
  have HB := hide hr
  have HEn := hide he
  have HF := hide (F1.out.then_ hf)
  have hg2 : w.heap.size ≤ g := by have := HZ.out; omega
  clear hr hf hg
  go_wp2
  go_ret2
  exact ⟨g, by first | rfl | trivial, hg2, HB.out, HF.out, HEn.out⟩
end Go.Proofs.YtjdbjahgimlhbaaGreat
end
section
set_option linter.unusedVariables false
set_option maxRecDepth 100000
namespace Go.Proofs.YtjdbjahgimlhbaaGreat
open Go.RowKit

structure QAt (w : World) (lo b o q c : Nat) (xs : List Nat) : Prop where
  len : xs.length = q
  le : q ≤ c
  lo : lo ≤ b
  lt : b < w.heap.size
  holds : ∀ (j x : Nat), xs[j]? = some x → w.cell? ⟨b, o + j, none⟩ = some (.int .i64 (x : Int))
  there : ∀ j, j < c → (w.cell? ⟨b, o + j, none⟩).isSome = true ∧ w.frozen? ⟨b, o + j, none⟩ = false
section
variable {w w' : World} {lo b o q c x : Nat} {xs : List Nat} {S : Nat → Prop}
theorem QAt.fr (h : QAt w lo b o q c xs) (hf : Fr S w w') (hs : ¬ S b) : QAt w' lo b o q c xs :=
  ⟨h.len, h.le, h.lo, Nat.lt_of_lt_of_le h.lt hf.size, fun j x hx => hf.cell (h.holds j x hx) hs, fun j hj => by
    obtain ⟨h1, h2⟩ := h.there j hj
    obtain ⟨v, hv⟩ := Option.isSome_iff_exists.1 h1
    exact ⟨by rw [hf.cell hv hs]; rfl, by rw [hf.frozen (a := ⟨b, o + j, none⟩) h.lt hs]; exact h2⟩⟩
theorem QAt.pop (h : QAt w lo b o (q + 1) c (x :: xs)) : QAt w lo b (o + 1) q (c - 1) xs :=
  ⟨by have := h.len; simp at this; exact this, by have := h.le; omega, h.lo, h.lt, fun j y hy => by
    have := h.holds (j + 1) y (by simpa using hy)
    rwa [show o + (j + 1) = o + 1 + j by omega] at this, fun j hj => by
    have := h.there (j + 1) (by omega)
    rwa [show o + (j + 1) = o + 1 + j by omega] at this⟩
theorem QAt.new (w : World) (t : TypeId) (x : Nat) (h : lo ≤ w.heap.size) : QAt (w.alloc (.cells #[.int .i64 (x : Int)] t)) lo w.heap.size 0 1 1 [x] := by
  have hb := Blk.new w t #[.int .i64 (x : Int)]
  refine ⟨rfl, Nat.le_refl _, h, hb.lt, fun j y hy => ?_, fun j hj => ?_⟩
  · rw [Nat.zero_add, hb.cell]
    cases j with
    | zero => simp at hy; subst hy; rfl
    | succ j => simp at hy
  · obtain rfl : j = 0 := by omega
    exact ⟨by rw [hb.cell]; rfl, hb.frozen 0⟩
end
theorem q_append {P : Program} (t ty e : TypeId) (i : TypeInfo) (z : Value) (ht : P.underlying t = some (.slice e)) (hi : P.info? e = some i) (hz : i.zero = some z) (hsize : i.size = 1) (hby : i.bytes = 8) (hzs : z.cells.size = 1)
    (W : World) (lo b o q c : Nat) (xs : List Nat) (hq : QAt W lo b o q c xs) (ad : Addr) (x n : Nat) (hx : W.cell? ad = some (.int .i64 (x : Int))) (had : ad.add 0 = ad) (hqb : q ≤ 100000) (hlo : lo ≤ W.heap.size) :
    ∃ b' o' c' w', (Builtin.append_ #[t, t] ty #[.slice (some ⟨b, o, none⟩) q c, .slice (some ad) 1 n]).run P W = .ok (.slice (some ⟨b', o', none⟩) (q + 1) c') w' ∧ QAt w' lo b' o' (q + 1) c' (xs ++ [x]) ∧ Fr (fun k => k = b) W w' := by
  have hnews : ∀ j v, ([.int .i64 (x : Int)] : List Value)[j]? = some v → W.cell? (ad.add j) = some v := fun j v hv => by
    cases j with
    | zero => rw [had, hx]; simpa using hv
    | succ j => simp at hv
  by_cases hr : q + 1 ≤ c
  · have hrun := run_append_room_cells (P := P) W t ty e i ht hi b o q c ad 1 n [.int .i64 (x : Int)] (by simp [hsize]) hnews (fun u hu => by simp at hu; subst hu; rfl) hr
      (fun j hj => by
        obtain rfl : j = 0 := by simpa using hj
        have := (hq.there q (by omega)).1
        simpa [hsize] using this)
      (fun j hj => by
        obtain rfl : j = 0 := by simpa using hj
        have := (hq.there q (by omega)).2
        simpa [hsize] using this)
    rw [hsize, Nat.mul_one] at hrun
    have hF : Fr (fun k => k = b) W (W.setCells b (o + q) [.int .i64 (x : Int)]) := (Fr.refl (fun k => k = b) W).setCell (p := ⟨b, o + q, none⟩) (.inl rfl) _
    have hin := World.cell?_setCells_in b [.int .i64 (x : Int)] (o + q) W (fun j hj => by
      obtain rfl : j = 0 := by simpa using hj
      exact (hq.there q (by omega)).1) 0 (by simp)
    have hout : ∀ j, j ≠ q → (W.setCells b (o + q) [.int .i64 (x : Int)]).cell? ⟨b, o + j, none⟩ = W.cell? ⟨b, o + j, none⟩ := fun j hj =>
      World.cell?_setCells_out b [.int .i64 (x : Int)] (o + q) W ⟨b, o + j, none⟩ (fun _ _ => by show o + j < o + q ∨ o + q + [Value.int .i64 (x : Int)].length ≤ o + j; simp; omega)
    refine ⟨b, o, c, _, hrun, ⟨by simp [hq.len], hr, hq.lo, Nat.lt_of_lt_of_le hq.lt hF.size, fun j y hy => ?_, fun j hj => ?_⟩, hF⟩
    · by_cases hjq : j = q
      · subst hjq
        rw [List.getElem?_append_right (by rw [hq.len]; exact Nat.le_refl _), hq.len, Nat.sub_self] at hy
        simp at hy
        subst hy
        simpa using hin
      · have hjl : j < xs.length := by
          have := (List.getElem?_eq_some_iff.1 hy).1
          rw [hq.len]
          simp [hq.len] at this
          omega
        rw [List.getElem?_append_left hjl] at hy
        rw [hout j hjq]
        exact hq.holds j y hy
    · constructor
      · by_cases hjq : j = q
        · subst hjq
          have : (W.setCells b (o + j) [.int .i64 (x : Int)]).cell? ⟨b, o + j, none⟩ = some (.int .i64 (x : Int)) := by simpa using hin
          rw [this]; rfl
        · rw [hout j hjq]; exact (hq.there j hj).1
      · rw [World.frozen?_setCells]
        exact (hq.there j hj).2
  · have hc : c = q := by have := hq.le; omega
    subst hc
    have hrun := run_append_grow (P := P) W t ty e i z ht hi hz ⟨b, o, none⟩ c c (ivals xs) (by simp [ivals, hq.len, hsize]) (fun j v hv => by
      rw [ivals, List.getElem?_map] at hv
      cases hxs : xs[j]? with
      | none => rw [hxs] at hv; cases hv
      | some y =>
        rw [hxs] at hv
        obtain rfl := Option.some.inj hv
        rw [Addr.add_lit]
        exact hq.holds j y hxs) ad 1 n [.int .i64 (x : Int)] (by simp [hsize]) hnews (by omega) (by omega) (growslice_fits (by omega) (by rw [hby]; omega))
    obtain ⟨gc, hgc⟩ : ∃ gc, grownCap W (c + 1) c e = gc := ⟨_, rfl⟩
    have hge := grownCap_ge W (c + 1) c e
    rw [hgc] at hrun hge
    have hb := Blk.new W.drew e ((ivals xs).toArray ++ [Value.int .i64 (x : Int)].toArray ++ Builtin.zeroCells z.cells (gc - (c + 1)))
    have hF : Fr (fun k => k = b) W (W.drew.alloc (.cells ((ivals xs).toArray ++ [Value.int .i64 (x : Int)].toArray ++ Builtin.zeroCells z.cells (gc - (c + 1))) e)) := ((Fr.refl _ W).drew).alloc _
    have hl1 : (ivals xs).length = c := by simp [ivals, hq.len]
    have hsz : ((ivals xs).toArray ++ [Value.int .i64 (x : Int)].toArray ++ Builtin.zeroCells z.cells (gc - (c + 1))).size = gc := by
      simp only [Array.size_append, List.size_toArray, size_zeroCells, hzs, hl1, List.length_singleton]
      omega
    refine ⟨W.heap.size, 0, gc, _, hrun, ⟨by simp [hq.len], hge, hlo, hb.lt, fun j y hy => ?_, fun j hj => ⟨?_, hb.frozen _⟩⟩, hF⟩
    · rw [Nat.zero_add]
      have hj : j < c + 1 := by
        have := (List.getElem?_eq_some_iff.1 hy).1
        simpa [hq.len] using this
      refine (hb.cell j).trans ?_
      rw [Array.getElem?_append_left (by simp [hl1]; omega), List.append_toArray, List.getElem?_toArray]
      have : ivals xs ++ [Value.int .i64 (x : Int)] = ivals (xs ++ [x]) := by simp [ivals]
      rw [this, ivals, List.getElem?_map, hy]
      rfl
    · rw [Nat.zero_add]
      refine (congrArg Option.isSome (hb.cell j)).trans ?_
      rw [Array.getElem?_eq_getElem (by rw [hsz]; exact hj)]
      rfl
/-- at the operation: a number, boxed, is appended -/
theorem wpList_append_q {P : Program} {ops : Array Oper} {rest : List Oper} {op : Oper} {a : Act} {Q : Exit → Act → World → Prop} (W : World) (x : Nat) (e2 : TypeId) (hgd : Region.wanted op (yielded ops a.tmps) = true) (s y : Operand) (t : TypeId)
    (ho : op.op = .call { callee := .builtin .append, args := #[s, y], argTypes := #[t, t] })
    (e : TypeId) (i : TypeInfo) (z : Value) (ht : P.underlying t = some (.slice e)) (hi : P.info? e = some i) (hz : i.zero = some z) (hsize : i.size = 1) (hby : i.bytes = 8) (hzs : z.cells.size = 1)
    (lo b o q c : Nat) (xs : List Nat) (hs : a.eval s = .slice (some ⟨b, o, none⟩) q c) (hq : QAt W lo b o q c xs) (hx : a.eval y = .slice (some ⟨W.heap.size, 0, none⟩) 1 1) (hqb : q ≤ 100000) (hlo : lo ≤ W.heap.size)
    (h : ∀ b' o' c' w', QAt w' lo b' o' (q + 1) c' (xs ++ [x]) → Fr (fun k => k = b) W w' → wpList P ops Q rest (a.put op.dst (.slice (some ⟨b', o', none⟩) (q + 1) c')) w') :
    wpList P ops Q (op :: rest) a (W.alloc (.cells #[.int .i64 (x : Int)] e2)) := by
  refine wpList_want hgd fun K hK => ?_
  have hb := Blk.new W e2 #[.int .i64 (x : Int)]
  obtain ⟨b', o', c', w', hr, h2, h3⟩ := q_append (P := P) t op.type e i z ht hi hz hsize hby hzs (W.alloc (.cells #[.int .i64 (x : Int)] e2)) lo b o q c xs (hq.fr (((Fr.refl (fun _ => False) W).alloc _)) id) ⟨W.heap.size, 0, none⟩ x 1 (by rw [hb.cell]; rfl) rfl hqb (by simp; omega)
  unfold Oper.wp execOp
  simp only [ho, resolve, invoke, builtin, Sem.run_bind, Sem.run_pure, Result.andThen_ok, List.map_toArray, List.map_cons, List.map_nil, hs, hx, hr]
  exact hK _ _ (h b' o' c' w' h2 (((Fr.refl (fun k => k = b) W).alloc _).trans h3 (fun k hk => .inl hk)))
end Go.Proofs.YtjdbjahgimlhbaaGreat
end
section
set_option linter.unusedVariables false
namespace Go.Proofs.YtjdbjahgimlhbaaGreat.Gr

theorem getD_set (X : List Nat) (v y i : Nat) (hv : v < X.length) : (X.set v y).getD i 0 = if i = v then y else X.getD i 0 := by
  rw [List.getD_eq_getElem?_getD, List.getElem?_set]
  by_cases h : v = i
  · subst h; simp [hv]
  · rw [if_neg h, if_neg (Ne.symm h), ← List.getD_eq_getElem?_getD]
/-- a queue: what is told is right; who is told and does not wait has told all about him -/
structure QInv (nb : Nat → List Nat) (s n : Nat) (X Q : List Nat) : Prop where
  len : X.length = n
  ok : ∀ v, v < n → X.getD v 0 = FAR ∨ Dist nb s v (X.getD v 0)
  src : X.getD s 0 ≠ FAR
  qin : ∀ u, u ∈ Q → u < n ∧ X.getD u 0 ≠ FAR
  srt : Q.Pairwise fun a b => X.getD a 0 ≤ X.getD b 0
  near : ∀ h t, Q = h :: t → ∀ u, u ∈ t → X.getD u 0 ≤ X.getD h 0 + 1
  told : ∀ u, u < n → X.getD u 0 ≠ FAR → u ∈ Q ∨ ∀ v, v ∈ nb u → X.getD v 0 ≠ FAR
section
variable {nb : Nat → List Nat} {s n u v : Nat} {X Q : List Nat}
theorem QInv.start (hs : s < n) : QInv nb s n ((List.replicate n FAR).set s 0) [s] := by
  have hl : s < (List.replicate n FAR).length := by simpa using hs
  have hr : ∀ i, i < n → (List.replicate n FAR).getD i 0 = FAR := fun i hi => by simp [List.getD, hi]
  refine ⟨by simp, fun v hv => ?_, ?_, fun u hu => ?_, List.pairwise_singleton _ _, fun h t e u hu => ?_, fun u hu hX => ?_⟩
  · rw [getD_set _ _ _ _ hl]
    by_cases h : v = s
    · subst h; rw [if_pos rfl]; exact .inr Dist.self
    · rw [if_neg h]; exact .inl (hr v hv)
  · rw [getD_set _ _ _ _ hl, if_pos rfl]; decide
  · rw [List.mem_singleton] at hu
    subst hu
    exact ⟨hs, by rw [getD_set _ _ _ _ hl, if_pos rfl]; decide⟩
  · injection e with e1 e2
    subst e2
    cases hu
  · rw [getD_set _ _ _ _ hl] at hX
    by_cases h : u = s
    · exact .inl (by simp [h])
    · rw [if_neg h] at hX
      exact absurd (hr u hu) hX
/-- all that is no further than the queue's head is told -/
theorem QInv.below (h : QInv nb s n X (u :: Q)) (hnb : ∀ a b, b ∈ nb a → b < n) (hs : s < n) : ∀ {d v}, Dist nb s v d → d ≤ X.getD u 0 → X.getD v 0 ≠ FAR
  | 0, v, hd, _ => by
    have e : v = s := hd.1
    rw [e]; exact h.src
  | d + 1, v, hd, hle => by
    obtain ⟨p, hp, hv⟩ := hd.pred
    have hpn : p < n := hp.1.lt hnb hs
    have ih := h.below hnb hs hp (by omega)
    rcases h.told p hpn ih with hq | ht
    · have hdp : X.getD p 0 = d := by
        rcases h.ok p hpn with h1 | h1
        · exact absurd h1 ih
        · exact h1.uniq hp
      rcases List.mem_cons.1 hq with rfl | hq
      · omega
      · have := (List.pairwise_cons.1 h.srt).1 p hq
        omega
    · exact ht v hv
theorem QInv.head (h : QInv nb s n X (u :: Q)) : u < n ∧ X.getD u 0 ≠ FAR ∧ Dist nb s u (X.getD u 0) := by
  obtain ⟨h1, h2⟩ := h.qin u (by simp)
  rcases h.ok u h1 with h3 | h3
  · exact absurd h3 h2
  · exact ⟨h1, h2, h3⟩
theorem QInv.step (h : QInv nb s n X (u :: Q)) (hnb : ∀ a b, b ∈ nb a → b < n) (hs : s < n) (hn : n ≤ 256) (hv : v ∈ nb u) (hX : X.getD v 0 = FAR) :
    QInv nb s n (X.set v (X.getD u 0 + 1)) (u :: (Q ++ [v])) := by
  obtain ⟨hu, hu2, hu3⟩ := h.head
  have hvn := hnb _ _ hv
  have hl : v < X.length := by rw [h.len]; exact hvn
  have hg := fun i => getD_set X v (X.getD u 0 + 1) i hl
  have hlt := hu3.lt hnb hs
  have huv : u ≠ v := fun e => hu2 (by rw [e]; exact hX)
  have hQv : ∀ q, q ∈ u :: Q → q ≠ v := fun q hq e => (h.qin q hq).2 (by rw [e]; exact hX)
  have hne : X.getD u 0 + 1 ≠ FAR := by unfold FAR; omega
  have hD : Dist nb s v (X.getD u 0 + 1) := by
    refine ⟨hu3.1.step hv, fun j hj hR => ?_⟩
    obtain ⟨d, hd, hdd⟩ := hR.dist
    exact h.below hnb hs hdd (by omega) hX
  refine ⟨by simp [h.len], fun w hw => ?_, ?_, fun q hq => ?_, ?_, fun a t e q hq => ?_, fun q hq hqX => ?_⟩
  · rw [hg]
    by_cases e : w = v
    · subst e; rw [if_pos rfl]; exact .inr hD
    · rw [if_neg e]; exact h.ok w hw
  · rw [hg]
    split
    · exact hne
    · exact h.src
  · rw [hg]
    rcases List.mem_cons.1 hq with rfl | hq
    · exact ⟨hu, by rw [if_neg huv]; exact hu2⟩
    · rcases List.mem_append.1 hq with hq | hq
      · have := h.qin q (List.mem_cons_of_mem _ hq)
        refine ⟨this.1, ?_⟩
        split
        · exact hne
        · exact this.2
      · rw [List.mem_singleton] at hq
        subst hq
        exact ⟨hvn, by rw [if_pos rfl]; exact hne⟩
  · have hs1 := List.pairwise_cons.1 h.srt
    have old : ∀ q, q ∈ u :: Q → (X.set v (X.getD u 0 + 1)).getD q 0 = X.getD q 0 := fun q hq => by rw [hg, if_neg (hQv q hq)]
    have hnear := h.near u Q rfl
    rw [List.pairwise_cons, List.pairwise_append]
    refine ⟨fun q hq => ?_, ?_, List.pairwise_singleton _ _, fun a ha b hb => ?_⟩
    · rw [old u (by simp)]
      rcases List.mem_append.1 hq with hq | hq
      · rw [old q (List.mem_cons_of_mem _ hq)]
        exact hs1.1 q hq
      · rw [List.mem_singleton] at hq
        subst hq
        rw [hg, if_pos rfl]
        omega
    · refine List.Pairwise.imp_of_mem (fun {a b} ha hb hab => ?_) hs1.2
      rw [old a (List.mem_cons_of_mem _ ha), old b (List.mem_cons_of_mem _ hb)]
      exact hab
    · rw [List.mem_singleton] at hb
      subst hb
      rw [old a (List.mem_cons_of_mem _ ha), hg, if_pos rfl]
      exact hnear a ha
  · injection e with e1 e2
    subst e1
    subst e2
    rw [hg u, if_neg huv, hg]
    rcases List.mem_append.1 hq with hq | hq
    · rw [if_neg (hQv q (List.mem_cons_of_mem _ hq))]
      exact h.near u Q rfl q hq
    · rw [List.mem_singleton] at hq
      rw [if_pos hq]
      exact Nat.le_refl _
  · rw [hg] at hqX
    by_cases e : q = v
    · subst e
      exact .inl (by simp)
    · rw [if_neg e] at hqX
      rcases h.told q hq hqX with hm | ht
      · rcases List.mem_cons.1 hm with rfl | hm
        · exact .inl (by simp)
        · exact .inl (by simp [hm])
      · refine .inr fun w hw => ?_
        rw [hg]
        split
        · exact hne
        · exact ht w hw
theorem QInv.pop (h : QInv nb s n X (u :: Q)) (ht : ∀ v, v ∈ nb u → X.getD v 0 ≠ FAR) : QInv nb s n X Q := by
  refine ⟨h.len, h.ok, h.src, fun q hq => h.qin q (List.mem_cons_of_mem _ hq), (List.pairwise_cons.1 h.srt).2, fun a t e q hq => ?_, fun q hq hX => ?_⟩
  · subst e
    have h1 := h.near u (a :: t) rfl q (List.mem_cons_of_mem _ hq)
    have h2 := (List.pairwise_cons.1 h.srt).1 a (by simp)
    omega
  · rcases h.told q hq hX with hm | hm
    · rcases List.mem_cons.1 hm with rfl | hm
      · exact .inr ht
      · exact .inl hm
    · exact .inr hm
theorem QInv.done (h : QInv nb s n X []) (hnb : ∀ a b, b ∈ nb a → b < n) (hs : s < n) : FarRow nb s n X := by
  have hr : ∀ {r v}, Rch nb s r v → X.getD v 0 ≠ FAR := by
    intro r
    induction r with
    | zero => intro v e; rw [show v = s from e]; exact h.src
    | succ r ih =>
      intro v e
      rcases e with e | ⟨p, e, hv⟩
      · exact ih e
      · rcases h.told p (e.lt hnb hs) (ih e) with hm | hm
        · cases hm
        · exact hm v hv
  refine ⟨h.len, fun v hv => ?_⟩
  rcases h.ok v hv with h1 | h1
  · exact .inr ⟨fun r hR => hr hR h1, h1⟩
  · exact .inl ⟨_, h1, rfl⟩
/-- of who is not told, one less -/
theorem count_step (X : List Nat) (v y : Nat) (hv : v < X.length) (hX : X.getD v 0 = FAR) (hy : y ≠ FAR) : (X.set v y).count FAR + 1 = X.count FAR := by
  have he : X[v] = FAR := by rw [← hX]; simp [List.getD, hv]
  have h1 := List.count_set (l := X) (i := v) (a := y) (b := FAR) hv
  have h2 : 0 < X.count FAR := List.count_pos_iff.2 (by rw [← he]; exact List.getElem_mem hv)
  rw [h1]
  simp only [he, beq_self_eq_true, if_true]
  have : (y == FAR) = false := by simp only [beq_eq_false_iff_ne, ne_eq]; exact hy
  rw [this]
  simp only [Bool.false_eq_true, if_false]
  omega
/-- the greatest of those that are told -/
def grt (X : List Nat) : Nat := X.foldl (fun m x => if x = FAR then m else max m x) 0
theorem grt_take_succ (X : List Nat) {j : Nat} (hj : j < X.length) : grt (X.take (j + 1)) = if X[j] = FAR then grt (X.take j) else max (grt (X.take j)) X[j] := by
  unfold grt
  rw [List.take_succ_eq_append_getElem hj, List.foldl_append]
  rfl
theorem grt_ge : ∀ (X : List Nat) (m : Nat), m ≤ X.foldl (fun m x => if x = FAR then m else max m x) m ∧ ∀ x, x ∈ X → x ≠ FAR → x ≤ X.foldl (fun m x => if x = FAR then m else max m x) m
  | [], m => ⟨Nat.le_refl _, fun x hx => by cases hx⟩
  | y :: X, m => by
    rw [List.foldl_cons]
    obtain ⟨h1, h2⟩ := grt_ge X (if y = FAR then m else max m y)
    have h3 : m ≤ if y = FAR then m else max m y := by split <;> omega
    refine ⟨Nat.le_trans h3 h1, fun x hx hf => ?_⟩
    rcases List.mem_cons.1 hx with rfl | hx
    · rw [if_neg hf] at h1 ⊢
      omega
    · exact h2 x hx hf
theorem grt_in : ∀ (X : List Nat) (m : Nat), X.foldl (fun m x => if x = FAR then m else max m x) m = m ∨ (X.foldl (fun m x => if x = FAR then m else max m x) m ∈ X ∧ X.foldl (fun m x => if x = FAR then m else max m x) m ≠ FAR)
  | [], m => .inl rfl
  | y :: X, m => by
    rw [List.foldl_cons]
    rcases grt_in X (if y = FAR then m else max m y) with h | h
    · by_cases hy : y = FAR
      · rw [if_pos hy] at h ⊢
        exact .inl h
      · rw [if_neg hy] at h ⊢
        by_cases hm : y ≤ m
        · exact .inl (by rw [h]; omega)
        · refine .inr ?_
          rw [h, show max m y = y by omega]
          exact ⟨by simp, hy⟩
    · exact .inr ⟨List.mem_cons_of_mem _ h.1, h.2⟩
/-- the greatest distance of a row of distances is one, and none is greater -/
theorem grt_far (h : FarRow nb s n X) (hnb : ∀ a b, b ∈ nb a → b < n) (hs : s < n) (hn : n ≤ 256) : (∃ v, Dist nb s v (grt X)) ∧ ∀ v d, Dist nb s v d → d ≤ grt X := by
  have hg : ∀ v, v < n → X.getD v 0 ∈ X := fun v hv => by
    have hl : v < X.length := by rw [h.1]; exact hv
    simp [List.getD, hl]
  constructor
  · rcases grt_in X 0 with h1 | ⟨h1, h2⟩
    · refine ⟨s, ?_⟩
      unfold grt
      rw [h1]
      exact Dist.self
    · obtain ⟨v, hv, he⟩ := List.mem_iff_getElem.1 h1
      have hv2 : v < n := by rw [← h.1]; exact hv
      have hx : X.getD v 0 = grt X := by
        unfold grt
        rw [← he]; simp [List.getD, hv]
      rcases h.2 v hv2 with ⟨d, hd, e⟩ | ⟨_, e⟩
      · exact ⟨v, by rw [← hx, e]; exact hd⟩
      · exact absurd (hx.symm.trans e) h2
  · intro v d hd
    have hv := hd.1.lt hnb hs
    have hdl := hd.lt hnb hs
    rcases h.2 v hv with ⟨d', hd', e⟩ | ⟨e, _⟩
    · have h2 := (grt_ge X 0).2 _ (hg v hv) (by rw [e, ← hd.uniq hd']; unfold FAR; omega)
      rw [e, ← hd.uniq hd'] at h2
      exact h2
    · exact absurd hd.1 (e d)
end
end Go.Proofs.YtjdbjahgimlhbaaGreat.Gr
end
