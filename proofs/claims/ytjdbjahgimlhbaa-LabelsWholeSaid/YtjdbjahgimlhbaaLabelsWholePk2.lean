/- Parts of the proof of LabelsWhole: no conditions of their own. -/
import Derived.Test.YtjdbjahgimlhbaaWhPk11
import Derived.Test.YtjdbjahgimlhbaaWhPk12
import Derived.Test.YtjdbjahgimlhbaaWhPk16
import Derived.Test.YtjdbjahgimlhbaaLabelsWholePk1
import Derived.Test.YtjdbjahgimlhbaaWhPk3
section
set_option linter.unusedVariables false
namespace Go.Proofs.Ytjdbjahgimlhbaa.Gr
open Go.RowKit

/-- the distances up to so many -/
def BRow (nb : Nat → List Nat) (s n r : Nat) (X : List Nat) : Prop := X.length = n ∧ ∀ v, v < n → (∃ d, d ≤ r ∧ Dist nb s v d ∧ X.getD v 0 = d) ∨ (¬ Rch nb s r v ∧ X.getD v 0 = FAR)
/-- what the edges say of a vertex -/
def fromB (r : Nat) (X : List Nat) (L : List T) (v : Nat) : Bool := L.any fun e => decide (e.2.1.toNat = v) && bfs.hitB (r : Int) X e.1.toNat
theorem bfs_get (r : Nat) (X s : List Nat) (e : T) {v : Nat} (hv : v < s.length) : (bfs.step (r : Int) X s e).getD v 0 = if decide (e.2.1.toNat = v) && bfs.hitB (r : Int) X e.1.toNat then min (s.getD v 0) (r + 1) else s.getD v 0 := by
  rw [bfs_step]
  by_cases hh : bfs.hitB (r : Int) X e.1.toNat = true
  · have hx : X.getD e.1.toNat 0 = r := by have : ((X.getD e.1.toNat 0 : Nat) : Int) = (r : Int) := of_decide_eq_true hh; omega
    rw [if_pos hh, upd_get, hh, hx]
    by_cases h : e.2.1.toNat = v
    · simp [h, hv, least]
    · simp [h]
  · rw [if_neg hh]
    simp [hh]
theorem bfs_fold (r : Nat) (X : List Nat) {v : Nat} : ∀ (L : List T) (s : List Nat), v < s.length → (L.foldl (bfs.step (r : Int) X) s).getD v 0 = if fromB r X L v then min (s.getD v 0) (r + 1) else s.getD v 0
  | [], s, _ => rfl
  | e :: L, s, hv => by
    rw [List.foldl_cons, bfs_fold r X L _ (by rw [bfs.step_len]; exact hv), bfs_get r X s e hv]
    unfold fromB
    rw [List.any_cons]
    generalize (decide (e.2.1.toNat = v) && bfs.hitB (r : Int) X e.1.toNat) = a
    generalize (L.any fun e => decide (e.2.1.toNat = v) && bfs.hitB (r : Int) X e.1.toNat) = b
    cases a <;> cases b <;> simp <;> omega
theorem fromB_iff (r : Nat) (X : List Nat) (l : List E) (v : Nat) : fromB r X (flat l) v = true ↔ ∃ u, v ∈ outs l u ∧ X.getD u 0 = r := by
  unfold fromB flat
  rw [List.any_map, List.any_eq_true]
  constructor
  · rintro ⟨⟨a, b⟩, he, h⟩
    have h' : (decide (((b : Int)).toNat = v) && bfs.hitB (r : Int) X ((a : Int)).toNat) = true := h
    rw [Bool.and_eq_true, Int.toNat_natCast, Int.toNat_natCast] at h'
    have h1 : b = v := of_decide_eq_true h'.1
    have h2 : ((X.getD a 0 : Nat) : Int) = (r : Int) := of_decide_eq_true h'.2
    refine ⟨a, ?_, by omega⟩
    rw [outs_mem, ← h1]
    exact he
  · rintro ⟨u, hu, hx⟩
    refine ⟨(u, v), (outs_mem l u v).1 hu, ?_⟩
    simp only [Function.comp, trip, Int.toNat_natCast, bfs.hitB, hx]
    simp
section
variable {l : List E} {n s r : Nat} {X : List Nat}
/-- where a vertex of just that distance leads to it -/
theorem from_dist (hl : ∀ e ∈ l, e.1 < n ∧ e.2 < n) (hn : n ≤ 256) (hs : s < n) (h : BRow (outs l) s n r X) (hr : r ≤ n) {v : Nat} : fromB r X (flat l) v = true ↔ ∃ u, v ∈ outs l u ∧ Dist (outs l) s u r := by
  rw [fromB_iff]
  constructor
  · rintro ⟨u, hu, hx⟩
    have hun : u < n := (hl _ ((outs_mem l u v).1 hu)).1
    rcases h.2 u hun with ⟨d, hd, hD, e⟩ | ⟨_, e⟩
    · rw [hx] at e; subst e; exact ⟨u, hu, hD⟩
    · rw [hx] at e; unfold FAR at e; omega
  · rintro ⟨u, hu, hD⟩
    have hun : u < n := (hl _ ((outs_mem l u v).1 hu)).1
    rcases h.2 u hun with ⟨d, hd, hD', e⟩ | ⟨hno, e⟩
    · have := hD.uniq hD'
      exact ⟨u, hu, by omega⟩
    · exact absurd hD.1 hno
theorem acc_get (hl : ∀ e ∈ l, e.1 < n ∧ e.2 < n) {v : Nat} (hv : v < n) : ((flat l).foldl (bfs.step (r : Int) X) (bfs.bY n)).getD v 0 = if fromB r X (flat l) v then min FAR (r + 1) else FAR := by
  have hY : (bfs.bY n).getD v 0 = FAR := by
    simp only [bfs.bY, List.getD_eq_getElem?_getD, List.getElem?_map]
    rw [List.getElem?_range hv]
    rfl
  rw [bfs_fold r X (flat l) (bfs.bY n) (by simpa [bfs.bY] using hv), hY]
theorem outs_lt (hl : ∀ e ∈ l, e.1 < n ∧ e.2 < n) (a b : Nat) (h : b ∈ outs l a) : b < n := (hl _ ((outs_mem l a b).1 h)).2
theorem brow_next (hl : ∀ e ∈ l, e.1 < n ∧ e.2 < n) (hn : n ≤ 256) (hs : s < n) (h : BRow (outs l) s n r X) (hr : r ≤ n) : BRow (outs l) s n (r + 1) (bfs.cXs 0 X ((flat l).foldl (bfs.step (r : Int) X) (bfs.bY n))) := by
  refine ⟨by simp [bfs.cXs, h.1], fun v hv => ?_⟩
  have e1 : (bfs.cXs 0 X ((flat l).foldl (bfs.step (r : Int) X) (bfs.bY n))).getD v 0 = min (X.getD v 0) (((flat l).foldl (bfs.step (r : Int) X) (bfs.bY n)).getD v 0) := by
    unfold bfs.cXs
    rw [List.getD_eq_getElem?_getD, List.getElem?_map, List.getElem?_range (by rw [h.1]; exact hv)]
    rfl
  rw [e1, acc_get hl hv]
  rcases h.2 v hv with ⟨d, hd, hD, e⟩ | ⟨hno, e⟩
  · refine .inl ⟨d, by omega, hD, ?_⟩
    rw [e]
    unfold FAR
    split <;> omega
  · rw [e]
    by_cases hf : fromB r X (flat l) v = true
    · obtain ⟨u, hu, hD⟩ := (from_dist hl hn hs h hr).1 hf
      refine .inl ⟨r + 1, Nat.le_refl _, ⟨hD.1.step hu, fun j hj hR => hno (hR.mono (by omega))⟩, ?_⟩
      rw [if_pos hf]
      unfold FAR
      omega
    · refine .inr ⟨?_, by rw [if_neg hf]; simp⟩
      intro hR
      obtain ⟨d, hd, hD⟩ := hR.dist
      have hdr : d = r + 1 := by
        rcases Nat.lt_or_ge d (r + 1) with h1 | h1
        · exact absurd (hD.1.mono (by omega)) hno
        · omega
      subst hdr
      obtain ⟨u, hu, hv2⟩ := hD.pred
      exact hf ((from_dist hl hn hs h hr).2 ⟨u, hv2, hu⟩)
theorem bdone (hl : ∀ e ∈ l, e.1 < n ∧ e.2 < n) (hn : n ≤ 256) (hs : s < n) (h : BRow (outs l) s n r X) (hr : r ≤ n) : bfs.cDone 0 X ((flat l).foldl (bfs.step (r : Int) X) (bfs.bY n)) = true ↔ ∀ v, ¬ Dist (outs l) s v (r + 1) := by
  unfold bfs.cDone bfs.cAll
  rw [h.1, List.all_eq_true]
  constructor
  · intro ha v hD
    have hv : v < n := hD.1.lt (outs_lt hl) hs
    have h1 := ha v (List.mem_range.2 hv)
    rw [acc_get hl hv] at h1
    obtain ⟨u, hu, hv2⟩ := hD.pred
    rw [if_pos ((from_dist hl hn hs h hr).2 ⟨u, hv2, hu⟩)] at h1
    rcases h.2 v hv with ⟨d, hd, hD', e⟩ | ⟨_, e⟩
    · have := hD.uniq hD'; omega
    · rw [e] at h1
      unfold bfs.cD FAR at h1
      simp at h1
      omega
  · intro ha v hv
    have hv := List.mem_range.1 hv
    rw [acc_get hl hv]
    by_cases hf : fromB r X (flat l) v = true
    · obtain ⟨u, hu, hD⟩ := (from_dist hl hn hs h hr).1 hf
      rcases h.2 v hv with ⟨d, hd, hD', e⟩ | ⟨hno, e⟩
      · rw [if_pos hf, e]
        unfold bfs.cD FAR
        simp
        omega
      · exact absurd (show Dist (outs l) s v (r + 1) from ⟨hD.1.step hu, fun j hj hR => hno (hR.mono (by omega))⟩) (ha v)
    · rw [if_neg hf]
      rcases h.2 v hv with ⟨d, hd, hD', e⟩ | ⟨hno, e⟩
      · rw [e]
        have := hD'.lt (outs_lt hl) hs
        unfold bfs.cD FAR
        simp
        omega
      · rw [e]
        simp [bfs.cD]
theorem bfs_kst (hl : ∀ e ∈ l, e.1 < n ∧ e.2 < n) (hn : n ≤ 256) (hs : s < n) : ∀ r, r ≤ n + 1 → BRow (outs l) s n r (kst (kdOf 1 s) n [flat l] r).1 ∧ (kst (kdOf 1 s) n [flat l] r).2 = bfs.bY n
  | 0, _ => by
    refine ⟨⟨by simp [kst, kdOf, bfs.bX], fun v hv => ?_⟩, rfl⟩
    have e1 : (kst (kdOf 1 s) n [flat l] 0).1.getD v 0 = bfs.fX (s : Int) v := by
      show (bfs.bX n (s : Int)).getD v 0 = _
      unfold bfs.bX
      rw [List.getD_eq_getElem?_getD, List.getElem?_map, List.getElem?_range hv]
      rfl
    rw [e1]
    by_cases h : v = s
    · subst h
      exact .inl ⟨0, Nat.le_refl _, Dist.self, by simp [bfs.fX]⟩
    · exact .inr ⟨h, by unfold bfs.fX FAR; rw [if_neg (by omega)]⟩
  | r + 1, hr => by
    obtain ⟨h1, h2⟩ := bfs_kst hl hn hs r (by omega)
    have e1 : kst (kdOf 1 s) n [flat l] (r + 1) = (bfs.cXs (s : Int) (kst (kdOf 1 s) n [flat l] r).1 ((flat l).foldl (bfs.step (r : Int) (kst (kdOf 1 s) n [flat l] r).1) (kst (kdOf 1 s) n [flat l] r).2), bfs.cYs (s : Int) (kst (kdOf 1 s) n [flat l] r).1 ((flat l).foldl (bfs.step (r : Int) (kst (kdOf 1 s) n [flat l] r).1) (kst (kdOf 1 s) n [flat l] r).2)) := rfl
    rw [e1, h2]
    refine ⟨brow_next hl hn hs h1 (by omega), ?_⟩
    show bfs.cYs (s : Int) _ _ = _
    unfold bfs.cYs bfs.bY
    rw [h1.1]
    rfl
/-- a row of distances, the greatest of which is G: behind G + 1 rounds it is there -/
theorem bfs_runs (hl : ∀ e ∈ l, e.1 < n ∧ e.2 < n) (hn : n ≤ 256) (hs : s < n) {out : List Nat} (ho : FarRow (outs l) s n out) {G : Nat} (hG : ∃ v, Dist (outs l) s v G) (hG2 : ∀ v d, Dist (outs l) s v d → d ≤ G) :
    kruns 1 s n l = G + 1 ∧ kout 1 s n l = out := by
  have hGn : G < n := by obtain ⟨v, hv⟩ := hG; exact hv.lt (outs_lt hl) hs
  have hd : ∀ r, r ≤ n → (kdn (kdOf 1 s) n [flat l] r = true ↔ ∀ v, ¬ Dist (outs l) s v (r + 1)) := fun r hr => by
    obtain ⟨h1, h2⟩ := bfs_kst hl hn hs r (by omega)
    have e1 : kdn (kdOf 1 s) n [flat l] r = bfs.cDone (s : Int) (kst (kdOf 1 s) n [flat l] r).1 ((flat l).foldl (bfs.step (r : Int) (kst (kdOf 1 s) n [flat l] r).1) (kst (kdOf 1 s) n [flat l] r).2) := rfl
    rw [e1, h2]
    exact bdone hl hn hs h1 hr
  have h1 : kruns 1 s n l = G + 1 := by
    unfold kruns
    refine stop_some (show G < n + 1 by omega) ((hd G (by omega)).2 (fun v hv => by have := hG2 v _ hv; omega)) (fun j hj => ?_)
    obtain ⟨v, hv⟩ := hG
    obtain ⟨u, hu⟩ := hv.level (show j + 1 ≤ G by omega)
    cases hk : kdn (kdOf 1 s) n [flat l] j with
    | false => rfl
    | true => exact absurd hu ((hd j (by omega)).1 hk u)
  refine ⟨h1, ?_⟩
  unfold kout
  rw [h1]
  obtain ⟨h2, _⟩ := bfs_kst hl hn hs (G + 1) (by omega)
  refine row_ext (by rw [h2.1, ho.1]) (fun v hv => ?_)
  rw [h2.1] at hv
  rcases h2.2 v hv with ⟨d, hd, hD, e⟩ | ⟨hno, e⟩
  · rcases ho.2 v hv with ⟨d', hD', e'⟩ | ⟨hno', _⟩
    · rw [e, e', hD.uniq hD']
    · exact absurd hD.1 (hno' d)
  · rcases ho.2 v hv with ⟨d', hD', e'⟩ | ⟨_, e'⟩
    · exact absurd (hD'.1.mono (by have := hG2 v d' hD'; omega)) hno
    · rw [e, e']
end
end Go.Proofs.Ytjdbjahgimlhbaa.Gr
end
section
set_option linter.unusedVariables false
namespace Go.Proofs.Ytjdbjahgimlhbaa
open Go.RowKit
open Gr (E T)

theorem stop_found {d : Nat → Bool} {b : Nat} (h : stopAt d b < b) : 1 ≤ stopAt d b ∧ d (stopAt d b - 1) = true := by
  unfold stopAt at *
  cases hf : (List.range b).find? d with
  | none => rw [hf] at h; simp only at h; omega
  | some r =>
    have := (List.find?_range_eq_some (i := r) (p := d)).1 hf
    exact ⟨by simp, by simpa using this.1⟩
theorem KEnd.of_lt {k arg n : Nat} {l : List E} (h : kruns k arg n l < bnd k arg n) : KEnd k arg n l := stop_found h
theorem bfs_end {l : List E} {n s : Nat} (hl : ∀ e ∈ l, e.1 < n ∧ e.2 < n) (hs : s < n) {G : Nat} (hG : ∃ v, Gr.Dist (Gr.outs l) s v G) (h : kruns 1 s n l = G + 1) : KEnd 1 s n l := by
  obtain ⟨v, hv⟩ := hG
  have := hv.lt (Gr.outs_lt hl) hs
  exact KEnd.of_lt (by rw [h]; show G + 1 < n + 1; omega)
theorem lab_end {l : List E} {n most : Nat} {out : List Nat} (hl : ∀ e ∈ l, e.1 < n ∧ e.2 < n) (ht : Gr.TLab l n out most) (h : kruns 3 0 n l = most + 1) : KEnd 3 0 n l := by
  obtain ⟨_, _, v0, hv0, hD0⟩ := ht
  have hs : out.getD v0 0 < n := (hD0.1.symm (Gr.alls_symm l)).lt (Gr.alls_lt hl) hv0
  have := hD0.lt (Gr.alls_lt hl) hs
  exact KEnd.of_lt (by rw [h]; show most + 1 < n + 1; omega)
end Go.Proofs.Ytjdbjahgimlhbaa
end
section
set_option linter.unusedVariables false
set_option maxRecDepth 100000
namespace Go.Proofs.Ytjdbjahgimlhbaa
open Go.RowKit
open Gr (E T)

set_option maxHeartbeats 4000000 in
theorem trun3 (A : Option Addr) (n m c arg prio : Nat) (need : Int) (l : List E) (w : World) (h : EdgesAt w A l) (hm : l.length = m) (hmx : m ≤ 400) (hs : Gr.Sorted l) (h1 : 1 ≤ n) (h2 : n ≤ 60) (hl : ∀ e ∈ l, e.1 < n ∧ e.2 < n ∧ e.1 ≠ e.2) (hp : prio ≤ 7) (hk : okK 3 arg n) :
    Calls Try.prog 79 #[.int .i64 (n : Int), .slice A m c, reqv 3 arg prio need] w fun e w' => ∃ g, e = .returned (.tuple #[.slice (some ⟨g, 0, none⟩) n n, .int .i64 ((kruns 3 arg n l : Nat) : Int), .int .i64 0]) ∧ w.heap.size ≤ g ∧ RowU w' g (kout 3 arg n l) ∧ Fr (fun _ => False) w w' ∧ KEnd 3 arg n l := by
  obtain ⟨W1, hW1⟩ : ∃ W1, W1 = w.alloc (reqc 3 arg prio need) := ⟨_, rfl⟩
  have F1 : Fr (fun _ => False) w W1 := by rw [hW1]; exact (Fr.refl _ _).alloc _
  have b1 : Blk W1 w.heap.size 76 #[.int .i64 3, .int .i64 (arg : Int), .int .i64 (prio : Int), .int .i64 need] := by rw [hW1]; exact Blk.new _ _ _
  have HB := hide b1
  have hE1 := h.up F1
  have HE := hide hE1
  have HF1 := hide F1
  have HZ := hide hW1
  have HNO := hide (tnormal_ok A n m c l W1 hE1 hm (by omega) hs h1 (by omega) hl)
  have HQ := hide (fun (B : Option Addr) (d : Nat) (W : World) (hf : Fr (fun _ => False) W1 W) (h' : EdgesAt W B l) => equal_ok A B m c d l W (hE1.up hf) h' hm (by omega))
  have HCK := hide (fun w => tcheck_ok 3 arg prio n need h1 (by omega) hp hk w)
  have HOF := hide (fun (W : World) (hf : Fr (fun _ => False) W1 W) => trof_ok A n m c l W (hE1.up hf) hm (by omega) h1 (by omega) hl)
  have HL := hide hl
  unfold reqv reqc at *
  clear h F1 hE1 hs b1 hW1
  go_enter Try.func79, Try.ntmps79
  go_wp2_with fail
  try simp only [show ((3 : Nat) : Int) = 3 from rfl] at HZ
  rw [← HZ.out]
  go_at_call 96
  refine HNO.out.mono ?_
  rintro e w2 ⟨A2, c2, rfl, hE2, hf⟩
  have HE2 := hide hE2
  have HF2 := hide hf
  clear hE2 hf
  go_wp2_with fail
  go_at_call 97
  refine (HQ.out A2 c2 w2 HF2.out HE2.out).mono ?_
  rintro e w3 ⟨rfl, hf⟩
  have HF3 := hide (HF2.out.then_ hf)
  have x0 := ((HB.out.fr HF3.out id).cell 0).trans rfl
  have x1 := ((HB.out.fr HF3.out id).cell 1).trans rfl
  have x2 := ((HB.out.fr HF3.out id).cell 2).trans rfl
  have x3 := ((HB.out.fr HF3.out id).cell 3).trans rfl
  clear hf HE2
  go_wp2_with fail
  go_at_call 76
  refine (HCK.out w3).mono ?_
  rintro e w4 ⟨rfl, hf⟩
  have HF4 := hide (HF3.out.then_ hf)
  clear hf x0 x1 x2 x3
  go_wp2_with fail
  go_at_call 98
  refine (HOF.out w4 HF4.out).mono ?_
  rintro e w5 ⟨H, Bg, o, a, rfl, hG, hf⟩
  obtain ⟨W6, hW6⟩ : ∃ W6, W6 = w5.alloc (.cells #[.int .i64 (n : Int), .slice (some ⟨o, 0, none⟩) n n, .slice (some ⟨a, 0, none⟩) n n] 141) := ⟨_, rfl⟩
  have F6 : Fr (fun _ => False) w5 W6 := by rw [hW6]; exact (Fr.refl _ _).alloc _
  have b6 : Blk W6 w5.heap.size 141 #[.int .i64 (n : Int), .slice (some ⟨o, 0, none⟩) n n, .slice (some ⟨a, 0, none⟩) n n] := by rw [hW6]; exact Blk.new _ _ _
  have HG6 := hide (hG.up F6)
  have HF6 := hide (HF4.out.then_ (hf.then_ F6))
  have HZ6 := hide hW6
  have bq := HB.out.fr HF6.out id
  have HCL := hide (fun W (hf : Fr (fun _ => False) W6 W) => (⟨((bq.fr hf id).cell 0).trans rfl, ((bq.fr hf id).cell 1).trans rfl, ((b6.fr hf id).cell 0).trans rfl, ((b6.fr hf id).cell 1).trans rfl, ((b6.fr hf id).cell 2).trans rfl⟩ :
    W.cell? ⟨w.heap.size, 0, none⟩ = some (.int .i64 3) ∧ W.cell? ⟨w.heap.size, 1, none⟩ = some (.int .i64 (arg : Int)) ∧ W.cell? ⟨w5.heap.size, 0, none⟩ = some (.int .i64 (n : Int)) ∧ W.cell? ⟨w5.heap.size, 1, none⟩ = some (.slice (some ⟨o, 0, none⟩) n n) ∧ W.cell? ⟨w5.heap.size, 2, none⟩ = some (.slice (some ⟨a, 0, none⟩) n n)))
  have x0 : (w5.alloc (.cells #[.int .i64 (n : Int), .slice (some ⟨o, 0, none⟩) n n, .slice (some ⟨a, 0, none⟩) n n] 141)).cell? ⟨w.heap.size, 0, none⟩ = some (.int .i64 3) := by rw [← hW6]; exact (HCL.out W6 (Fr.refl _ _)).1
  clear hG hf F6 b6 bq hW6
  have xs := HCL.out W6 (Fr.refl _ _)
  rw [HZ6.out] at xs
  obtain ⟨y0, y1, y2, y3, y4⟩ := xs
  obtain rfl : arg = 0 := by unfold okK at hk; omega
  have HLL := hide (fun e he => (⟨(HL.out e he).1, (HL.out e he).2.1⟩ : (e : E).1 < n ∧ e.2 < n))
  go_wp2_with fail
  rw [← HZ6.out]
  go_at_call 102
  refine (tlabels_ok H Bg o a n l W6 HG6.out h1 (by omega) (by omega) HL.out).mono ?_
  rintro e w7 ⟨g, Y, most, rfl, hg, hr, hlab, hmost, hf⟩
  have HR7 := hide hr
  have HF7 := hide hf
  have HC7 := hide (Gr.lab_runs HLL.out hlab)
  have HE7 := hide (lab_end HLL.out hlab HC7.out.1)
  clear hr hf y0 y1 y2 y3 y4 hlab
  go_wp2
  go_ret3
  have sz := HF6.out.size
  have sz1 := HF1.out.size
  obtain ⟨r1, r2⟩ := HC7.out
  have he := HE7.out
  exact ⟨g, by rw [r1]; push_cast; rfl, by show w.heap.size ≤ g; have : W6.heap.size ≤ g := hg; omega, by rw [r2]; exact HR7.out, HF1.out.trans (HF6.out.then_ HF7.out) (fun k h => h.elim), he⟩
set_option maxHeartbeats 1600000 in
theorem tof3 (A : Option Addr) (n m c arg prio : Nat) (need : Int) (l : List E) (w : World) (h : EdgesAt w A l) (hm : l.length = m) (hmx : m ≤ 400) (hs : Gr.Sorted l) (h1 : 1 ≤ n) (h2 : n ≤ 60) (hl : ∀ e ∈ l, e.1 < n ∧ e.2 < n ∧ e.1 ≠ e.2) (hp : prio ≤ 7) (hk : okK 3 arg n) :
    Calls Try.prog 47 #[.int .i64 (n : Int), .slice A m c, reqv 3 arg prio need] w fun e w' => ∃ g, e = .returned (.tuple #[.slice (some ⟨g, 0, none⟩) n n, .int .i64 0]) ∧ w.heap.size ≤ g ∧ RowU w' g (kout 3 arg n l) ∧ Fr (fun _ => False) w w' ∧ KEnd 3 arg n l := by
  have F1 := hide ((Fr.refl (fun _ => False) w).alloc (reqc 3 arg prio need))
  have HR := hide (fun (W : World) (hf : Fr (fun _ => False) w W) => trun3 A n m c arg prio need l W (h.up hf) hm hmx hs h1 h2 hl hp hk)
  have HZ := hide (show (w.alloc (reqc 3 arg prio need)).heap.size = w.heap.size + 1 by simp)
  clear h hs hl hk
  unfold reqv reqc at *
  go_enter Try.func47, Try.ntmps47
  go_wp2_with fail
  go_at_call 79
  refine (HR.out _ F1.out).mono ?_
  rintro e w1 ⟨g, rfl, hg, hr, hf, he⟩
  have HB := hide hr
  have HEn := hide he
  have HF := hide (F1.out.then_ hf)
  have hg2 : w.heap.size ≤ g := by have := HZ.out; omega
  clear hr hf hg
  go_wp2
  go_ret2
  exact ⟨g, by first | rfl | trivial, hg2, HB.out, HF.out, HEn.out⟩
set_option maxHeartbeats 1600000 in
theorem trounds3 (A : Option Addr) (n m c arg prio : Nat) (need : Int) (l : List E) (w : World) (h : EdgesAt w A l) (hm : l.length = m) (hmx : m ≤ 400) (hs : Gr.Sorted l) (h1 : 1 ≤ n) (h2 : n ≤ 60) (hl : ∀ e ∈ l, e.1 < n ∧ e.2 < n ∧ e.1 ≠ e.2) (hp : prio ≤ 7) (hk : okK 3 arg n) :
    Calls Try.prog 48 #[.int .i64 (n : Int), .slice A m c, reqv 3 arg prio need] w fun e w' => ∃ g, e = .returned (.tuple #[.int .i64 ((kruns 3 arg n l : Nat) : Int), .int .i64 0]) ∧ w.heap.size ≤ g ∧ RowU w' g (kout 3 arg n l) ∧ Fr (fun _ => False) w w' ∧ KEnd 3 arg n l := by
  have F1 := hide ((Fr.refl (fun _ => False) w).alloc (reqc 3 arg prio need))
  have HR := hide (fun (W : World) (hf : Fr (fun _ => False) w W) => trun3 A n m c arg prio need l W (h.up hf) hm hmx hs h1 h2 hl hp hk)
  have HZ := hide (show (w.alloc (reqc 3 arg prio need)).heap.size = w.heap.size + 1 by simp)
  clear h hs hl hk
  unfold reqv reqc at *
  go_enter Try.func48, Try.ntmps48
  go_wp2_with fail
  go_at_call 79
  refine (HR.out _ F1.out).mono ?_
  rintro e w1 ⟨g, rfl, hg, hr, hf, he⟩
  have HB := hide hr
  have HEn := hide he
  have HF := hide (F1.out.then_ hf)
  have hg2 : w.heap.size ≤ g := by have := HZ.out; omega
  clear hr hf hg
  go_wp2
  go_ret2
  exact ⟨g, by first | rfl | trivial, hg2, HB.out, HF.out, HEn.out⟩
end Go.Proofs.Ytjdbjahgimlhbaa
end
