/- Parts of the proof of BfsWhole: no conditions of their own. -/
import Derived.Test.YtjdbjahgimlhbaaWhPk11
import Derived.Test.YtjdbjahgimlhbaaWhPk12
import Derived.Test.YtjdbjahgimlhbaaWhPk16
section
set_option linter.unusedVariables false
namespace Go.Proofs.Ytjdbjahgimlhbaa.Gr
open Go.RowKit

/-- the distances up to so many -/
def BRow (nb : Nat → List Nat) (s n r : Nat) (X : List Nat) : Prop := X.length = n ∧ ∀ v, v < n → (∃ d, d ≤ r ∧ Dist nb s v d ∧ X.getD v 0 = d) ∨ (¬ Rch nb s r v ∧ X.getD v 0 = FAR)
/-- what the edges say of a vertex -/
def fromB (r : Nat) (X : List Nat) (L : List T) (v : Nat) : Bool := L.any fun e => decide (e.2.1.toNat = v) && bfs.hitB (r : Int) X e.1.toNat
theorem bfs_get (r : Nat) (X s : List Nat) (e : T) {v : Nat} (hv : v < s.length) : (bfs.step (r : Int) X s e).getD v 0 = if decide (e.2.1.toNat = v) && bfs.hitB (r : Int) X e.1.toNat then min (s.getD v 0) (r + 1) else s.getD v 0 := by
  rw [bfs_step]
  by_cases hh : bfs.hitB (r : Int) X e.1.toNat = true
  · have hx : X.getD e.1.toNat 0 = r := by have : ((X.getD e.1.toNat 0 : Nat) : Int) = (r : Int) := of_decide_eq_true hh; omega
    rw [if_pos hh, upd_get, hh, hx]
    by_cases h : e.2.1.toNat = v
    · simp [h, hv, least]
    · simp [h]
  · rw [if_neg hh]
    simp [hh]
theorem bfs_fold (r : Nat) (X : List Nat) {v : Nat} : ∀ (L : List T) (s : List Nat), v < s.length → (L.foldl (bfs.step (r : Int) X) s).getD v 0 = if fromB r X L v then min (s.getD v 0) (r + 1) else s.getD v 0
  | [], s, _ => rfl
  | e :: L, s, hv => by
    rw [List.foldl_cons, bfs_fold r X L _ (by rw [bfs.step_len]; exact hv), bfs_get r X s e hv]
    unfold fromB
    rw [List.any_cons]
    generalize (decide (e.2.1.toNat = v) && bfs.hitB (r : Int) X e.1.toNat) = a
    generalize (L.any fun e => decide (e.2.1.toNat = v) && bfs.hitB (r : Int) X e.1.toNat) = b
    cases a <;> cases b <;> simp <;> omega
theorem fromB_iff (r : Nat) (X : List Nat) (l : List E) (v : Nat) : fromB r X (flat l) v = true ↔ ∃ u, v ∈ outs l u ∧ X.getD u 0 = r := by
  unfold fromB flat
  rw [List.any_map, List.any_eq_true]
  constructor
  · rintro ⟨⟨a, b⟩, he, h⟩
    have h' : (decide (((b : Int)).toNat = v) && bfs.hitB (r : Int) X ((a : Int)).toNat) = true := h
    rw [Bool.and_eq_true, Int.toNat_natCast, Int.toNat_natCast] at h'
    have h1 : b = v := of_decide_eq_true h'.1
    have h2 : ((X.getD a 0 : Nat) : Int) = (r : Int) := of_decide_eq_true h'.2
    refine ⟨a, ?_, by omega⟩
    rw [outs_mem, ← h1]
    exact he
  · rintro ⟨u, hu, hx⟩
    refine ⟨(u, v), (outs_mem l u v).1 hu, ?_⟩
    simp only [Function.comp, trip, Int.toNat_natCast, bfs.hitB, hx]
    simp
section
variable {l : List E} {n s r : Nat} {X : List Nat}
/-- where a vertex of just that distance leads to it -/
theorem from_dist (hl : ∀ e ∈ l, e.1 < n ∧ e.2 < n) (hn : n ≤ 256) (hs : s < n) (h : BRow (outs l) s n r X) (hr : r ≤ n) {v : Nat} : fromB r X (flat l) v = true ↔ ∃ u, v ∈ outs l u ∧ Dist (outs l) s u r := by
  rw [fromB_iff]
  constructor
  · rintro ⟨u, hu, hx⟩
    have hun : u < n := (hl _ ((outs_mem l u v).1 hu)).1
    rcases h.2 u hun with ⟨d, hd, hD, e⟩ | ⟨_, e⟩
    · rw [hx] at e; subst e; exact ⟨u, hu, hD⟩
    · rw [hx] at e; unfold FAR at e; omega
  · rintro ⟨u, hu, hD⟩
    have hun : u < n := (hl _ ((outs_mem l u v).1 hu)).1
    rcases h.2 u hun with ⟨d, hd, hD', e⟩ | ⟨hno, e⟩
    · have := hD.uniq hD'
      exact ⟨u, hu, by omega⟩
    · exact absurd hD.1 hno
theorem acc_get (hl : ∀ e ∈ l, e.1 < n ∧ e.2 < n) {v : Nat} (hv : v < n) : ((flat l).foldl (bfs.step (r : Int) X) (bfs.bY n)).getD v 0 = if fromB r X (flat l) v then min FAR (r + 1) else FAR := by
  have hY : (bfs.bY n).getD v 0 = FAR := by
    simp only [bfs.bY, List.getD_eq_getElem?_getD, List.getElem?_map]
    rw [List.getElem?_range hv]
    rfl
  rw [bfs_fold r X (flat l) (bfs.bY n) (by simpa [bfs.bY] using hv), hY]
theorem outs_lt (hl : ∀ e ∈ l, e.1 < n ∧ e.2 < n) (a b : Nat) (h : b ∈ outs l a) : b < n := (hl _ ((outs_mem l a b).1 h)).2
theorem brow_next (hl : ∀ e ∈ l, e.1 < n ∧ e.2 < n) (hn : n ≤ 256) (hs : s < n) (h : BRow (outs l) s n r X) (hr : r ≤ n) : BRow (outs l) s n (r + 1) (bfs.cXs 0 X ((flat l).foldl (bfs.step (r : Int) X) (bfs.bY n))) := by
  refine ⟨by simp [bfs.cXs, h.1], fun v hv => ?_⟩
  have e1 : (bfs.cXs 0 X ((flat l).foldl (bfs.step (r : Int) X) (bfs.bY n))).getD v 0 = min (X.getD v 0) (((flat l).foldl (bfs.step (r : Int) X) (bfs.bY n)).getD v 0) := by
    unfold bfs.cXs
    rw [List.getD_eq_getElem?_getD, List.getElem?_map, List.getElem?_range (by rw [h.1]; exact hv)]
    rfl
  rw [e1, acc_get hl hv]
  rcases h.2 v hv with ⟨d, hd, hD, e⟩ | ⟨hno, e⟩
  · refine .inl ⟨d, by omega, hD, ?_⟩
    rw [e]
    unfold FAR
    split <;> omega
  · rw [e]
    by_cases hf : fromB r X (flat l) v = true
    · obtain ⟨u, hu, hD⟩ := (from_dist hl hn hs h hr).1 hf
      refine .inl ⟨r + 1, Nat.le_refl _, ⟨hD.1.step hu, fun j hj hR => hno (hR.mono (by omega))⟩, ?_⟩
      rw [if_pos hf]
      unfold FAR
      omega
    · refine .inr ⟨?_, by rw [if_neg hf]; simp⟩
      intro hR
      obtain ⟨d, hd, hD⟩ := hR.dist
      have hdr : d = r + 1 := by
        rcases Nat.lt_or_ge d (r + 1) with h1 | h1
        · exact absurd (hD.1.mono (by omega)) hno
        · omega
      subst hdr
      obtain ⟨u, hu, hv2⟩ := hD.pred
      exact hf ((from_dist hl hn hs h hr).2 ⟨u, hv2, hu⟩)
theorem bdone (hl : ∀ e ∈ l, e.1 < n ∧ e.2 < n) (hn : n ≤ 256) (hs : s < n) (h : BRow (outs l) s n r X) (hr : r ≤ n) : bfs.cDone 0 X ((flat l).foldl (bfs.step (r : Int) X) (bfs.bY n)) = true ↔ ∀ v, ¬ Dist (outs l) s v (r + 1) := by
  unfold bfs.cDone bfs.cAll
  rw [h.1, List.all_eq_true]
  constructor
  · intro ha v hD
    have hv : v < n := hD.1.lt (outs_lt hl) hs
    have h1 := ha v (List.mem_range.2 hv)
    rw [acc_get hl hv] at h1
    obtain ⟨u, hu, hv2⟩ := hD.pred
    rw [if_pos ((from_dist hl hn hs h hr).2 ⟨u, hv2, hu⟩)] at h1
    rcases h.2 v hv with ⟨d, hd, hD', e⟩ | ⟨_, e⟩
    · have := hD.uniq hD'; omega
    · rw [e] at h1
      unfold bfs.cD FAR at h1
      simp at h1
      omega
  · intro ha v hv
    have hv := List.mem_range.1 hv
    rw [acc_get hl hv]
    by_cases hf : fromB r X (flat l) v = true
    · obtain ⟨u, hu, hD⟩ := (from_dist hl hn hs h hr).1 hf
      rcases h.2 v hv with ⟨d, hd, hD', e⟩ | ⟨hno, e⟩
      · rw [if_pos hf, e]
        unfold bfs.cD FAR
        simp
        omega
      · exact absurd (show Dist (outs l) s v (r + 1) from ⟨hD.1.step hu, fun j hj hR => hno (hR.mono (by omega))⟩) (ha v)
    · rw [if_neg hf]
      rcases h.2 v hv with ⟨d, hd, hD', e⟩ | ⟨hno, e⟩
      · rw [e]
        have := hD'.lt (outs_lt hl) hs
        unfold bfs.cD FAR
        simp
        omega
      · rw [e]
        simp [bfs.cD]
theorem bfs_kst (hl : ∀ e ∈ l, e.1 < n ∧ e.2 < n) (hn : n ≤ 256) (hs : s < n) : ∀ r, r ≤ n + 1 → BRow (outs l) s n r (kst (kdOf 1 s) n [flat l] r).1 ∧ (kst (kdOf 1 s) n [flat l] r).2 = bfs.bY n
  | 0, _ => by
    refine ⟨⟨by simp [kst, kdOf, bfs.bX], fun v hv => ?_⟩, rfl⟩
    have e1 : (kst (kdOf 1 s) n [flat l] 0).1.getD v 0 = bfs.fX (s : Int) v := by
      show (bfs.bX n (s : Int)).getD v 0 = _
      unfold bfs.bX
      rw [List.getD_eq_getElem?_getD, List.getElem?_map, List.getElem?_range hv]
      rfl
    rw [e1]
    by_cases h : v = s
    · subst h
      exact .inl ⟨0, Nat.le_refl _, Dist.self, by simp [bfs.fX]⟩
    · exact .inr ⟨h, by unfold bfs.fX FAR; rw [if_neg (by omega)]⟩
  | r + 1, hr => by
    obtain ⟨h1, h2⟩ := bfs_kst hl hn hs r (by omega)
    have e1 : kst (kdOf 1 s) n [flat l] (r + 1) = (bfs.cXs (s : Int) (kst (kdOf 1 s) n [flat l] r).1 ((flat l).foldl (bfs.step (r : Int) (kst (kdOf 1 s) n [flat l] r).1) (kst (kdOf 1 s) n [flat l] r).2), bfs.cYs (s : Int) (kst (kdOf 1 s) n [flat l] r).1 ((flat l).foldl (bfs.step (r : Int) (kst (kdOf 1 s) n [flat l] r).1) (kst (kdOf 1 s) n [flat l] r).2)) := rfl
    rw [e1, h2]
    refine ⟨brow_next hl hn hs h1 (by omega), ?_⟩
    show bfs.cYs (s : Int) _ _ = _
    unfold bfs.cYs bfs.bY
    rw [h1.1]
    rfl
/-- a row of distances, the greatest of which is G: behind G + 1 rounds it is there -/
theorem bfs_runs (hl : ∀ e ∈ l, e.1 < n ∧ e.2 < n) (hn : n ≤ 256) (hs : s < n) {out : List Nat} (ho : FarRow (outs l) s n out) {G : Nat} (hG : ∃ v, Dist (outs l) s v G) (hG2 : ∀ v d, Dist (outs l) s v d → d ≤ G) :
    kruns 1 s n l = G + 1 ∧ kout 1 s n l = out := by
  have hGn : G < n := by obtain ⟨v, hv⟩ := hG; exact hv.lt (outs_lt hl) hs
  have hd : ∀ r, r ≤ n → (kdn (kdOf 1 s) n [flat l] r = true ↔ ∀ v, ¬ Dist (outs l) s v (r + 1)) := fun r hr => by
    obtain ⟨h1, h2⟩ := bfs_kst hl hn hs r (by omega)
    have e1 : kdn (kdOf 1 s) n [flat l] r = bfs.cDone (s : Int) (kst (kdOf 1 s) n [flat l] r).1 ((flat l).foldl (bfs.step (r : Int) (kst (kdOf 1 s) n [flat l] r).1) (kst (kdOf 1 s) n [flat l] r).2) := rfl
    rw [e1, h2]
    exact bdone hl hn hs h1 hr
  have h1 : kruns 1 s n l = G + 1 := by
    unfold kruns
    refine stop_some (show G < n + 1 by omega) ((hd G (by omega)).2 (fun v hv => by have := hG2 v _ hv; omega)) (fun j hj => ?_)
    obtain ⟨v, hv⟩ := hG
    obtain ⟨u, hu⟩ := hv.level (show j + 1 ≤ G by omega)
    cases hk : kdn (kdOf 1 s) n [flat l] j with
    | false => rfl
    | true => exact absurd hu ((hd j (by omega)).1 hk u)
  refine ⟨h1, ?_⟩
  unfold kout
  rw [h1]
  obtain ⟨h2, _⟩ := bfs_kst hl hn hs (G + 1) (by omega)
  refine row_ext (by rw [h2.1, ho.1]) (fun v hv => ?_)
  rw [h2.1] at hv
  rcases h2.2 v hv with ⟨d, hd, hD, e⟩ | ⟨hno, e⟩
  · rcases ho.2 v hv with ⟨d', hD', e'⟩ | ⟨hno', _⟩
    · rw [e, e', hD.uniq hD']
    · exact absurd hD.1 (hno' d)
  · rcases ho.2 v hv with ⟨d', hD', e'⟩ | ⟨_, e'⟩
    · exact absurd (hD'.1.mono (by have := hG2 v d' hD'; omega)) hno
    · rw [e, e']
end
end Go.Proofs.Ytjdbjahgimlhbaa.Gr
end
section
set_option linter.unusedVariables false
namespace Go.Proofs.Ytjdbjahgimlhbaa.Gr
open Go.RowKit

theorem alls_symm (l : List E) (a b : Nat) (h : b ∈ alls l a) : a ∈ alls l b := by
  rw [alls_mem] at *
  exact h.symm
theorem alls_lt {l : List E} {n : Nat} (hl : ∀ e ∈ l, e.1 < n ∧ e.2 < n) (a b : Nat) (h : b ∈ alls l a) : b < n := by
  rw [alls_mem] at h
  rcases h with h | h
  · exact (hl _ h).2
  · exact (hl _ h).1
/-- the least vertex from which one is reached within so many steps -/
def LRow (l : List E) (n r : Nat) (X : List Nat) : Prop := X.length = n ∧ ∀ v, v < n → Rch (alls l) (X.getD v 0) r v ∧ ∀ s, Rch (alls l) s r v → X.getD v 0 ≤ s
/-- what a fold of the labels' steps makes of a vertex -/
theorem lab_get (X s : List Nat) (e : T) {v : Nat} (hv : v < s.length) : (labels.step X s e).getD v 0 = min (if e.2.1.toNat = v then min (s.getD v 0) (X.getD e.1.toNat 0) else s.getD v 0) (if e.1.toNat = v then X.getD e.2.1.toNat 0 else s.getD v 0) := by
  rw [labels_step, upd_get, upd_len, upd_get]
  unfold least
  by_cases h1 : e.1.toNat = v <;> by_cases h2 : e.2.1.toNat = v <;> simp only [h1, h2, hv, and_self, and_true, true_and, if_true, if_false, false_and] <;> omega
theorem alls_cons (e : E) (l : List E) (v u : Nat) : u ∈ alls (e :: l) v ↔ (e.1 = v ∧ u = e.2) ∨ (e.2 = v ∧ u = e.1) ∨ u ∈ alls l v := by
  unfold alls
  rw [List.flatMap_cons, List.mem_append, List.mem_append]
  by_cases h1 : e.1 = v <;> by_cases h2 : e.2 = v <;> simp [h1, h2]
theorem lab_fold (X : List Nat) (m : List E) {v : Nat} : ∀ (l : List E) (s : List Nat), v < s.length →
    (((l.map (trip m)).foldl (labels.step X) s).getD v 0 ≤ s.getD v 0 ∧ (∀ u ∈ alls l v, ((l.map (trip m)).foldl (labels.step X) s).getD v 0 ≤ X.getD u 0) ∧ (((l.map (trip m)).foldl (labels.step X) s).getD v 0 = s.getD v 0 ∨ ∃ u ∈ alls l v, ((l.map (trip m)).foldl (labels.step X) s).getD v 0 = X.getD u 0))
  | [], s, _ => ⟨Nat.le_refl _, (fun u hu => by cases hu), .inl rfl⟩
  | e :: l, s, hv => by
    rw [List.map_cons, List.foldl_cons]
    obtain ⟨h1, h2, h3⟩ := lab_fold X m l (labels.step X s (trip m e)) (by rw [labels.step_len]; exact hv)
    have hg := lab_get X s (trip m e) hv
    have e1 : (trip m e).1.toNat = e.1 := by simp [trip]
    have e2 : (trip m e).2.1.toNat = e.2 := by simp [trip]
    rw [e1, e2] at hg
    rw [hg] at h1 h3
    generalize ((l.map (trip m)).foldl (labels.step X) (labels.step X s (trip m e))).getD v 0 = R at *
    generalize s.getD v 0 = sv at *
    refine ⟨?_, fun u hu => ?_, ?_⟩
    · split at h1 <;> split at h1 <;> omega
    · rcases (alls_cons e l v u).1 hu with ⟨a, rfl⟩ | ⟨a, rfl⟩ | hu
      · rw [if_pos a] at h1; omega
      · rw [if_pos a] at h1; omega
      · exact h2 u hu
    · rcases h3 with h3 | ⟨u, hu, h3⟩
      · by_cases a : e.1 = v <;> by_cases b : e.2 = v
        · rw [if_pos a, if_pos b] at h3
          have : R = sv ∨ R = X.getD e.1 0 ∨ R = X.getD e.2 0 := by omega
          rcases this with h | h | h
          · exact .inl h
          · exact .inr ⟨e.1, (alls_cons e l v _).2 (.inr (.inl ⟨b, rfl⟩)), h⟩
          · exact .inr ⟨e.2, (alls_cons e l v _).2 (.inl ⟨a, rfl⟩), h⟩
        · rw [if_pos a, if_neg b] at h3
          have : R = sv ∨ R = X.getD e.2 0 := by omega
          rcases this with h | h
          · exact .inl h
          · exact .inr ⟨e.2, (alls_cons e l v _).2 (.inl ⟨a, rfl⟩), h⟩
        · rw [if_neg a, if_pos b] at h3
          have : R = sv ∨ R = X.getD e.1 0 := by omega
          rcases this with h | h
          · exact .inl h
          · exact .inr ⟨e.1, (alls_cons e l v _).2 (.inr (.inl ⟨b, rfl⟩)), h⟩
        · rw [if_neg a, if_neg b] at h3
          exact .inl (by omega)
      · exact .inr ⟨u, (alls_cons e l v u).2 (.inr (.inr hu)), h3⟩
section
variable {l : List E} {n r : Nat} {X : List Nat}
theorem lrow_next (hl : ∀ e ∈ l, e.1 < n ∧ e.2 < n) (h : LRow l n r X) : LRow l n (r + 1) ((flat l).foldl (labels.step X) X) := by
  refine ⟨by rw [foldl_len (labels.step_len X)]; exact h.1, fun v hv => ?_⟩
  obtain ⟨h1, h2, h3⟩ := lab_fold X l l X (v := v) (by rw [h.1]; exact hv)
  obtain ⟨g1, g2⟩ := h.2 v hv
  unfold flat
  refine ⟨?_, fun s hs => ?_⟩
  · rcases h3 with h3 | ⟨u, hu, h3⟩
    · rw [h3]; exact g1.mono (by omega)
    · rw [h3]
      exact (h.2 u (alls_lt hl v u hu)).1.step (alls_symm l v u hu)
  · rcases hs with hs | ⟨u, hs, hu⟩
    · exact Nat.le_trans h1 (g2 s hs)
    · have hu2 := alls_symm l u v hu
      exact Nat.le_trans (h2 u hu2) ((h.2 u (alls_lt hl v u hu2)).2 s hs)
theorem lab_done (h : X.length = n) (Y : List Nat) : labels.cDone 0 X Y = true ↔ ∀ v, v < n → ¬ Y.getD v 0 < X.getD v 0 := by
  unfold labels.cDone labels.cAll labels.cD
  rw [h, List.all_eq_true]
  constructor
  · intro ha v hv
    have := ha v (List.mem_range.2 hv)
    simpa [-List.getD_eq_getElem?_getD] using this
  · intro ha v hv
    have := ha v (List.mem_range.1 hv)
    simpa [-List.getD_eq_getElem?_getD] using this
theorem lab_kst (hl : ∀ e ∈ l, e.1 < n ∧ e.2 < n) : ∀ r, LRow l n r (kst (kdOf 3 0) n [flat l] r).1 ∧ (kst (kdOf 3 0) n [flat l] r).2 = (kst (kdOf 3 0) n [flat l] r).1
  | 0 => by
    refine ⟨⟨by simp [kst, kdOf, labels.bX], fun v hv => ?_⟩, rfl⟩
    have e1 : (kst (kdOf 3 0) n [flat l] 0).1.getD v 0 = v := by
      show (labels.bX n).getD v 0 = v
      unfold labels.bX
      rw [List.getD_eq_getElem?_getD, List.getElem?_map, List.getElem?_range hv]
      rfl
    rw [e1]
    exact ⟨rfl, fun s hs => by rw [show v = s from hs]; exact Nat.le_refl _⟩
  | r + 1 => by
    obtain ⟨h1, h2⟩ := lab_kst hl r
    have hn := lrow_next hl h1
    generalize hX : (kst (kdOf 3 0) n [flat l] r).1 = X at *
    have e1 : kst (kdOf 3 0) n [flat l] (r + 1) = (labels.cXs 0 X ((flat l).foldl (labels.step X) X), labels.cYs 0 X ((flat l).foldl (labels.step X) X)) := by
      simp only [kst, hX, h2]
      rfl
    have hle : ∀ v, v < n → ((flat l).foldl (labels.step X) X).getD v 0 ≤ X.getD v 0 := fun v hv => by
      have := (lab_fold X l l X (v := v) (by rw [h1.1]; exact hv)).1
      exact this
    have e2 : labels.cXs 0 X ((flat l).foldl (labels.step X) X) = (flat l).foldl (labels.step X) X := by
      refine row_ext (by rw [hn.1]; simp [labels.cXs, h1.1]) (fun v hv => ?_)
      have hv : v < n := by simpa [labels.cXs, h1.1] using hv
      unfold labels.cXs
      rw [List.getD_eq_getElem?_getD, List.getElem?_map, List.getElem?_range (by rw [h1.1]; exact hv)]
      show labels.cX 0 (X.getD v 0) (((flat l).foldl (labels.step X) X).getD v 0) = _
      unfold labels.cX
      have := hle v hv
      omega
    have e3 : labels.cYs 0 X ((flat l).foldl (labels.step X) X) = (flat l).foldl (labels.step X) X := by
      refine row_ext (by rw [hn.1]; simp [labels.cYs, h1.1]) (fun v hv => ?_)
      have hv : v < n := by simpa [labels.cYs, h1.1] using hv
      unfold labels.cYs
      rw [List.getD_eq_getElem?_getD, List.getElem?_map, List.getElem?_range (by rw [h1.1]; exact hv)]
      rfl
    rw [e1, e2, e3]
    exact ⟨hn, rfl⟩
/-- truth's labels: each vertex's is the least that reaches it, `most` is how far that is at most -/
def TLab (l : List E) (n : Nat) (out : List Nat) (most : Nat) : Prop := out.length = n ∧ (∀ v, v < n → (∃ d, d ≤ most ∧ Dist (alls l) (out.getD v 0) v d) ∧ ∀ s r, Rch (alls l) s r v → out.getD v 0 ≤ s) ∧ ∃ v, v < n ∧ Dist (alls l) (out.getD v 0) v most
theorem lab_runs (hl : ∀ e ∈ l, e.1 < n ∧ e.2 < n) {out : List Nat} {most : Nat} (h : TLab l n out most) : kruns 3 0 n l = most + 1 ∧ kout 3 0 n l = out := by
  obtain ⟨hlen, hv, v0, hv0, hD0⟩ := h
  have hsy := alls_symm l
  have hlt := alls_lt hl
  -- the row behind r rounds, where r is at least most
  have same : ∀ r, most ≤ r → (kst (kdOf 3 0) n [flat l] r).1 = out := fun r hr => by
    obtain ⟨h1, _⟩ := lab_kst hl r
    refine row_ext (by rw [h1.1, hlen]) (fun v hvl => ?_)
    rw [h1.1] at hvl
    obtain ⟨⟨d, hd, hD⟩, hmin⟩ := hv v hvl
    obtain ⟨g1, g2⟩ := h1.2 v hvl
    have a := g2 _ (hD.1.mono (show d ≤ r by omega))
    have b := hmin _ _ g1
    omega
  have hdn : ∀ r, kdn (kdOf 3 0) n [flat l] r = labels.cDone 0 (kst (kdOf 3 0) n [flat l] r).1 (kst (kdOf 3 0) n [flat l] (r + 1)).1 := fun r => by
    obtain ⟨h1, h2⟩ := lab_kst hl r
    obtain ⟨_, h4⟩ := lab_kst hl (r + 1)
    have e1 : kdn (kdOf 3 0) n [flat l] r = labels.cDone 0 (kst (kdOf 3 0) n [flat l] r).1 ((flat l).foldl (labels.step (kst (kdOf 3 0) n [flat l] r).1) (kst (kdOf 3 0) n [flat l] r).2) := rfl
    have hn := lrow_next hl h1
    have e3 : (kst (kdOf 3 0) n [flat l] (r + 1)).2 = (flat l).foldl (labels.step (kst (kdOf 3 0) n [flat l] r).1) (kst (kdOf 3 0) n [flat l] r).1 := by
      have : (kst (kdOf 3 0) n [flat l] (r + 1)).2 = labels.cYs 0 (kst (kdOf 3 0) n [flat l] r).1 ((flat l).foldl (labels.step (kst (kdOf 3 0) n [flat l] r).1) (kst (kdOf 3 0) n [flat l] r).2) := rfl
      rw [this, h2]
      refine row_ext (by rw [hn.1]; simp [labels.cYs, h1.1]) (fun v hv => ?_)
      have hv : v < n := by simpa [labels.cYs, h1.1] using hv
      unfold labels.cYs
      rw [List.getD_eq_getElem?_getD, List.getElem?_map, List.getElem?_range (by rw [h1.1]; exact hv)]
      rfl
    rw [e1, h2, ← e3, h4]
  have hmn : most < n := by
    have hs : out.getD v0 0 < n := (hD0.1.symm hsy).lt hlt hv0
    exact hD0.lt hlt hs
  have h1 : kruns 3 0 n l = most + 1 := by
    unfold kruns
    refine stop_some (show most < n + 1 by omega) ?_ (fun r hr => ?_)
    · rw [hdn, same most (Nat.le_refl _), same (most + 1) (by omega), lab_done hlen]
      intro v _
      omega
    · rw [hdn]
      obtain ⟨k1, _⟩ := lab_kst hl r
      obtain ⟨k2, _⟩ := lab_kst hl (r + 1)
      cases hk : labels.cDone 0 (kst (kdOf 3 0) n [flat l] r).1 (kst (kdOf 3 0) n [flat l] (r + 1)).1 with
      | false => rfl
      | true =>
        exfalso
        have hk2 := (lab_done k1.1 _).1 hk
        obtain ⟨w, hw⟩ := hD0.level (show r + 1 ≤ most by omega)
        have hs : out.getD v0 0 < n := (hD0.1.symm hsy).lt hlt hv0
        have hwn : w < n := hw.1.lt hlt hs
        obtain ⟨_, wmin⟩ := hv w hwn
        obtain ⟨_, vmin⟩ := hv v0 hv0
        obtain ⟨⟨dw, _, hDw⟩, _⟩ := hv w hwn
        -- w's label is v0's
        have a1 : out.getD w 0 ≤ out.getD v0 0 := wmin _ _ hw.1
        have a2 : out.getD v0 0 ≤ out.getD w 0 := vmin _ _ (hDw.1.trans ((hw.1.symm hsy).trans hD0.1))
        obtain ⟨g1, g2⟩ := k1.2 w hwn
        obtain ⟨_, g4⟩ := k2.2 w hwn
        have b1 := g4 _ hw.1
        have b2 := wmin _ _ g1
        have b3 : (kst (kdOf 3 0) n [flat l] r).1.getD w 0 ≠ out.getD v0 0 := fun e => by
          rw [e] at g1
          exact hw.2 r (by omega) g1
        have := hk2 w hwn
        omega
  refine ⟨h1, ?_⟩
  unfold kout
  rw [h1]
  exact same (most + 1) (by omega)
end
end Go.Proofs.Ytjdbjahgimlhbaa.Gr
end
section
set_option linter.unusedVariables false
namespace Go.Proofs.Ytjdbjahgimlhbaa
open Go.RowKit
open Gr (E T)

theorem stop_found {d : Nat → Bool} {b : Nat} (h : stopAt d b < b) : 1 ≤ stopAt d b ∧ d (stopAt d b - 1) = true := by
  unfold stopAt at *
  cases hf : (List.range b).find? d with
  | none => rw [hf] at h; simp only at h; omega
  | some r =>
    have := (List.find?_range_eq_some (i := r) (p := d)).1 hf
    exact ⟨by simp, by simpa using this.1⟩
theorem KEnd.of_lt {k arg n : Nat} {l : List E} (h : kruns k arg n l < bnd k arg n) : KEnd k arg n l := stop_found h
theorem bfs_end {l : List E} {n s : Nat} (hl : ∀ e ∈ l, e.1 < n ∧ e.2 < n) (hs : s < n) {G : Nat} (hG : ∃ v, Gr.Dist (Gr.outs l) s v G) (h : kruns 1 s n l = G + 1) : KEnd 1 s n l := by
  obtain ⟨v, hv⟩ := hG
  have := hv.lt (Gr.outs_lt hl) hs
  exact KEnd.of_lt (by rw [h]; show G + 1 < n + 1; omega)
theorem lab_end {l : List E} {n most : Nat} {out : List Nat} (hl : ∀ e ∈ l, e.1 < n ∧ e.2 < n) (ht : Gr.TLab l n out most) (h : kruns 3 0 n l = most + 1) : KEnd 3 0 n l := by
  obtain ⟨_, _, v0, hv0, hD0⟩ := ht
  have hs : out.getD v0 0 < n := (hD0.1.symm (Gr.alls_symm l)).lt (Gr.alls_lt hl) hv0
  have := hD0.lt (Gr.alls_lt hl) hs
  exact KEnd.of_lt (by rw [h]; show most + 1 < n + 1; omega)
end Go.Proofs.Ytjdbjahgimlhbaa
end
