/- Parts of the proof of LabelsWhole: no conditions of their own. -/
import Derived.Test.YtjdbjahgimlhbaaWhPk12
import Derived.Test.YtjdbjahgimlhbaaLabelsWholePk0
section
set_option linter.unusedVariables false
namespace Go.Proofs.Ytjdbjahgimlhbaa.Gr
open Go.RowKit

theorem alls_symm (l : List E) (a b : Nat) (h : b ∈ alls l a) : a ∈ alls l b := by
  rw [alls_mem] at *
  exact h.symm
theorem alls_lt {l : List E} {n : Nat} (hl : ∀ e ∈ l, e.1 < n ∧ e.2 < n) (a b : Nat) (h : b ∈ alls l a) : b < n := by
  rw [alls_mem] at h
  rcases h with h | h
  · exact (hl _ h).2
  · exact (hl _ h).1
/-- the least vertex from which one is reached within so many steps -/
def LRow (l : List E) (n r : Nat) (X : List Nat) : Prop := X.length = n ∧ ∀ v, v < n → Rch (alls l) (X.getD v 0) r v ∧ ∀ s, Rch (alls l) s r v → X.getD v 0 ≤ s
/-- what a fold of the labels' steps makes of a vertex -/
theorem lab_get (X s : List Nat) (e : T) {v : Nat} (hv : v < s.length) : (labels.step X s e).getD v 0 = min (if e.2.1.toNat = v then min (s.getD v 0) (X.getD e.1.toNat 0) else s.getD v 0) (if e.1.toNat = v then X.getD e.2.1.toNat 0 else s.getD v 0) := by
  rw [labels_step, upd_get, upd_len, upd_get]
  unfold least
  by_cases h1 : e.1.toNat = v <;> by_cases h2 : e.2.1.toNat = v <;> simp only [h1, h2, hv, and_self, and_true, true_and, if_true, if_false, false_and] <;> omega
theorem alls_cons (e : E) (l : List E) (v u : Nat) : u ∈ alls (e :: l) v ↔ (e.1 = v ∧ u = e.2) ∨ (e.2 = v ∧ u = e.1) ∨ u ∈ alls l v := by
  unfold alls
  rw [List.flatMap_cons, List.mem_append, List.mem_append]
  by_cases h1 : e.1 = v <;> by_cases h2 : e.2 = v <;> simp [h1, h2]
theorem lab_fold (X : List Nat) (m : List E) {v : Nat} : ∀ (l : List E) (s : List Nat), v < s.length →
    (((l.map (trip m)).foldl (labels.step X) s).getD v 0 ≤ s.getD v 0 ∧ (∀ u ∈ alls l v, ((l.map (trip m)).foldl (labels.step X) s).getD v 0 ≤ X.getD u 0) ∧ (((l.map (trip m)).foldl (labels.step X) s).getD v 0 = s.getD v 0 ∨ ∃ u ∈ alls l v, ((l.map (trip m)).foldl (labels.step X) s).getD v 0 = X.getD u 0))
  | [], s, _ => ⟨Nat.le_refl _, (fun u hu => by cases hu), .inl rfl⟩
  | e :: l, s, hv => by
    rw [List.map_cons, List.foldl_cons]
    obtain ⟨h1, h2, h3⟩ := lab_fold X m l (labels.step X s (trip m e)) (by rw [labels.step_len]; exact hv)
    have hg := lab_get X s (trip m e) hv
    have e1 : (trip m e).1.toNat = e.1 := by simp [trip]
    have e2 : (trip m e).2.1.toNat = e.2 := by simp [trip]
    rw [e1, e2] at hg
    rw [hg] at h1 h3
    generalize ((l.map (trip m)).foldl (labels.step X) (labels.step X s (trip m e))).getD v 0 = R at *
    generalize s.getD v 0 = sv at *
    refine ⟨?_, fun u hu => ?_, ?_⟩
    · split at h1 <;> split at h1 <;> omega
    · rcases (alls_cons e l v u).1 hu with ⟨a, rfl⟩ | ⟨a, rfl⟩ | hu
      · rw [if_pos a] at h1; omega
      · rw [if_pos a] at h1; omega
      · exact h2 u hu
    · rcases h3 with h3 | ⟨u, hu, h3⟩
      · by_cases a : e.1 = v <;> by_cases b : e.2 = v
        · rw [if_pos a, if_pos b] at h3
          have : R = sv ∨ R = X.getD e.1 0 ∨ R = X.getD e.2 0 := by omega
          rcases this with h | h | h
          · exact .inl h
          · exact .inr ⟨e.1, (alls_cons e l v _).2 (.inr (.inl ⟨b, rfl⟩)), h⟩
          · exact .inr ⟨e.2, (alls_cons e l v _).2 (.inl ⟨a, rfl⟩), h⟩
        · rw [if_pos a, if_neg b] at h3
          have : R = sv ∨ R = X.getD e.2 0 := by omega
          rcases this with h | h
          · exact .inl h
          · exact .inr ⟨e.2, (alls_cons e l v _).2 (.inl ⟨a, rfl⟩), h⟩
        · rw [if_neg a, if_pos b] at h3
          have : R = sv ∨ R = X.getD e.1 0 := by omega
          rcases this with h | h
          · exact .inl h
          · exact .inr ⟨e.1, (alls_cons e l v _).2 (.inr (.inl ⟨b, rfl⟩)), h⟩
        · rw [if_neg a, if_neg b] at h3
          exact .inl (by omega)
      · exact .inr ⟨u, (alls_cons e l v u).2 (.inr (.inr hu)), h3⟩
section
variable {l : List E} {n r : Nat} {X : List Nat}
theorem lrow_next (hl : ∀ e ∈ l, e.1 < n ∧ e.2 < n) (h : LRow l n r X) : LRow l n (r + 1) ((flat l).foldl (labels.step X) X) := by
  refine ⟨by rw [foldl_len (labels.step_len X)]; exact h.1, fun v hv => ?_⟩
  obtain ⟨h1, h2, h3⟩ := lab_fold X l l X (v := v) (by rw [h.1]; exact hv)
  obtain ⟨g1, g2⟩ := h.2 v hv
  unfold flat
  refine ⟨?_, fun s hs => ?_⟩
  · rcases h3 with h3 | ⟨u, hu, h3⟩
    · rw [h3]; exact g1.mono (by omega)
    · rw [h3]
      exact (h.2 u (alls_lt hl v u hu)).1.step (alls_symm l v u hu)
  · rcases hs with hs | ⟨u, hs, hu⟩
    · exact Nat.le_trans h1 (g2 s hs)
    · have hu2 := alls_symm l u v hu
      exact Nat.le_trans (h2 u hu2) ((h.2 u (alls_lt hl v u hu2)).2 s hs)
theorem lab_done (h : X.length = n) (Y : List Nat) : labels.cDone 0 X Y = true ↔ ∀ v, v < n → ¬ Y.getD v 0 < X.getD v 0 := by
  unfold labels.cDone labels.cAll labels.cD
  rw [h, List.all_eq_true]
  constructor
  · intro ha v hv
    have := ha v (List.mem_range.2 hv)
    simpa [-List.getD_eq_getElem?_getD] using this
  · intro ha v hv
    have := ha v (List.mem_range.1 hv)
    simpa [-List.getD_eq_getElem?_getD] using this
theorem lab_kst (hl : ∀ e ∈ l, e.1 < n ∧ e.2 < n) : ∀ r, LRow l n r (kst (kdOf 3 0) n [flat l] r).1 ∧ (kst (kdOf 3 0) n [flat l] r).2 = (kst (kdOf 3 0) n [flat l] r).1
  | 0 => by
    refine ⟨⟨by simp [kst, kdOf, labels.bX], fun v hv => ?_⟩, rfl⟩
    have e1 : (kst (kdOf 3 0) n [flat l] 0).1.getD v 0 = v := by
      show (labels.bX n).getD v 0 = v
      unfold labels.bX
      rw [List.getD_eq_getElem?_getD, List.getElem?_map, List.getElem?_range hv]
      rfl
    rw [e1]
    exact ⟨rfl, fun s hs => by rw [show v = s from hs]; exact Nat.le_refl _⟩
  | r + 1 => by
    obtain ⟨h1, h2⟩ := lab_kst hl r
    have hn := lrow_next hl h1
    generalize hX : (kst (kdOf 3 0) n [flat l] r).1 = X at *
    have e1 : kst (kdOf 3 0) n [flat l] (r + 1) = (labels.cXs 0 X ((flat l).foldl (labels.step X) X), labels.cYs 0 X ((flat l).foldl (labels.step X) X)) := by
      simp only [kst, hX, h2]
      rfl
    have hle : ∀ v, v < n → ((flat l).foldl (labels.step X) X).getD v 0 ≤ X.getD v 0 := fun v hv => by
      have := (lab_fold X l l X (v := v) (by rw [h1.1]; exact hv)).1
      exact this
    have e2 : labels.cXs 0 X ((flat l).foldl (labels.step X) X) = (flat l).foldl (labels.step X) X := by
      refine row_ext (by rw [hn.1]; simp [labels.cXs, h1.1]) (fun v hv => ?_)
      have hv : v < n := by simpa [labels.cXs, h1.1] using hv
      unfold labels.cXs
      rw [List.getD_eq_getElem?_getD, List.getElem?_map, List.getElem?_range (by rw [h1.1]; exact hv)]
      show labels.cX 0 (X.getD v 0) (((flat l).foldl (labels.step X) X).getD v 0) = _
      unfold labels.cX
      have := hle v hv
      omega
    have e3 : labels.cYs 0 X ((flat l).foldl (labels.step X) X) = (flat l).foldl (labels.step X) X := by
      refine row_ext (by rw [hn.1]; simp [labels.cYs, h1.1]) (fun v hv => ?_)
      have hv : v < n := by simpa [labels.cYs, h1.1] using hv
      unfold labels.cYs
      rw [List.getD_eq_getElem?_getD, List.getElem?_map, List.getElem?_range (by rw [h1.1]; exact hv)]
      rfl
    rw [e1, e2, e3]
    exact ⟨hn, rfl⟩
/-- truth's labels: each vertex's is the least that reaches it, `most` is how far that is at most -/
def TLab (l : List E) (n : Nat) (out : List Nat) (most : Nat) : Prop := out.length = n ∧ (∀ v, v < n → (∃ d, d ≤ most ∧ Dist (alls l) (out.getD v 0) v d) ∧ ∀ s r, Rch (alls l) s r v → out.getD v 0 ≤ s) ∧ ∃ v, v < n ∧ Dist (alls l) (out.getD v 0) v most
theorem lab_runs (hl : ∀ e ∈ l, e.1 < n ∧ e.2 < n) {out : List Nat} {most : Nat} (h : TLab l n out most) : kruns 3 0 n l = most + 1 ∧ kout 3 0 n l = out := by
  obtain ⟨hlen, hv, v0, hv0, hD0⟩ := h
  have hsy := alls_symm l
  have hlt := alls_lt hl
  -- the row behind r rounds, where r is at least most
  have same : ∀ r, most ≤ r → (kst (kdOf 3 0) n [flat l] r).1 = out := fun r hr => by
    obtain ⟨h1, _⟩ := lab_kst hl r
    refine row_ext (by rw [h1.1, hlen]) (fun v hvl => ?_)
    rw [h1.1] at hvl
    obtain ⟨⟨d, hd, hD⟩, hmin⟩ := hv v hvl
    obtain ⟨g1, g2⟩ := h1.2 v hvl
    have a := g2 _ (hD.1.mono (show d ≤ r by omega))
    have b := hmin _ _ g1
    omega
  have hdn : ∀ r, kdn (kdOf 3 0) n [flat l] r = labels.cDone 0 (kst (kdOf 3 0) n [flat l] r).1 (kst (kdOf 3 0) n [flat l] (r + 1)).1 := fun r => by
    obtain ⟨h1, h2⟩ := lab_kst hl r
    obtain ⟨_, h4⟩ := lab_kst hl (r + 1)
    have e1 : kdn (kdOf 3 0) n [flat l] r = labels.cDone 0 (kst (kdOf 3 0) n [flat l] r).1 ((flat l).foldl (labels.step (kst (kdOf 3 0) n [flat l] r).1) (kst (kdOf 3 0) n [flat l] r).2) := rfl
    have hn := lrow_next hl h1
    have e3 : (kst (kdOf 3 0) n [flat l] (r + 1)).2 = (flat l).foldl (labels.step (kst (kdOf 3 0) n [flat l] r).1) (kst (kdOf 3 0) n [flat l] r).1 := by
      have : (kst (kdOf 3 0) n [flat l] (r + 1)).2 = labels.cYs 0 (kst (kdOf 3 0) n [flat l] r).1 ((flat l).foldl (labels.step (kst (kdOf 3 0) n [flat l] r).1) (kst (kdOf 3 0) n [flat l] r).2) := rfl
      rw [this, h2]
      refine row_ext (by rw [hn.1]; simp [labels.cYs, h1.1]) (fun v hv => ?_)
      have hv : v < n := by simpa [labels.cYs, h1.1] using hv
      unfold labels.cYs
      rw [List.getD_eq_getElem?_getD, List.getElem?_map, List.getElem?_range (by rw [h1.1]; exact hv)]
      rfl
    rw [e1, h2, ← e3, h4]
  have hmn : most < n := by
    have hs : out.getD v0 0 < n := (hD0.1.symm hsy).lt hlt hv0
    exact hD0.lt hlt hs
  have h1 : kruns 3 0 n l = most + 1 := by
    unfold kruns
    refine stop_some (show most < n + 1 by omega) ?_ (fun r hr => ?_)
    · rw [hdn, same most (Nat.le_refl _), same (most + 1) (by omega), lab_done hlen]
      intro v _
      omega
    · rw [hdn]
      obtain ⟨k1, _⟩ := lab_kst hl r
      obtain ⟨k2, _⟩ := lab_kst hl (r + 1)
      cases hk : labels.cDone 0 (kst (kdOf 3 0) n [flat l] r).1 (kst (kdOf 3 0) n [flat l] (r + 1)).1 with
      | false => rfl
      | true =>
        exfalso
        have hk2 := (lab_done k1.1 _).1 hk
        obtain ⟨w, hw⟩ := hD0.level (show r + 1 ≤ most by omega)
        have hs : out.getD v0 0 < n := (hD0.1.symm hsy).lt hlt hv0
        have hwn : w < n := hw.1.lt hlt hs
        obtain ⟨_, wmin⟩ := hv w hwn
        obtain ⟨_, vmin⟩ := hv v0 hv0
        obtain ⟨⟨dw, _, hDw⟩, _⟩ := hv w hwn
        -- w's label is v0's
        have a1 : out.getD w 0 ≤ out.getD v0 0 := wmin _ _ hw.1
        have a2 : out.getD v0 0 ≤ out.getD w 0 := vmin _ _ (hDw.1.trans ((hw.1.symm hsy).trans hD0.1))
        obtain ⟨g1, g2⟩ := k1.2 w hwn
        obtain ⟨_, g4⟩ := k2.2 w hwn
        have b1 := g4 _ hw.1
        have b2 := wmin _ _ g1
        have b3 : (kst (kdOf 3 0) n [flat l] r).1.getD w 0 ≠ out.getD v0 0 := fun e => by
          rw [e] at g1
          exact hw.2 r (by omega) g1
        have := hk2 w hwn
        omega
  refine ⟨h1, ?_⟩
  unfold kout
  rw [h1]
  exact same (most + 1) (by omega)
end
end Go.Proofs.Ytjdbjahgimlhbaa.Gr
end
section
set_option linter.unusedVariables false
namespace Go.Proofs.Ytjdbjahgimlhbaa.Gr
open Go.RowKit

/-- behind the first v vertices: who is reached from one of them has his label, the least; how far at most -/
structure LInv (l : List E) (n v : Nat) (Y : List Nat) (most : Nat) : Prop where
  len : Y.length = n
  lab : ∀ u, u < n → Y.getD u 0 ≠ FAR → Y.getD u 0 < v ∧ (∃ d, d ≤ most ∧ Dist (alls l) (Y.getD u 0) u d) ∧ ∀ s r, Rch (alls l) s r u → Y.getD u 0 ≤ s
  all : ∀ u, u < n → ∀ s r, s < v → Rch (alls l) s r u → Y.getD u 0 ≠ FAR
  top : most = 0 ∨ ∃ u, u < n ∧ Y.getD u 0 ≠ FAR ∧ Dist (alls l) (Y.getD u 0) u most
section
variable {l : List E} {n v most : Nat} {Y X : List Nat}
theorem LInv.start (n : Nat) (l : List E) : LInv l n 0 (List.replicate n FAR) 0 := by
  refine ⟨by simp, fun u hu h => absurd (by simp [List.getD, hu]) h, fun u hu s r hs => by omega, .inl rfl⟩
theorem LInv.skip (h : LInv l n v Y most) (hv : v < n) (hY : Y.getD v 0 ≠ FAR) : LInv l n (v + 1) Y most := by
  refine ⟨h.len, fun u hu hX => ?_, fun u hu s r hs hR => ?_, h.top⟩
  · obtain ⟨h1, h2, h3⟩ := h.lab u hu hX
    exact ⟨by omega, h2, h3⟩
  · by_cases hsv : s < v
    · exact h.all u hu s r hsv hR
    · obtain rfl : s = v := by omega
      obtain ⟨h1, ⟨d, _, h2⟩, _⟩ := h.lab s hv hY
      exact h.all u hu _ _ h1 (Rch.trans h2.1 hR)
/-- the labels with those that v reaches -/
def labF (X Y : List Nat) (v : Nat) : Nat → Nat := fun u => if X.getD u 0 = FAR then Y.getD u 0 else v
theorem labF_get {u : Nat} (hu : u < n) : ((List.range n).map (labF X Y v)).getD u 0 = if X.getD u 0 = FAR then Y.getD u 0 else v := by
  rw [List.getD_eq_getElem?_getD, List.getElem?_map, List.getElem?_range hu]; rfl
theorem LInv.next (h : LInv l n v Y most) (hl : ∀ e ∈ l, e.1 < n ∧ e.2 < n) (hv : v < n) (hn : n ≤ 256) (hY : Y.getD v 0 = FAR) (hX : FarRow (alls l) v n X) :
    LInv l n (v + 1) ((List.range n).map (labF X Y v)) (max most (grt X)) := by
  obtain ⟨⟨z, hz⟩, hg⟩ := grt_far hX (fun a b hb => alls_lt hl a b hb) hv hn
  have hvF : v ≠ FAR := by unfold FAR; omega
  -- who v reaches has had no label
  have hnew : ∀ u r, Rch (alls l) v r u → ∀ s q, Rch (alls l) s q u → v ≤ s := fun u r hR s q hS => by
    rcases Nat.lt_or_ge s v with hsv | hsv
    · exact absurd hY (h.all v hv s (q + r) hsv (Rch.trans hS (Rch.symm (fun a b hb => alls_symm l a b hb) hR)))
    · exact hsv
  have hr : ∀ u, u < n → X.getD u 0 ≠ FAR → ∃ d, Dist (alls l) v u d := fun u hu hx => by
    rcases hX.2 u hu with ⟨d, hd, _⟩ | ⟨_, e⟩
    · exact ⟨d, hd⟩
    · exact absurd e hx
  have hf : ∀ u, u < n → ∀ r, Rch (alls l) v r u → X.getD u 0 ≠ FAR := fun u hu r hR => by
    rcases hX.2 u hu with ⟨d, hd, e⟩ | ⟨e, _⟩
    · have := hd.lt (fun a b hb => alls_lt hl a b hb) hv
      rw [e]; unfold FAR; omega
    · exact absurd hR (e r)
  refine ⟨by simp, fun u hu hne => ?_, fun u hu s r hs hR => ?_, ?_⟩
  · rw [labF_get hu] at hne ⊢
    by_cases hx : X.getD u 0 = FAR
    · rw [if_pos hx] at hne ⊢
      obtain ⟨h1, ⟨d, hd, h2⟩, h3⟩ := h.lab u hu hne
      exact ⟨by omega, ⟨d, by omega, h2⟩, h3⟩
    · rw [if_neg hx]
      obtain ⟨d, hd⟩ := hr u hu hx
      exact ⟨by omega, ⟨d, by have := hg u d hd; omega, hd⟩, fun s q hS => hnew u d hd.1 s q hS⟩
  · rw [labF_get hu]
    by_cases hx : X.getD u 0 = FAR
    · rw [if_pos hx]
      by_cases hsv : s < v
      · exact h.all u hu s r hsv hR
      · obtain rfl : s = v := by omega
        exact absurd hx (hf u hu r hR)
    · rw [if_neg hx]; exact hvF
  · by_cases hm : grt X ≤ most
    · rcases h.top with h0 | ⟨u, hu, hne, hD⟩
      · exact .inl (by omega)
      · refine .inr ⟨u, hu, ?_, ?_⟩
        · rw [labF_get hu]
          split
          · exact hne
          · exact hvF
        · rw [labF_get hu, show max most (grt X) = most by omega]
          have hx : X.getD u 0 = FAR := by
            by_cases hx : X.getD u 0 = FAR
            · exact hx
            · obtain ⟨d, hd⟩ := hr u hu hx
              obtain ⟨h1, _, _⟩ := h.lab u hu hne
              have := hnew u d hd.1 _ _ hD.1
              omega
          rw [if_pos hx]
          exact hD
    · refine .inr ⟨z, hz.1.lt (fun a b hb => alls_lt hl a b hb) hv, ?_, ?_⟩
      · rw [labF_get (hz.1.lt (fun a b hb => alls_lt hl a b hb) hv)]
        rw [if_neg (hf z (hz.1.lt (fun a b hb => alls_lt hl a b hb) hv) _ hz.1)]
        exact hvF
      · rw [labF_get (hz.1.lt (fun a b hb => alls_lt hl a b hb) hv), if_neg (hf z (hz.1.lt (fun a b hb => alls_lt hl a b hb) hv) _ hz.1), show max most (grt X) = grt X by omega]
        exact hz
theorem LInv.done (h : LInv l n n Y most) (hn : 1 ≤ n) : TLab l n Y most := by
  have hne : ∀ u, u < n → Y.getD u 0 ≠ FAR := fun u hu => h.all u hu u 0 hu Rch.zero
  refine ⟨h.len, fun u hu => (h.lab u hu (hne u hu)).2, ?_⟩
  rcases h.top with h0 | ⟨u, hu, _, hD⟩
  · refine ⟨0, hn, ?_⟩
    have h1 := (h.lab 0 hn (hne 0 hn)).2.2 0 0 Rch.zero
    rw [show Y.getD 0 0 = 0 by omega, h0]
    exact Dist.self
  · exact ⟨u, hu, hD⟩
end
end Go.Proofs.Ytjdbjahgimlhbaa.Gr
end
section
set_option linter.unusedVariables false
set_option maxRecDepth 100000
namespace Go.Proofs.Ytjdbjahgimlhbaa
open Go.RowKit
open Gr (E T FAR LInv labF)

theorem alls_lim (l : List E) (h : l.length ≤ 4000) (u : Nat) : (Gr.alls l u).length ≤ 8000 := Nat.le_trans (alls_len_le l u) (by omega)
set_option maxHeartbeats 4000000 in
theorem tlabels_ok (H B o a n : Nat) (l : List E) (w : World) (hG : GAt w H B o a n ((List.range n).map (Gr.outs l)) ((List.range n).map (Gr.alls l))) (hn : 1 ≤ n) (hn2 : n ≤ 256) (hlm : l.length ≤ 4000) (hl : ∀ e ∈ l, e.1 < n ∧ e.2 < n ∧ e.1 ≠ e.2) :
    Calls Try.prog 102 #[.agg #[.int .i64 (n : Int), .slice (some ⟨o, 0, none⟩) n n, .slice (some ⟨a, 0, none⟩) n n]] w fun e w' => ∃ (g : Nat) (Y : List Nat) (most : Nat), e = .returned (.tuple #[.slice (some ⟨g, 0, none⟩) n n, .int .i64 (most : Int)]) ∧ w.heap.size ≤ g ∧ RowU w' g Y ∧ Gr.TLab l n Y most ∧ most < 256 ∧ Fr (fun _ => False) w w' := by
  have hl2 : ∀ e ∈ l, e.1 < n ∧ e.2 < n := fun e he => ⟨(hl e he).1, (hl e he).2.1⟩
  obtain ⟨W1, hW1⟩ : ∃ W1, W1 = w.alloc (.cells #[.int .i64 (n : Int), .slice (some ⟨o, 0, none⟩) n n, .slice (some ⟨a, 0, none⟩) n n] 141) := ⟨_, rfl⟩
  have F1 : Fr (fun _ => False) w W1 := by rw [hW1]; exact (Fr.refl _ _).alloc _
  have b1 : Blk W1 w.heap.size 141 #[.int .i64 (n : Int), .slice (some ⟨o, 0, none⟩) n n, .slice (some ⟨a, 0, none⟩) n n] := by rw [hW1]; exact Blk.new _ _ _
  have HB := hide b1
  have HTB := hide (TabAt.alls (hG.up F1))
  have HF1 := hide F1
  have HZ := hide hW1
  have s1 : W1.heap.size = w.heap.size + 1 := by rw [hW1]; simp
  have HFL := hide (fun x w => fill_ok n x hn hn2 w)
  have HNB := hide (fun a b hb => Gr.alls_lt hl2 a b hb)
  have HTF := hide (fun (v : Nat) (hv : v < n) (W : World) (hf : Fr (fun _ => False) W1 W) => tfar_ok a n v (Gr.alls l) W (HTB.out.up hf) hn hn2 hv (fun a b hb => Gr.alls_lt hl2 a b hb) (alls_lim l hlm))
  have HL0 := hide (LInv.start n l)
  have HNX := hide (fun v Y X most (h : LInv l n v Y most) (hv : v < n) (hY : Y.getD v 0 = FAR) (hX : Gr.FarRow (Gr.alls l) v n X) => h.next hl2 hv hn2 hY hX)
  have c0 := (b1.cell 0).trans rfl
  clear hG F1 b1 hl hl2 hW1
  go_enter Try.func102, Try.ntmps102
  go_wp2_with fail
  rw [← HZ.out]
  go_at_call 115
  refine (HFL.out 18446744073709551615 _).mono ?_
  rintro e w2 ⟨g, rfl, hg, hrow, hf⟩
  have HR2 := hide hrow
  have HF2 := hide hf
  have lg := hrow.lt
  have d0 := ((HB.out.fr hf id).cell 0).trans rfl
  clear hrow hf c0
  go_wp2_with fail
  clear d0
  go_loopw [5, 15] (fun mv i wr => ∃ (v most : Nat) (Y : List Nat), v ≤ n ∧ i = .int .i64 (v : Int) ∧ mv = .int .i64 (most : Int) ∧ most < 256 ∧ Hid (RowU wr g Y ∧ LInv l n v Y most ∧ Fr (fun _ => False) W1 wr)) (fun _ i _ => n - (intOf i).toNat)
  case atStart => exact ⟨0, 0, _, by omega, rfl, rfl, by omega, HR2.out, HL0.out, HF2.out⟩
  case round =>
    obtain ⟨v, most, Y, hv, rfl, rfl, hmost, HI⟩ := hrel
    by_cases hvn : v < n
    · have hlY : Y.length = n := HI.out.2.1.len
      have hc1 := HI.out.1.cell (i := v) (by rw [hlY]; exact hvn)
      have e0 : (0 : Int) ≤ (v : Int) := by omega
      have e1 : (v : Int) < (n : Int) := by omega
      by_cases hY : Y.getD v 0 = FAR
      · have hcY : (18446744073709551615 : Int) = ((Y.getD v 0 : Nat) : Int) := by rw [hY]; rfl
        rw [← hcY] at hc1
        have c2 := ((HB.out.fr HI.out.2.2 id).cell 2).trans rfl
        have HTFv := hide (HTF.out v hvn wr HI.out.2.2)
        have szr := HI.out.2.2.size
        have lgr := HI.out.1.lt
        have HNXv := hide (fun X hX => HNX.out v Y X most HI.out.2.1 hvn hY hX)
        clear hcY
        generalize hwo : wr = wo at *
        go_wp2_with fail
        go_at_call 99
        refine HTFv.out.mono ?_
        rintro e w4 ⟨p, X, rfl, hp, hrow, hfar, hf⟩
        have HX4 := hide hrow
        have HR4 := hide (HI.out.1.fr hf id)
        have HF4 := hide (HI.out.2.2.then_ hf)
        have HN4 := hide (HNXv.out X hfar)
        have HSM := hide (far_small hfar HNB.out hvn hn2)
        have hlX : X.length = n := hfar.1
        have hgp : g ≠ p := by omega
        have sz4 := hf.size
        clear hrow hfar hf c2 hc1
        go_wp2_with fail
        go_loopw [29] (fun i wr => ∃ u : Nat, u ≤ n ∧ i = .int .i64 (u : Int) ∧ Hid (RowU wr g (pre (labF X Y v) u Y) ∧ Fr (fun k => k = g) w4 wr)) (fun i _ => n - (intOf i).toNat)
        case atStart => exact ⟨0, by omega, rfl, by rw [pre_zero]; exact HR4.out, Fr.refl _ _⟩
        case round =>
          obtain ⟨u, hu, rfl, HK⟩ := hrel
          by_cases hun : u < n
          · have hcx := (HX4.out.fr HK.out.2 (Ne.symm hgp)).cell (i := u) (by rw [hlX]; exact hun)
            have hlp : (pre (labF X Y v) u Y).length = n := by rw [pre_len _ (by rw [hlY]; omega)]; exact hlY
            have hcy := HK.out.1.cell (i := u) (by rw [hlp]; exact hun)
            have hfz := HK.out.1.frozen u
            have HST := hide (pre_set (labF X Y v) (k := u) (xs := Y) (by rw [hlY]; exact hun))
            have hgt := pre_get (labF X Y v) (k := u) (xs := Y) (by rw [hlY]; exact hun)
            have f0 : (0 : Int) ≤ (u : Int) := by omega
            have f1 : (u : Int) < (n : Int) := by omega
            by_cases hx : X.getD u 0 = FAR
            · have hcX : (18446744073709551615 : Int) = ((X.getD u 0 : Nat) : Int) := by rw [hx]; rfl
              rw [← hcX] at hcx
              have HRS := hide (show RowU wr g (pre (labF X Y v) (u + 1) Y) by
                have he : labF X Y v u = Y.getD u 0 := by unfold labF; rw [if_pos hx]
                rw [← HST.out, he, ← hgt]
                have : (pre (labF X Y v) u Y).set u ((pre (labF X Y v) u Y).getD u 0) = pre (labF X Y v) u Y := by
                  apply List.ext_getElem?
                  intro j
                  rw [List.getElem?_set]
                  by_cases hju : u = j
                  · subst hju
                    have hl : u < (pre (labF X Y v) u Y).length := by rw [hlp]; exact hun
                    simp [hl, List.getD]
                  · rw [if_neg hju]
                rw [this]
                exact HK.out.1)
              clear hcX hgt hlp hcy
              go_wp2
              go_roundw
              case rel => exact ⟨u + 1, by omega, by go_num, HRS.out, HK.out.2⟩
              case measure => simp [intOf]; omega
            · have hne : ¬ (((X.getD u 0 : Nat) : Int) = 18446744073709551615) := fun h => hx (by unfold FAR; omega)
              have HS2 := hide (RowU.set HK.out.1 u v)
              have HRS := hide (show RowU (wr.setCell ⟨g, u, none⟩ (.int .u64 (v : Int))) g (pre (labF X Y v) (u + 1) Y) by
                have he : labF X Y v u = v := by unfold labF; rw [if_neg hx]
                rw [← HST.out, he]
                exact HS2.out)
              have HFS := hide (HK.out.2.setCell (p := ⟨g, u, none⟩) (.inl rfl) (.int .u64 (v : Int)))
              generalize X.getD u 0 = xv at *
              generalize (pre (labF X Y v) u Y).getD u 0 = yv at *
              have f5 : IntKind.u64.wrap (v : Int) = (v : Int) := by simp only [IntKind.wrap, IntKind.bits, IntKind.signed]; simp; omega
              clear hgt
              go_wp2
              go_roundw
              case rel => exact ⟨u + 1, by omega, by go_num, HRS.out, HFS.out⟩
              case measure => simp [intOf]; omega
          · obtain rfl : u = n := by omega
            have HRN := hide (show RowU wr g ((List.range u).map (labF X Y v)) by rw [← pre_full (labF X Y v) hlY]; exact HK.out.1)
            have HFN := hide (HF4.out.trans HK.out.2 (fun k h => .inr (by omega)))
            have HXN := hide (HX4.out.fr HK.out.2 (Ne.symm hgp))
            have hgs := grt_small HSM.out
            obtain ⟨gx, hgx⟩ : ∃ gx, Gr.grt X = gx := ⟨_, rfl⟩
            rw [hgx] at hgs HN4
            have HGX := hide hgx
            clear hgx
            go_wp2_with fail
            go_at_call 100
            refine (tgreat_ok p u X hlX hn2 HSM.out wr HXN.out).mono ?_
            rintro e w5 ⟨rfl, hf⟩
            rw [HGX.out]
            have HR5 := hide (HRN.out.fr hf id)
            have HF5 := hide (HFN.out.then_ hf)
            clear hf
            go_wp2
            go_roundw
            case rel => exact ⟨v + 1, max most gx, _, by omega, by go_num, by go_num, by omega, HR5.out, HN4.out, HF5.out⟩
            case measure => simp [intOf]; omega
      · have hne : ¬ (((Y.getD v 0 : Nat) : Int) = 18446744073709551615) := fun h => hY (by unfold FAR; omega)
        have HSK := hide (HI.out.2.1.skip hvn hY)
        generalize Y.getD v 0 = yv at *
        go_wp2
        go_roundw
        case rel => exact ⟨v + 1, most, Y, by omega, by go_num, rfl, hmost, HI.out.1, HSK.out, HI.out.2.2⟩
        case measure => simp [intOf]; omega
    · obtain rfl : v = n := by omega
      have HD := hide (HI.out.2.1.done hn)
      go_wp2
      go_ret2
      exact ⟨g, Y, most, rfl, by omega, HI.out.1, HD.out, hmost, HF1.out.trans HI.out.2.2 (fun k h => h.elim)⟩
end Go.Proofs.Ytjdbjahgimlhbaa
end
