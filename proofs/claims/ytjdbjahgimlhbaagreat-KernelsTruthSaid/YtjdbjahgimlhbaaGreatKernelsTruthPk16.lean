/- Parts of the proof of KernelsTruth: no conditions of their own. -/
import Derived.Test.YtjdbjahgimlhbaaGreatKernelsTruthPk12
import Derived.Test.YtjdbjahgimlhbaaGreatKernelsTruthPk2
import Derived.Test.YtjdbjahgimlhbaaGreatKernelsTruthPk14
section
set_option linter.unusedVariables false
namespace Go.Proofs.YtjdbjahgimlhbaaGreat.Gr
open Go.RowKit

abbrev M64 : Nat := 18446744073709551616
def hit (xs : List Nat) (e : T) (v : Nat) : Nat := if cores.both xs e.1.toNat e.2.1.toNat then (if e.1.toNat = v then 1 else 0) + (if e.2.1.toNat = v then 1 else 0) else 0
def cnt (xs : List Nat) (L : List T) (v : Nat) : Nat := (L.map (fun e => hit xs e v)).sum
theorem cores_get (xs s : List Nat) (e : T) {v : Nat} (hv : v < s.length) (hs : s.getD v 0 < M64) : (cores.step xs s e).getD v 0 = (s.getD v 0 + hit xs e v) % M64 := by
  rw [cores_step]
  unfold hit
  split
  · rw [upd_get, upd_len, upd_get]
    unfold cores.up M64 at *
    by_cases h1 : e.1.toNat = v
    · by_cases h2 : e.2.1.toNat = v
      · simp [h1, h2, hv]
      · simp [h1, h2, hv]
    · by_cases h2 : e.2.1.toNat = v
      · simp [h1, h2, hv]
      · rw [if_neg (fun h => h2 h.1), if_neg (fun h => h1 h.1), if_neg h1, if_neg h2, Nat.add_zero, Nat.mod_eq_of_lt hs]
  · rw [Nat.add_zero, Nat.mod_eq_of_lt hs]
theorem cores_fold (xs : List Nat) {v : Nat} : ∀ (L : List T) (s : List Nat), v < s.length → s.getD v 0 < M64 → (L.foldl (cores.step xs) s).getD v 0 = (s.getD v 0 + cnt xs L v) % M64
  | [], s, _, hs => by simp only [cnt, List.map_nil, List.sum_nil, Nat.add_zero, List.foldl_nil]; exact (Nat.mod_eq_of_lt hs).symm
  | e :: L, s, hv, hs => by
    rw [List.foldl_cons, cores_fold xs L _ (by rw [cores.step_len]; exact hv) (by rw [cores_get xs s e hv hs]; exact Nat.mod_lt _ (by unfold M64; omega)), cores_get xs s e hv hs]
    unfold cnt
    rw [List.map_cons, List.sum_cons]
    unfold M64
    omega
theorem hit_le (xs : List Nat) (e : T) (v : Nat) : hit xs e v ≤ 2 := by
  unfold hit
  split
  · split <;> split <;> omega
  · omega
theorem cnt_le (xs : List Nat) (v : Nat) : ∀ L : List T, cnt xs L v ≤ 2 * L.length
  | [] => by simp [cnt]
  | e :: L => by
    have := cnt_le xs v L
    have := hit_le xs e v
    unfold cnt at *
    rw [List.map_cons, List.sum_cons, List.length_cons]
    omega
theorem cnt_mono {xs us : List Nat} (h : ∀ v, us.getD v 0 ≠ 0 → xs.getD v 0 ≠ 0) (v : Nat) : ∀ L : List T, cnt us L v ≤ cnt xs L v
  | [] => by simp [cnt]
  | e :: L => by
    have h1 := cnt_mono h v L
    have h2 : hit us e v ≤ hit xs e v := by
      unfold hit
      by_cases hb : cores.both us e.1.toNat e.2.1.toNat = true
      · have hb2 : cores.both xs e.1.toNat e.2.1.toNat = true := by
          unfold cores.both at *
          simp only [decide_eq_true_eq] at *
          exact ⟨h _ hb.1, h _ hb.2⟩
        rw [if_pos hb, if_pos hb2]
        exact Nat.le_refl _
      · rw [if_neg hb]
        omega
    unfold cnt at *
    rw [List.map_cons, List.sum_cons, List.map_cons, List.sum_cons]
    omega
/-- the rows behind so many rounds -/
def crun (arg : Int) (n : Nat) (F : List T) : Nat → List Nat × List Nat
  | 0 => (cores.bX n, cores.bY n)
  | r + 1 => (cores.cXs arg (crun arg n F r).1 (F.foldl (cores.step (crun arg n F r).1) (crun arg n F r).2), cores.cYs arg (crun arg n F r).1 (F.foldl (cores.step (crun arg n F r).1) (crun arg n F r).2))
theorem crun_len (arg : Int) (n : Nat) (F : List T) : ∀ r, (crun arg n F r).1.length = n ∧ (crun arg n F r).2.length = n
  | 0 => by simp [crun, cores.bX, cores.bY]
  | r + 1 => by
    have := crun_len arg n F r
    simp [crun, cores.cXs, cores.cYs, this.1]
theorem crun_zero (arg : Int) (n : Nat) (F : List T) (r v : Nat) : (crun arg n F r).2.getD v 0 = 0 := by
  cases r with
  | zero =>
    simp only [crun, cores.bY, List.getD_eq_getElem?_getD, List.getElem?_map]
    cases (List.range n)[v]? <;> rfl
  | succ r =>
    simp only [crun, cores.cYs, cores.cY, List.getD_eq_getElem?_getD, List.getElem?_map]
    cases (List.range (crun arg n F r).1.length)[v]? <;> rfl
theorem crun_acc (arg : Int) (n : Nat) (F : List T) (hF : F.length ≤ 4000) (r : Nat) {v : Nat} (hv : v < n) : (F.foldl (cores.step (crun arg n F r).1) (crun arg n F r).2).getD v 0 = cnt (crun arg n F r).1 F v := by
  rw [cores_fold _ F _ (by rw [(crun_len arg n F r).2]; exact hv) (by rw [crun_zero]; unfold M64; omega), crun_zero, Nat.zero_add]
  have := cnt_le (crun arg n F r).1 v F
  exact Nat.mod_eq_of_lt (by unfold M64; omega)
theorem crun_next (arg : Int) (n : Nat) (F : List T) (hF : F.length ≤ 4000) (r : Nat) {v : Nat} (hv : v < n) : (crun arg n F (r + 1)).1.getD v 0 = cores.cX arg ((crun arg n F r).1.getD v 0) (cnt (crun arg n F r).1 F v) := by
  have h1 := crun_acc arg n F hF r hv
  simp only [crun, cores.cXs]
  rw [List.getD_eq_getElem?_getD, List.getElem?_map, List.getElem?_range (by rw [(crun_len arg n F r).1]; exact hv), Option.map_some, Option.getD_some, h1]
theorem crun_down (arg : Int) (n : Nat) (F : List T) (hF : F.length ≤ 4000) (r : Nat) {v : Nat} (hv : v < n) : (crun arg n F (r + 1)).1.getD v 0 ≤ (crun arg n F r).1.getD v 0 := by
  rw [crun_next arg n F hF r hv]
  unfold cores.cX
  split <;> omega
theorem crun_less (low high : Nat) (hle : low ≤ high) (n : Nat) (F : List T) (hF : F.length ≤ 4000) : ∀ (r v : Nat), (crun (high : Int) n F r).1.getD v 0 ≤ (crun (low : Int) n F r).1.getD v 0
  | 0, v => Nat.le_refl _
  | r + 1, v => by
    by_cases hv : v < n
    · rw [crun_next _ n F hF r hv, crun_next _ n F hF r hv]
      have h1 := crun_less low high hle n F hF r v
      have h2 := cnt_mono (xs := (crun (low : Int) n F r).1) (us := (crun (high : Int) n F r).1) (fun u hu => by have := crun_less low high hle n F hF r u; omega) v F
      generalize (crun (high : Int) n F r).1.getD v 0 = x at *
      generalize (crun (low : Int) n F r).1.getD v 0 = y at *
      generalize cnt (crun (high : Int) n F r).1 F v = c at *
      generalize cnt (crun (low : Int) n F r).1 F v = d at *
      unfold cores.cX cores.cD
      by_cases hc : x ≠ 0 ∧ (0 : Int) < high ∧ (c : Int) < high
      · rw [decide_eq_true hc]; simp
      · rw [decide_eq_false hc]
        by_cases hd : y ≠ 0 ∧ (0 : Int) < low ∧ (d : Int) < low
        · rw [decide_eq_true hd]
          simp only [Bool.false_eq_true, if_false, if_true]
          omega
        · rw [decide_eq_false hd]
          simpa using h1
    · rw [List.getD_eq_getElem?_getD, List.getElem?_eq_none (by rw [(crun_len _ n F (r + 1)).1]; omega)]
      simp
end Go.Proofs.YtjdbjahgimlhbaaGreat.Gr
end
section
set_option linter.unusedVariables false
namespace Go.Proofs.YtjdbjahgimlhbaaGreat.Gr

def sumL (f : Nat → Nat) : Nat → Nat
  | 0 => 0
  | k + 1 => sumL f k + f k
theorem sumL_le {f g : Nat → Nat} {k : Nat} (h : ∀ i, i < k → f i ≤ g i) : sumL f k ≤ sumL g k := by
  induction k with
  | zero => exact Nat.le_refl _
  | succ k ih =>
    simp only [sumL]
    have := ih (fun i hi => h i (by omega))
    have := h k (by omega)
    omega
theorem sumL_lt {f g : Nat → Nat} {k v : Nat} (h : ∀ i, i < k → f i ≤ g i) (hv : v < k) (hlt : f v < g v) : sumL f k < sumL g k := by
  induction k with
  | zero => omega
  | succ k ih =>
    simp only [sumL]
    by_cases hvk : v = k
    · subst hvk
      have := sumL_le (k := v) (fun i hi => h i (by omega))
      omega
    · have := ih (fun i hi => h i (by omega)) (by omega)
      have := h k (by omega)
      omega
theorem sumL_one : ∀ m, sumL (fun _ => 1) m = m
  | 0 => rfl
  | m + 1 => by simp only [sumL, sumL_one m]

/-- reached within so many steps -/
def Rch (nb : Nat → List Nat) (s : Nat) : Nat → Nat → Prop
  | 0, v => v = s
  | r + 1, v => Rch nb s r v ∨ ∃ u, Rch nb s r u ∧ v ∈ nb u
/-- so far, and no nearer -/
def Dist (nb : Nat → List Nat) (s v d : Nat) : Prop := Rch nb s d v ∧ ∀ j, j < d → ¬ Rch nb s j v
section
variable {nb : Nat → List Nat} {s u v w d r q n : Nat}
theorem Rch.mono (h : Rch nb s r v) (hr : r ≤ q) : Rch nb s q v := by
  induction q with
  | zero => rw [show r = 0 by omega] at h; exact h
  | succ q ih =>
    by_cases hq : r = q + 1
    · rw [← hq]; exact h
    · exact .inl (ih (by omega))
theorem Rch.zero : Rch nb s 0 s := rfl
theorem Rch.step (h : Rch nb s r u) (hv : v ∈ nb u) : Rch nb s (r + 1) v := .inr ⟨u, h, hv⟩
theorem Rch.trans (h : Rch nb s r u) : ∀ {q v}, Rch nb u q v → Rch nb s (r + q) v
  | 0, v, e => by cases e; exact h
  | q + 1, v, e => by
    rcases e with e | ⟨x, e, hx⟩
    · exact .inl (Rch.trans h e)
    · exact .inr ⟨x, Rch.trans h e, hx⟩
theorem Rch.symm (hs : ∀ a b, b ∈ nb a → a ∈ nb b) : ∀ {r v}, Rch nb s r v → Rch nb v r s
  | 0, v, e => by cases e; rfl
  | r + 1, v, e => by
    rcases e with e | ⟨x, e, hx⟩
    · exact .inl (Rch.symm hs e)
    · have h1 : Rch nb v 1 x := Rch.step Rch.zero (hs _ _ hx)
      have := Rch.trans h1 (Rch.symm hs e)
      rwa [Nat.add_comm] at this
theorem Rch.lt (hnb : ∀ a b, b ∈ nb a → b < n) (hs : s < n) : ∀ {r v}, Rch nb s r v → v < n
  | 0, v, e => by cases e; exact hs
  | r + 1, v, e => by
    rcases e with e | ⟨x, e, hx⟩
    · exact Rch.lt hnb hs e
    · exact hnb _ _ hx
theorem Rch.dist (h : Rch nb s r v) : ∃ d, d ≤ r ∧ Dist nb s v d := by
  induction r with
  | zero => exact ⟨0, Nat.le_refl _, h, fun j hj => by omega⟩
  | succ r ih =>
    by_cases h1 : Rch nb s r v
    · obtain ⟨d, hd, hD⟩ := ih h1
      exact ⟨d, by omega, hD⟩
    · exact ⟨r + 1, Nat.le_refl _, h, fun j hj hR => h1 (hR.mono (by omega))⟩
theorem Dist.uniq {d' : Nat} (h : Dist nb s v d) (h' : Dist nb s v d') : d = d' := by
  rcases Nat.lt_trichotomy d d' with h1 | h1 | h1
  · exact absurd h.1 (h'.2 d h1)
  · exact h1
  · exact absurd h'.1 (h.2 d' h1)
theorem Dist.self : Dist nb s s 0 := ⟨rfl, fun j hj => by omega⟩
theorem Dist.le (h : Dist nb s v d) (hr : Rch nb s r v) : d ≤ r := by
  rcases Nat.lt_or_ge r d with h1 | h1
  · exact absurd hr (h.2 r h1)
  · exact h1
theorem Dist.pred (h : Dist nb s v (d + 1)) : ∃ u, Dist nb s u d ∧ v ∈ nb u := by
  rcases h.1 with h1 | ⟨u, h1, h2⟩
  · exact absurd h1 (h.2 d (by omega))
  · exact ⟨u, ⟨h1, fun j hj hR => h.2 (j + 1) (by omega) (hR.step h2)⟩, h2⟩
theorem Dist.level (h : Dist nb s v d) {j : Nat} (hj : j ≤ d) : ∃ u, Dist nb s u j := by
  induction d generalizing v with
  | zero => rw [show j = 0 by omega]; exact ⟨v, h⟩
  | succ d ih =>
    by_cases h1 : j = d + 1
    · rw [h1]; exact ⟨v, h⟩
    · obtain ⟨u, hu, _⟩ := h.pred
      exact ih hu (by omega)
open Classical in
noncomputable def seen (nb : Nat → List Nat) (s r : Nat) : Nat → Nat := fun v => if Rch nb s r v then 1 else 0
theorem seen_many (hnb : ∀ a b, b ∈ nb a → b < n) (hs : s < n) (h : Dist nb s v d) : ∀ j, j ≤ d → j + 1 ≤ sumL (seen nb s j) n
  | 0, _ => by
    have := sumL_lt (f := fun _ => 0) (g := seen nb s 0) (k := n) (v := s) (fun _ _ => Nat.zero_le _) hs (by unfold seen; rw [if_pos Rch.zero]; omega)
    omega
  | j + 1, hj => by
    have ih := seen_many hnb hs h j (by omega)
    obtain ⟨u, hu⟩ := h.level hj
    have hlt := sumL_lt (f := seen nb s j) (g := seen nb s (j + 1)) (k := n) (v := u) (fun i _ => by
      unfold seen
      by_cases h1 : Rch nb s j i
      · rw [if_pos h1, if_pos (h1.mono (by omega))]; exact Nat.le_refl _
      · rw [if_neg h1]; exact Nat.zero_le _) (hu.1.lt hnb hs) (by
      unfold seen
      rw [if_neg (hu.2 j (by omega)), if_pos hu.1]
      omega)
    omega
theorem Dist.lt (h : Dist nb s v d) (hnb : ∀ a b, b ∈ nb a → b < n) (hs : s < n) : d < n := by
  have h1 := seen_many hnb hs h d (Nat.le_refl _)
  have h2 : sumL (seen nb s d) n ≤ sumL (fun _ => 1) n := sumL_le (fun i _ => by unfold seen; split <;> omega)
  rw [sumL_one] at h2
  omega
abbrev FAR : Nat := 18446744073709551615
/-- the distances from a vertex -/
def FarRow (nb : Nat → List Nat) (s n : Nat) (out : List Nat) : Prop := out.length = n ∧ ∀ v, v < n → (∃ d, Dist nb s v d ∧ out.getD v 0 = d) ∨ ((∀ r, ¬ Rch nb s r v) ∧ out.getD v 0 = FAR)
end
end Go.Proofs.YtjdbjahgimlhbaaGreat.Gr
end
section
set_option linter.unusedVariables false
namespace Go.Proofs.YtjdbjahgimlhbaaGreat.Gr
open Go.RowKit

/-- the edges, vertex by vertex -/
def tTrips (l : List E) (n : Nat) : List T := shardT l n 1 0
theorem tTrips_perm (l : List E) (n : Nat) (h : ∀ e ∈ l, e.1 < n) : (tTrips l n).Perm (flat l) := by
  have := allT_perm l n 1 (by omega) h
  simpa [tTrips] using this
/-- the ranks behind so many rounds -/
def trk (l : List E) (n : Nat) : Nat → List Nat
  | 0 => List.replicate n 4294967296
  | r + 1 => (List.range n).map fun v => rank.cF (((tTrips l n).foldl (rank.step (trk l n r)) (List.replicate n 0)).getD v 0)
theorem map_const (n c : Nat) : (List.range n).map (fun _ => c) = List.replicate n c := by
  rw [List.map_const']
  simp
theorem trk_len (l : List E) (n : Nat) : ∀ r, (trk l n r).length = n
  | 0 => by simp [trk]
  | r + 1 => by simp [trk]
theorem rank_kst (arg : Nat) (l : List E) (n : Nat) (h : ∀ e ∈ l, e.1 < n) : ∀ r, kst (kdOf 2 arg) n [flat l] r = (trk l n r, List.replicate n 0)
  | 0 => by
    show (rank.bX n, rank.bY n) = _
    unfold rank.bX rank.bY trk
    rw [map_const, map_const]
  | r + 1 => by
    simp only [kst, rank_kst arg l n h r]
    show ((List.range (trk l n r).length).map (fun i => rank.cF (((flat l).foldl (rank.step (trk l n r)) (List.replicate n 0)).getD i 0)), rank.bY (trk l n r).length) = _
    rw [trk_len]
    have hp : (flat l).foldl (rank.step (trk l n r)) (List.replicate n 0) = (tTrips l n).foldl (rank.step (trk l n r)) (List.replicate n 0) :=
      List.Perm.foldl_eq' (tTrips_perm l n h).symm (fun x _ y _ z => rank_comm _ _ _ _) _
    rw [hp]
    unfold rank.bY
    rw [map_const]
    rfl
theorem rank_runs (arg : Nat) (l : List E) (n : Nat) (h : ∀ e ∈ l, e.1 < n) (ha : 1 ≤ arg) : kruns 2 arg n l = arg ∧ kout 2 arg n l = trk l n arg := by
  have h1 : kruns 2 arg n l = arg := by
    unfold kruns
    have hb : bnd 2 arg n = arg := rfl
    rw [hb, stop_some (r := arg - 1) (by omega)]
    · omega
    · show decide ((arg : Int) ≤ ((arg - 1 : Nat) : Int) + 1) = true
      simp; omega
    · intro j hj
      show decide ((arg : Int) ≤ (j : Int) + 1) = false
      simp; omega
  refine ⟨h1, ?_⟩
  unfold kout
  rw [h1, rank_kst arg l n h]

/-- neighbours, either way, in the edges' order -/
def alls (l : List E) (v : Nat) : List Nat := l.flatMap fun e => (if e.1 = v then [e.2] else []) ++ (if e.2 = v then [e.1] else [])
theorem alls_mem (l : List E) (v u : Nat) : u ∈ alls l v ↔ (v, u) ∈ l ∨ (u, v) ∈ l := by
  unfold alls
  rw [List.mem_flatMap]
  constructor
  · rintro ⟨⟨a, b⟩, he, hu⟩
    rw [List.mem_append] at hu
    rcases hu with hu | hu
    · split at hu
      · next h => simp only [List.mem_singleton] at hu; subst hu; simp only at h; subst h; exact .inl he
      · cases hu
    · split at hu
      · next h => simp only [List.mem_singleton] at hu; subst hu; simp only at h; subst h; exact .inr he
      · cases hu
  · rintro (h | h)
    · exact ⟨_, h, by simp⟩
    · exact ⟨_, h, by simp⟩
/-- how many neighbours are there -/
def tdeg (l : List E) (X : List Nat) (v : Nat) : Nat := ((alls l v).map fun u => X.getD u 0).sum
def tgoes (k : Nat) (l : List E) (X : List Nat) (v : Nat) : Bool := decide (X.getD v 0 = 1) && decide (tdeg l X v < k)
theorem tdeg_cnt (l : List E) (X : List Nat) (hX : ∀ v, X.getD v 0 ≤ 1) (v : Nat) (hv : X.getD v 0 = 1) : cnt X (flat l) v = tdeg l X v := by
  induction l with
  | nil => rfl
  | cons e l ih =>
    have hf : ∀ (m : List E) (L : List E), cnt X (L.map (trip m)) v = (L.map fun e => if cores.both X e.1 e.2 then (if e.1 = v then 1 else 0) + (if e.2 = v then 1 else 0) else 0).sum := by
      intro m L
      unfold cnt
      rw [List.map_map]
      congr 1
    have e1 : cnt X (flat (e :: l)) v = (if cores.both X e.1 e.2 then (if e.1 = v then 1 else 0) + (if e.2 = v then 1 else 0) else 0) + cnt X (flat l) v := by
      unfold flat
      rw [hf, hf, List.map_cons, List.sum_cons]
    have e2 : tdeg (e :: l) X v = (((if e.1 = v then [e.2] else []) ++ (if e.2 = v then [e.1] else [])).map fun u => X.getD u 0).sum + tdeg l X v := by
      unfold tdeg alls
      rw [List.flatMap_cons, List.map_append, List.sum_append]
    rw [e1, e2, ih]
    congr 1
    have h1 := hX e.1
    have h2 := hX e.2
    unfold cores.both
    by_cases a : e.1 = v
    · by_cases b : e.2 = v
      · simp [a, b, hv, -List.getD_eq_getElem?_getD]
      · rw [a, hv]
        simp only [if_true, if_neg b]
        have c : X.getD e.2 0 = 0 ∨ X.getD e.2 0 = 1 := by omega
        rcases c with c | c <;> simp [c, -List.getD_eq_getElem?_getD]
    · by_cases b : e.2 = v
      · rw [b, hv]
        simp only [if_true, if_neg a]
        have c : X.getD e.1 0 = 0 ∨ X.getD e.1 0 = 1 := by omega
        rcases c with c | c <;> simp [c, -List.getD_eq_getElem?_getD]
      · simp [a, b]
theorem crun_one (k : Nat) (l : List E) (n : Nat) (hl : l.length ≤ 4000) : ∀ r v, (crun (k : Int) n (flat l) r).1.getD v 0 ≤ 1 := by
  intro r v
  have hF : (flat l).length ≤ 4000 := by simpa [flat] using hl
  induction r with
  | zero =>
    simp only [crun, cores.bX, List.getD_eq_getElem?_getD, List.getElem?_map]
    cases (List.range n)[v]? <;> simp
  | succ r ih =>
    by_cases hv : v < n
    · exact Nat.le_trans (crun_down (k : Int) n (flat l) hF r hv) ih
    · rw [List.getD_eq_getElem?_getD, List.getElem?_eq_none (by rw [(crun_len _ n (flat l) (r + 1)).1]; omega)]
      simp
theorem cD_goes (k : Nat) (l : List E) (n : Nat) (hl : l.length ≤ 4000) (r : Nat) {v : Nat} (hv : v < n) :
    cores.cD (k : Int) ((crun (k : Int) n (flat l) r).1.getD v 0) (cnt (crun (k : Int) n (flat l) r).1 (flat l) v) = tgoes k l (crun (k : Int) n (flat l) r).1 v := by
  have h1 := crun_one k l n hl r v
  have h2 := tdeg_cnt l (crun (k : Int) n (flat l) r).1 (crun_one k l n hl r) v
  generalize (crun (k : Int) n (flat l) r).1 = X at *
  unfold cores.cD tgoes
  by_cases hx : X.getD v 0 = 1
  · rw [h2 hx, hx]
    rw [Bool.eq_iff_iff]
    simp
    omega
  · have : X.getD v 0 = 0 := by omega
    simp [this, -List.getD_eq_getElem?_getD]
theorem tgoes_next (k : Nat) (l : List E) (n : Nat) (hl : l.length ≤ 4000) (r : Nat) {v : Nat} (hv : v < n) :
    (crun (k : Int) n (flat l) (r + 1)).1.getD v 0 = if tgoes k l (crun (k : Int) n (flat l) r).1 v then 0 else (crun (k : Int) n (flat l) r).1.getD v 0 := by
  have hF : (flat l).length ≤ 4000 := by simpa [flat] using hl
  rw [crun_next _ n (flat l) hF r hv]
  unfold cores.cX
  rw [cD_goes k l n hl r hv]
theorem cores_kst (k : Nat) (l : List E) (n : Nat) : ∀ r, kst (kdOf 4 k) n [flat l] r = crun (k : Int) n (flat l) r
  | 0 => rfl
  | r + 1 => by simp only [kst, cores_kst k l n r]; rfl
theorem cores_kdn (k : Nat) (l : List E) (n : Nat) (hl : l.length ≤ 4000) (r : Nat) : kdn (kdOf 4 k) n [flat l] r = (List.range n).all fun v => !tgoes k l (crun (k : Int) n (flat l) r).1 v := by
  have hF : (flat l).length ≤ 4000 := by simpa [flat] using hl
  unfold kdn
  rw [cores_kst]
  show cores.cDone (k : Int) (crun (k : Int) n (flat l) r).1 ((flat l).foldl (cores.step (crun (k : Int) n (flat l) r).1) (crun (k : Int) n (flat l) r).2) = _
  unfold cores.cDone cores.cAll
  rw [(crun_len _ n (flat l) r).1, Bool.eq_iff_iff, List.all_eq_true, List.all_eq_true]
  constructor
  · intro h v hv
    have := h v hv
    rwa [crun_acc _ n (flat l) hF r (List.mem_range.1 hv), cD_goes k l n hl r (List.mem_range.1 hv)] at this
  · intro h v hv
    have := h v hv
    rwa [crun_acc _ n (flat l) hF r (List.mem_range.1 hv), cD_goes k l n hl r (List.mem_range.1 hv)]
def alive (k : Nat) (l : List E) (n r : Nat) : Nat := sumL (fun v => (crun (k : Int) n (flat l) r).1.getD v 0) n
theorem alive_zero (k : Nat) (l : List E) (n : Nat) (hl : l.length ≤ 4000) : alive k l n 0 ≤ n := by
  have h1 : alive k l n 0 ≤ sumL (fun _ => 1) n := sumL_le (fun v _ => crun_one k l n hl 0 v)
  rw [sumL_one] at h1
  exact h1
theorem alive_next (k : Nat) (l : List E) (n : Nat) (hl : l.length ≤ 4000) (r : Nat) {v : Nat} (hv : v < n) (hg : tgoes k l (crun (k : Int) n (flat l) r).1 v = true) : alive k l n (r + 1) < alive k l n r := by
  have hF : (flat l).length ≤ 4000 := by simpa [flat] using hl
  refine sumL_lt (v := v) (fun i hi => crun_down (k : Int) n (flat l) hF r hi) hv ?_
  show (crun (k : Int) n (flat l) (r + 1)).1.getD v 0 < (crun (k : Int) n (flat l) r).1.getD v 0
  rw [tgoes_next k l n hl r hv, hg, if_pos rfl]
  unfold tgoes at hg
  simp only [Bool.and_eq_true, decide_eq_true_eq] at hg
  omega
/-- how often some go: truth's own count r, at which nobody goes any more, gives the rounds -/
theorem cores_runs (k : Nat) (l : List E) (n r : Nat) (hl : l.length ≤ 4000) (hr : r ≤ n) (h0 : ∀ v, v < n → tgoes k l (crun (k : Int) n (flat l) r).1 v = false) (h1 : ∀ j, j < r → ∃ v, v < n ∧ tgoes k l (crun (k : Int) n (flat l) j).1 v = true) :
    kruns 4 k n l = r + 1 ∧ kout 4 k n l = (crun (k : Int) n (flat l) r).1 := by
  have hr1 : kruns 4 k n l = r + 1 := by
    unfold kruns
    refine stop_some ?_ ?_ ?_
    · show r < n + 1
      omega
    · rw [cores_kdn k l n hl, List.all_eq_true]
      intro v hv
      rw [h0 v (List.mem_range.1 hv)]
      rfl
    · intro j hj
      obtain ⟨v, hv, hg⟩ := h1 j hj
      rw [cores_kdn k l n hl, List.all_eq_false]
      exact ⟨v, List.mem_range.2 hv, by simp [hg]⟩
  refine ⟨hr1, ?_⟩
  unfold kout
  rw [hr1, cores_kst]
  apply row_ext (by rw [(crun_len _ n (flat l) (r + 1)).1, (crun_len _ n (flat l) r).1])
  intro v hv
  rw [(crun_len _ n (flat l) (r + 1)).1] at hv
  rw [tgoes_next k l n hl r hv, h0 v hv]
  simp
end Go.Proofs.YtjdbjahgimlhbaaGreat.Gr
end
