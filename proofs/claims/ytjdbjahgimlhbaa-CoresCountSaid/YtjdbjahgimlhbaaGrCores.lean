/- PLAIN LAWS of the cores: how many neighbours are there; who goes. No program in sight. -/
import Derived.Test.YtjdbjahgimlhbaaFour
set_option linter.unusedVariables false
namespace Go.Proofs.Ytjdbjahgimlhbaa.Gr
open Go.RowKit

abbrev M64 : Nat := 18446744073709551616
def hit (xs : List Nat) (e : T) (v : Nat) : Nat := if cores.both xs e.1.toNat e.2.1.toNat then (if e.1.toNat = v then 1 else 0) + (if e.2.1.toNat = v then 1 else 0) else 0
def cnt (xs : List Nat) (L : List T) (v : Nat) : Nat := (L.map (fun e => hit xs e v)).sum
theorem cores_get (xs s : List Nat) (e : T) {v : Nat} (hv : v < s.length) (hs : s.getD v 0 < M64) : (cores.step xs s e).getD v 0 = (s.getD v 0 + hit xs e v) % M64 := by
  rw [cores_step]
  unfold hit
  split
  · rw [upd_get, upd_len, upd_get]
    unfold cores.up M64 at *
    by_cases h1 : e.1.toNat = v
    · by_cases h2 : e.2.1.toNat = v
      · simp [h1, h2, hv]
      · simp [h1, h2, hv]
    · by_cases h2 : e.2.1.toNat = v
      · simp [h1, h2, hv]
      · rw [if_neg (fun h => h2 h.1), if_neg (fun h => h1 h.1), if_neg h1, if_neg h2, Nat.add_zero, Nat.mod_eq_of_lt hs]
  · rw [Nat.add_zero, Nat.mod_eq_of_lt hs]
theorem cores_fold (xs : List Nat) {v : Nat} : ∀ (L : List T) (s : List Nat), v < s.length → s.getD v 0 < M64 → (L.foldl (cores.step xs) s).getD v 0 = (s.getD v 0 + cnt xs L v) % M64
  | [], s, _, hs => by simp only [cnt, List.map_nil, List.sum_nil, Nat.add_zero, List.foldl_nil]; exact (Nat.mod_eq_of_lt hs).symm
  | e :: L, s, hv, hs => by
    rw [List.foldl_cons, cores_fold xs L _ (by rw [cores.step_len]; exact hv) (by rw [cores_get xs s e hv hs]; exact Nat.mod_lt _ (by unfold M64; omega)), cores_get xs s e hv hs]
    unfold cnt
    rw [List.map_cons, List.sum_cons]
    unfold M64
    omega
theorem hit_le (xs : List Nat) (e : T) (v : Nat) : hit xs e v ≤ 2 := by
  unfold hit
  split
  · split <;> split <;> omega
  · omega
theorem cnt_le (xs : List Nat) (v : Nat) : ∀ L : List T, cnt xs L v ≤ 2 * L.length
  | [] => by simp [cnt]
  | e :: L => by
    have := cnt_le xs v L
    have := hit_le xs e v
    unfold cnt at *
    rw [List.map_cons, List.sum_cons, List.length_cons]
    omega
theorem cnt_mono {xs us : List Nat} (h : ∀ v, us.getD v 0 ≠ 0 → xs.getD v 0 ≠ 0) (v : Nat) : ∀ L : List T, cnt us L v ≤ cnt xs L v
  | [] => by simp [cnt]
  | e :: L => by
    have h1 := cnt_mono h v L
    have h2 : hit us e v ≤ hit xs e v := by
      unfold hit
      by_cases hb : cores.both us e.1.toNat e.2.1.toNat = true
      · have hb2 : cores.both xs e.1.toNat e.2.1.toNat = true := by
          unfold cores.both at *
          simp only [decide_eq_true_eq] at *
          exact ⟨h _ hb.1, h _ hb.2⟩
        rw [if_pos hb, if_pos hb2]
        exact Nat.le_refl _
      · rw [if_neg hb]
        omega
    unfold cnt at *
    rw [List.map_cons, List.sum_cons, List.map_cons, List.sum_cons]
    omega
/-- the rows behind so many rounds -/
def crun (arg : Int) (n : Nat) (F : List T) : Nat → List Nat × List Nat
  | 0 => (cores.bX n, cores.bY n)
  | r + 1 => (cores.cXs arg (crun arg n F r).1 (F.foldl (cores.step (crun arg n F r).1) (crun arg n F r).2), cores.cYs arg (crun arg n F r).1 (F.foldl (cores.step (crun arg n F r).1) (crun arg n F r).2))
theorem crun_len (arg : Int) (n : Nat) (F : List T) : ∀ r, (crun arg n F r).1.length = n ∧ (crun arg n F r).2.length = n
  | 0 => by simp [crun, cores.bX, cores.bY]
  | r + 1 => by
    have := crun_len arg n F r
    simp [crun, cores.cXs, cores.cYs, this.1]
theorem crun_zero (arg : Int) (n : Nat) (F : List T) (r v : Nat) : (crun arg n F r).2.getD v 0 = 0 := by
  cases r with
  | zero =>
    simp only [crun, cores.bY, List.getD_eq_getElem?_getD, List.getElem?_map]
    cases (List.range n)[v]? <;> rfl
  | succ r =>
    simp only [crun, cores.cYs, cores.cY, List.getD_eq_getElem?_getD, List.getElem?_map]
    cases (List.range (crun arg n F r).1.length)[v]? <;> rfl
theorem crun_acc (arg : Int) (n : Nat) (F : List T) (hF : F.length ≤ 4000) (r : Nat) {v : Nat} (hv : v < n) : (F.foldl (cores.step (crun arg n F r).1) (crun arg n F r).2).getD v 0 = cnt (crun arg n F r).1 F v := by
  rw [cores_fold _ F _ (by rw [(crun_len arg n F r).2]; exact hv) (by rw [crun_zero]; unfold M64; omega), crun_zero, Nat.zero_add]
  have := cnt_le (crun arg n F r).1 v F
  exact Nat.mod_eq_of_lt (by unfold M64; omega)
theorem crun_next (arg : Int) (n : Nat) (F : List T) (hF : F.length ≤ 4000) (r : Nat) {v : Nat} (hv : v < n) : (crun arg n F (r + 1)).1.getD v 0 = cores.cX arg ((crun arg n F r).1.getD v 0) (cnt (crun arg n F r).1 F v) := by
  have h1 := crun_acc arg n F hF r hv
  simp only [crun, cores.cXs]
  rw [List.getD_eq_getElem?_getD, List.getElem?_map, List.getElem?_range (by rw [(crun_len arg n F r).1]; exact hv), Option.map_some, Option.getD_some, h1]
theorem crun_down (arg : Int) (n : Nat) (F : List T) (hF : F.length ≤ 4000) (r : Nat) {v : Nat} (hv : v < n) : (crun arg n F (r + 1)).1.getD v 0 ≤ (crun arg n F r).1.getD v 0 := by
  rw [crun_next arg n F hF r hv]
  unfold cores.cX
  split <;> omega
theorem crun_less (low high : Nat) (hle : low ≤ high) (n : Nat) (F : List T) (hF : F.length ≤ 4000) : ∀ (r v : Nat), (crun (high : Int) n F r).1.getD v 0 ≤ (crun (low : Int) n F r).1.getD v 0
  | 0, v => Nat.le_refl _
  | r + 1, v => by
    by_cases hv : v < n
    · rw [crun_next _ n F hF r hv, crun_next _ n F hF r hv]
      have h1 := crun_less low high hle n F hF r v
      have h2 := cnt_mono (xs := (crun (low : Int) n F r).1) (us := (crun (high : Int) n F r).1) (fun u hu => by have := crun_less low high hle n F hF r u; omega) v F
      generalize (crun (high : Int) n F r).1.getD v 0 = x at *
      generalize (crun (low : Int) n F r).1.getD v 0 = y at *
      generalize cnt (crun (high : Int) n F r).1 F v = c at *
      generalize cnt (crun (low : Int) n F r).1 F v = d at *
      unfold cores.cX cores.cD
      by_cases hc : x ≠ 0 ∧ (0 : Int) < high ∧ (c : Int) < high
      · rw [decide_eq_true hc]; simp
      · rw [decide_eq_false hc]
        by_cases hd : y ≠ 0 ∧ (0 : Int) < low ∧ (d : Int) < low
        · rw [decide_eq_true hd]
          simp only [Bool.false_eq_true, if_false, if_true]
          omega
        · rw [decide_eq_false hd]
          simpa using h1
    · rw [List.getD_eq_getElem?_getD, List.getElem?_eq_none (by rw [(crun_len _ n F (r + 1)).1]; omega)]
      simp
end Go.Proofs.Ytjdbjahgimlhbaa.Gr
