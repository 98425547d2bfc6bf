/- PLAIN LAW of who is there. No program in sight. -/
import Derived.Test.YtjdbjahgimlhbaaGrCores
set_option linter.unusedVariables false
namespace Go.Proofs.Ytjdbjahgimlhbaa.Gr
open Go.RowKit

def onB (th : List Bool) (v : Nat) : Bool := if v < th.length then th.getD v true else true
def aK (th : List Bool) (n v : Nat) : List Nat := (List.range n).map fun i => if decide (i < v) && !onB th i then 0 else 1
theorem aK_zero (th : List Bool) (n : Nat) : aK th n 0 = cores.bX n := by
  unfold aK cores.bX
  apply List.map_congr_left
  intro i _
  simp
theorem aK_len (th : List Bool) (n v : Nat) : (aK th n v).length = n := by simp [aK]
theorem aK_on {th : List Bool} {v : Nat} (n : Nat) (h : onB th v = true) : aK th n (v + 1) = aK th n v := by
  unfold aK
  apply List.map_congr_left
  intro i _
  by_cases hi : i = v
  · subst hi; simp [h]
  · have : decide (i < v + 1) = decide (i < v) := by rw [decide_eq_decide]; omega
    rw [this]
theorem aK_off {th : List Bool} {v n : Nat} (hv : v < n) (h : onB th v = false) : aK th n (v + 1) = (aK th n v).set v 0 := by
  apply List.ext_getElem?
  intro i
  unfold aK
  by_cases hi : i < n
  · rw [List.getElem?_map, List.getElem?_range hi]
    by_cases hiv : v = i
    · subst hiv
      rw [List.getElem?_set_self (by simpa using hv)]
      simp [h]
    · have : decide (i < v + 1) = decide (i < v) := by rw [decide_eq_decide]; omega
      rw [List.getElem?_set_ne hiv, List.getElem?_map, List.getElem?_range hi, Option.map_some, Option.map_some, this]
  · rw [List.getElem?_eq_none (by simp; omega), List.getElem?_eq_none (by simp; omega)]
theorem aK_get {th : List Bool} {n v : Nat} (hv : v < n) : (aK th n n).getD v 0 = if onB th v then 1 else 0 := by
  unfold aK
  rw [List.getD_eq_getElem?_getD, List.getElem?_map, List.getElem?_range hv]
  cases h : onB th v <;> simp [hv, h]
theorem aK_both {th : List Bool} {n u v : Nat} (hu : u < n) (hv : v < n) : cores.both (aK th n n) u v = (onB th u && onB th v) := by
  unfold cores.both
  rw [aK_get hu, aK_get hv]
  cases onB th u <;> cases onB th v <;> simp
/-- the counts behind k edges -/
def wantK (X : List Nat) (l : List E) (n k : Nat) : List Nat := ((flat l).take k).foldl (cores.step X) (List.replicate n 0)
theorem wantK_len (X : List Nat) (l : List E) (n k : Nat) : (wantK X l n k).length = n := by unfold wantK; rw [foldl_len (cores.step_len X)]; simp
theorem wantK_next {X : List Nat} {l : List E} {n k : Nat} (hk : k < l.length) : wantK X l n (k + 1) = cores.step X (wantK X l n k) (trip l l[k]) := by
  have hk2 : k < (flat l).length := by simpa [flat] using hk
  unfold wantK
  rw [List.take_succ_eq_append_getElem hk2, List.foldl_append]
  simp [flat]
theorem step_no {X s : List Nat} {l : List E} {e : E} (h : cores.both X e.1 e.2 = false) : cores.step X s (trip l e) = s := by
  unfold cores.step trip
  simp only [Int.toNat_natCast, h]
  simp
theorem step_yes {X s : List Nat} {l : List E} {e : E} (h : cores.both X e.1 e.2 = true) : cores.step X s (trip l e) = cores.inc (cores.inc s e.1) e.2 := by
  unfold cores.step trip
  simp only [Int.toNat_natCast, h]
  simp
end Go.Proofs.Ytjdbjahgimlhbaa.Gr
