/- PLAIN LAWS of the chapters' steps: in any order, as often as one likes. No program in sight. -/
import Derived.Test.YtjdbjahgimlhbaaGrFold
import Derived.Test.YtjdbjahgimlhbaaCBfs
import Derived.Test.YtjdbjahgimlhbaaCLabels
import Derived.Test.YtjdbjahgimlhbaaCCores
import Derived.Test.YtjdbjahgimlhbaaRank
set_option linter.unusedVariables false
namespace Go.Proofs.Ytjdbjahgimlhbaa.Gr
open Go.RowKit

/-- a number of a row, changed -/
def upd (s : List Nat) (v : Nat) (g : Nat → Nat) : List Nat := s.set v (g (s.getD v 0))
theorem upd_len (s : List Nat) (v : Nat) (g : Nat → Nat) : (upd s v g).length = s.length := by simp [upd]
theorem upd_get (s : List Nat) (v : Nat) (g : Nat → Nat) (i : Nat) : (upd s v g).getD i 0 = if v = i ∧ i < s.length then g (s.getD i 0) else s.getD i 0 := by
  unfold upd
  simp only [List.getD_eq_getElem?_getD, List.getElem?_set]
  by_cases h : v = i
  · subst h
    by_cases h2 : v < s.length
    · simp [h2]
    · simp [h2]
  · simp [h]
theorem row_ext {s t : List Nat} (hl : s.length = t.length) (h : ∀ i, i < s.length → s.getD i 0 = t.getD i 0) : s = t := by
  apply List.ext_getElem hl
  intro i h1 h2
  have := h i h1
  simpa [List.getD_eq_getElem?_getD, List.getElem?_eq_getElem h1, List.getElem?_eq_getElem h2] using this
theorem upd_comm (s : List Nat) (v w : Nat) (g h : Nat → Nat) (hc : v = w → ∀ x, h (g x) = g (h x)) : upd (upd s v g) w h = upd (upd s w h) v g := by
  apply row_ext (by simp [upd_len])
  intro i hi
  simp only [upd_get, upd_len] at hi ⊢
  by_cases h1 : v = i
  · by_cases h2 : w = i
    · subst h1; subst h2
      simp [hi, hc rfl]
    · simp [h1, h2]
  · by_cases h2 : w = i
    · simp [h1, h2]
    · simp [h1, h2]
theorem upd_same (s : List Nat) (v : Nat) (g : Nat → Nat) (hg : ∀ x, g (g x) = g x) : upd (upd s v g) v g = upd s v g := by
  apply row_ext (by simp [upd_len])
  intro i hi
  simp only [upd_get, upd_len] at hi ⊢
  by_cases h1 : v = i
  · subst h1
    by_cases h2 : v < s.length
    · simp [h2, hg]
    · simp [h2]
  · simp [h1]
def least (x : Nat) : Nat → Nat := fun y => min y x
theorem least_comm (a b x : Nat) : least a (least b x) = least b (least a x) := by unfold least; omega
theorem least_same (a x : Nat) : least a (least a x) = least a x := by unfold least; omega

theorem bfs_step (r : Int) (xs s : List Nat) (e : T) : bfs.step r xs s e = if bfs.hitB r xs e.1.toNat then upd s e.2.1.toNat (least (xs.getD e.1.toNat 0 + 1)) else s := rfl
theorem bfs_comm (r : Int) (xs s : List Nat) (e f : T) : bfs.step r xs (bfs.step r xs s e) f = bfs.step r xs (bfs.step r xs s f) e := by
  simp only [bfs_step]
  split
  · split
    · exact upd_comm _ _ _ _ _ (fun _ x => least_comm _ _ x)
    · rfl
  · rfl
theorem bfs_same (r : Int) (xs s : List Nat) (e : T) : bfs.step r xs (bfs.step r xs s e) e = bfs.step r xs s e := by
  simp only [bfs_step]
  split
  · exact upd_same _ _ _ (least_same _)
  · rfl
theorem labels_step (xs s : List Nat) (e : T) : labels.step xs s e = upd (upd s e.2.1.toNat (least (xs.getD e.1.toNat 0))) e.1.toNat (least (xs.getD e.2.1.toNat 0)) := rfl
theorem lc (s : List Nat) (v w a b : Nat) : upd (upd s v (least a)) w (least b) = upd (upd s w (least b)) v (least a) := upd_comm _ _ _ _ _ (fun _ x => least_comm _ _ x)
theorem labels_comm (xs s : List Nat) (e f : T) : labels.step xs (labels.step xs s e) f = labels.step xs (labels.step xs s f) e := by
  simp only [labels_step]
  rw [lc (upd s e.2.1.toNat _) e.1.toNat f.2.1.toNat, lc s e.2.1.toNat f.2.1.toNat, lc (upd (upd s f.2.1.toNat _) e.2.1.toNat _) e.1.toNat f.1.toNat, lc (upd s f.2.1.toNat _) e.2.1.toNat f.1.toNat]
theorem labels_same (xs s : List Nat) (e : T) : labels.step xs (labels.step xs s e) e = labels.step xs s e := by
  simp only [labels_step]
  rw [lc (upd s e.2.1.toNat _) e.1.toNat e.2.1.toNat, upd_same _ _ _ (least_same _), upd_same _ _ _ (least_same _)]
/-- an edge turned round says the same -/
theorem labels_turn (xs s : List Nat) (a b : Int) (d d' : Nat) : labels.step xs s (a, b, d) = labels.step xs s (b, a, d') := by
  simp only [labels_step]
  exact lc _ _ _ _ _
theorem cores_step (xs s : List Nat) (e : T) : cores.step xs s e = if cores.both xs e.1.toNat e.2.1.toNat then upd (upd s e.1.toNat cores.up) e.2.1.toNat cores.up else s := rfl
theorem uc (s : List Nat) (v w : Nat) : upd (upd s v cores.up) w cores.up = upd (upd s w cores.up) v cores.up := upd_comm _ _ _ _ _ (fun _ x => rfl)
theorem cores_comm (xs s : List Nat) (e f : T) : cores.step xs (cores.step xs s e) f = cores.step xs (cores.step xs s f) e := by
  simp only [cores_step]
  split
  · split
    · rw [uc (upd s e.1.toNat _) e.2.1.toNat f.1.toNat, uc s e.1.toNat f.1.toNat, uc (upd (upd s f.1.toNat _) e.1.toNat _) e.2.1.toNat f.2.1.toNat, uc (upd s f.1.toNat _) e.1.toNat f.2.1.toNat]
    · rfl
  · rfl
def plus (q : Nat) : Nat → Nat := fun y => (y + q) % 18446744073709551616
theorem plus_comm (a b x : Nat) : plus a (plus b x) = plus b (plus a x) := by unfold plus; omega
theorem rank_step (xs s : List Nat) (e : T) : rank.step xs s e = upd s e.2.1.toNat (plus (xs.getD e.1.toNat 0 / e.2.2)) := rfl
theorem rank_comm (xs s : List Nat) (e f : T) : rank.step xs (rank.step xs s e) f = rank.step xs (rank.step xs s f) e := by
  simp only [rank_step]
  exact upd_comm _ _ _ _ _ (fun _ x => plus_comm _ _ x)
end Go.Proofs.Ytjdbjahgimlhbaa.Gr
