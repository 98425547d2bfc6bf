/- PLAIN LAW of a job's rounds. No program in sight, but the kinds' steps. -/
import Derived.Test.YtjdbjahgimlhbaaKern
import Derived.Test.YtjdbjahgimlhbaaFour
set_option linter.unusedVariables false
namespace Go.Proofs.Ytjdbjahgimlhbaa
open Go.RowKit
open Gr (E T)

/-- the shards taken in, one behind the other -/
def kacc (K : Kd) (r : Nat) (X Y : List Nat) (Ls : List (List T)) : List Nat := Ls.foldl (fun t L => L.foldl (K.step r X) t) Y
/-- the rows behind so many rounds -/
def kst (K : Kd) (n : Nat) (Ls : List (List T)) : Nat → List Nat × List Nat
  | 0 => (K.bX n, K.bY n)
  | r + 1 => (K.cX (kst K n Ls r).1 (kacc K r (kst K n Ls r).1 (kst K n Ls r).2 Ls), K.cY (kst K n Ls r).1 (kacc K r (kst K n Ls r).1 (kst K n Ls r).2 Ls))
def kdn (K : Kd) (n : Nat) (Ls : List (List T)) (r : Nat) : Bool := K.dn r (kst K n Ls r).1 (kacc K r (kst K n Ls r).1 (kst K n Ls r).2 Ls)
/-- behind how many rounds it ends: the first that says so, or the last -/
def stopAt (d : Nat → Bool) (b : Nat) : Nat := match (List.range b).find? d with
  | some r => r + 1
  | none => b
theorem stop_some {d : Nat → Bool} {b r : Nat} (hr : r < b) (h : d r = true) (hl : ∀ j, j < r → d j = false) : stopAt d b = r + 1 := by
  unfold stopAt
  rw [(List.find?_range_eq_some (i := r) (p := d)).2 ⟨h, by simpa using hr, fun j hj => by simp [hl j hj]⟩]
theorem stop_none {d : Nat → Bool} {b : Nat} (hl : ∀ j, j < b → d j = false) : stopAt d b = b := by
  unfold stopAt
  rw [List.find?_eq_none.2 (fun j hj => by simp [hl j (List.mem_range.1 hj)])]
theorem stop_congr {d d' : Nat → Bool} {b : Nat} (h : ∀ j, d j = d' j) : stopAt d b = stopAt d' b := by rw [show d = d' from funext h]
/-- what is asked of a kind's lengths -/
structure Kd.Good (K : Kd) : Prop where
  bX : ∀ n, (K.bX n).length = n
  bY : ∀ n, (K.bY n).length = n
  st : ∀ r X t e, (K.step r X t e).length = t.length
  cX : ∀ X Y, (K.cX X Y).length = X.length
  cY : ∀ X Y, (K.cY X Y).length = X.length
theorem kd_good (k arg : Nat) : (kdOf k arg).Good := by
  have g1 : (kdOf 1 arg).Good := ⟨fun n => by simp [kdOf, bfs.bX], fun n => by simp [kdOf, bfs.bY], fun r X t e => bfs.step_len _ _ _ _, fun X Y => by simp [kdOf, bfs.cXs], fun X Y => by simp [kdOf, bfs.cYs]⟩
  have g2 : (kdOf 2 arg).Good := ⟨fun n => by simp [kdOf, rank.bX], fun n => by simp [kdOf, rank.bY], fun r X t e => rank.step_len _ _ _, fun X Y => by simp [kdOf], fun X Y => by simp [kdOf, rank.bY]⟩
  have g3 : (kdOf 3 arg).Good := ⟨fun n => by simp [kdOf, labels.bX], fun n => by simp [kdOf, labels.bY], fun r X t e => labels.step_len _ _ _, fun X Y => by simp [kdOf, labels.cXs], fun X Y => by simp [kdOf, labels.cYs]⟩
  have g4 : ∀ k, k ≠ 1 → k ≠ 2 → k ≠ 3 → (kdOf k arg).Good := fun k h1 h2 h3 => by
    have e : kdOf k arg = kdOf 4 arg := by unfold kdOf; split <;> first | rfl | contradiction
    rw [e]
    exact ⟨fun n => by simp [kdOf, cores.bX], fun n => by simp [kdOf, cores.bY], fun r X t e => cores.step_len _ _ _, fun X Y => by simp [kdOf, cores.cXs], fun X Y => by simp [kdOf, cores.cYs]⟩
  by_cases h1 : k = 1
  · subst h1; exact g1
  by_cases h2 : k = 2
  · subst h2; exact g2
  by_cases h3 : k = 3
  · subst h3; exact g3
  exact g4 k h1 h2 h3
theorem kacc_len {K : Kd} (hK : K.Good) (r : Nat) (X : List Nat) : ∀ (Ls : List (List T)) (Y : List Nat), (kacc K r X Y Ls).length = Y.length
  | [], Y => rfl
  | L :: Ls, Y => by
    have h := kacc_len hK r X Ls (L.foldl (K.step r X) Y)
    rw [foldl_len (hK.st r X)] at h
    exact h
theorem kst_len {K : Kd} (hK : K.Good) (n : Nat) (Ls : List (List T)) : ∀ r, (kst K n Ls r).1.length = n ∧ (kst K n Ls r).2.length = n
  | 0 => ⟨hK.bX n, hK.bY n⟩
  | r + 1 => by
    have := kst_len hK n Ls r
    exact ⟨by simp only [kst]; rw [hK.cX]; exact this.1, by simp only [kst]; rw [hK.cY]; exact this.1⟩
theorem kacc_take (K : Kd) (r : Nat) (X Y : List Nat) (Ls : List (List T)) {i : Nat} (h : i < Ls.length) : kacc K r X Y (Ls.take (i + 1)) = (Ls.getD i []).foldl (K.step r X) (kacc K r X Y (Ls.take i)) := by
  unfold kacc
  rw [List.take_succ_eq_append_getElem h, List.foldl_append]
  simp [List.getD, h]
/-- shards, in memory below K, each of which fits, and what each says -/
def ShsAt (w : World) (K : Nat) (A : Option Addr) (s n : Nat) (Ls : List (List T)) : Prop :=
  Ls.length = s ∧ K ≤ w.heap.size ∧ ∀ i, i < s → ∃ b o fr to Ai m c vs L, A = some ⟨b, o, none⟩ ∧ b < K ∧ w.cell? ⟨b, o + i * 3, none⟩ = some (.int .i64 fr) ∧ w.cell? ⟨b, o + i * 3 + 1, none⟩ = some (.int .i64 to) ∧ w.cell? ⟨b, o + i * 3 + 2, none⟩ = some (.slice Ai m c) ∧
    fitsB fr to n L = true ∧ edgs fr L = Ls.getD i [] ∧ ∀ (S : Nat → Prop) w', Fr S w w' → (∀ k, S k → K ≤ k) → LsAt w' vs Ai m L
theorem ShsAt.fr {S : Nat → Prop} {w w' : World} {K s n : Nat} {A : Option Addr} {Ls : List (List T)} (h : ShsAt w K A s n Ls) (hf : Fr S w w') (hS : ∀ k, S k → K ≤ k) : ShsAt w' K A s n Ls := by
  refine ⟨h.1, Nat.le_trans h.2.1 hf.size, fun i hi => ?_⟩
  obtain ⟨b, o, fr, to, Ai, m, c, vs, L, e, hb, q0, q1, q2, h1, h2, h3⟩ := h.2.2 i hi
  have hn : ¬ S b := fun hs => by have := hS b hs; omega
  exact ⟨b, o, fr, to, Ai, m, c, vs, L, e, hb, hf.cell q0 hn, hf.cell q1 hn, hf.cell q2 hn, h1, h2, fun S' w'' hf' hS' => h3 (fun k => S k ∨ S' k) w'' ((hf.mono (fun k h => .inl h)).trans hf' (fun k h => .inl (.inr h))) (fun k hk => hk.elim (hS k) (hS' k))⟩
theorem ShsAt.of {w : World} {K n s : Nat} {A : Option Addr} {l : List E} (h : ShardsAt w K A n s l) (hs : 0 < s) (hl : ∀ e ∈ l, e.2 < n) : ShsAt w K A s n ((List.range s).map (Gr.shardT l n s)) := by
  obtain ⟨b, o, rfl, hb⟩ := h.addr
  refine ⟨by simp, h.1, fun i hi => ?_⟩
  obtain ⟨Ai, vs, q0, q1, q2, hst⟩ := h.at hi
  exact ⟨b, o, _, _, Ai, _, _, vs, _, rfl, hb, q0, q1, q2, Gr.shard_fits l n s i hs hi hl, by simp [hi, Gr.shardT], hst⟩
end Go.Proofs.Ytjdbjahgimlhbaa
