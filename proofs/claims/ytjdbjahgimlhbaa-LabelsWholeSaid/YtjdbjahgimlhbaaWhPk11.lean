/- Parts of the proof of several laws: no conditions of their own. -/
import Derived.Test.YtjdbjahgimlhbaaWhPk10
import Derived.Test.YtjdbjahgimlhbaaWhPk5
import Derived.Test.YtjdbjahgimlhbaaWhPk8
import Derived.Test.YtjdbjahgimlhbaaWhPk9
section
set_option linter.unusedVariables false
set_option maxRecDepth 100000
namespace Go.Proofs.Ytjdbjahgimlhbaa
open Go.RowKit
open Gr (E T)

theorem ShardsAt.at {w : World} {K b o n s i : Nat} {l : List E} (h : ShardsAt w K (some ⟨b, o, none⟩) n s l) (hi : i < s) : ∃ A vs, w.cell? ⟨b, o + i * 3, none⟩ = some (.int .i64 ((Gr.cut n s i : Nat) : Int)) ∧ w.cell? ⟨b, o + i * 3 + 1, none⟩ = some (.int .i64 ((Gr.cut n s (i + 1) : Nat) : Int)) ∧
    w.cell? ⟨b, o + i * 3 + 2, none⟩ = some (.slice A (Gr.cut n s (i + 1) - Gr.cut n s i) (Gr.cut n s (i + 1) - Gr.cut n s i)) ∧ ∀ (S : Nat → Prop) w', Fr S w w' → (∀ k, S k → K ≤ k) → LsAt w' vs A (Gr.cut n s (i + 1) - Gr.cut n s i) (Gr.shardL l n s i) := by
  obtain ⟨h0, b', o', e, hb, h3⟩ := h
  injection e with e
  injection e with e1 e2
  subst e1
  subst e2
  obtain ⟨A, x0, x1, x2, hl⟩ := h3 i hi
  obtain ⟨vs, hv⟩ := hl.name
  exact ⟨A, vs, x0, x1, x2, fun S w' hf hS => hv S w' hf h0 hS⟩
theorem ShardsAt.addr {w : World} {K n s : Nat} {A : Option Addr} {l : List E} (h : ShardsAt w K A n s l) : ∃ b o, A = some ⟨b, o, none⟩ ∧ b < K := by
  obtain ⟨h0, b', o', e, hb, h3⟩ := h
  exact ⟨_, _, e, hb⟩

/-- what some shards come to, one behind the other -/
def accL (step : List Nat → T → List Nat) (l : List E) (n s : Nat) (ys : List Nat) (o : List Nat) : List Nat := o.foldl (fun t j => (Gr.shardT l n s j).foldl step t) ys
theorem accL_nil (step : List Nat → T → List Nat) (l : List E) (n s : Nat) (ys : List Nat) : accL step l n s ys [] = ys := rfl
theorem accL_snoc (step : List Nat → T → List Nat) (l : List E) (n s : Nat) (ys o : List Nat) (j : Nat) : accL step l n s ys (o ++ [j]) = (Gr.shardT l n s j).foldl step (accL step l n s ys o) := by
  unfold accL
  rw [List.foldl_append]
  rfl
theorem accL_range (step : List Nat → T → List Nat) (l : List E) (n s : Nat) (ys : List Nat) (i : Nat) : accL step l n s ys (List.range (i + 1)) = (Gr.shardT l n s i).foldl step (accL step l n s ys (List.range i)) := by
  rw [List.range_succ]
  exact accL_snoc _ _ _ _ _ _ _
theorem accL_take (step : List Nat → T → List Nat) (l : List E) (n s : Nat) (ys o : List Nat) {i : Nat} (h : i < o.length) : accL step l n s ys (o.take (i + 1)) = (Gr.shardT l n s o[i]).foldl step (accL step l n s ys (o.take i)) := by
  rw [List.take_succ_eq_append_getElem h]
  exact accL_snoc _ _ _ _ _ _ _
theorem accL_flat (step : List Nat → T → List Nat) (l : List E) (n s : Nat) (ys o : List Nat) : accL step l n s ys o = (o.flatMap (Gr.shardT l n s)).foldl step ys := by
  unfold accL
  rw [Gr.foldl_flatMap]
theorem accL_all (step : List Nat → T → List Nat) (hc : ∀ t x y, step (step t x) y = step (step t y) x) (l : List E) (n s : Nat) (h0 : 0 < s) (h : ∀ e ∈ l, e.1 < n) (ys o : List Nat) (ho : o.Perm (List.range s)) : accL step l n s ys o = (Gr.flat l).foldl step ys := by
  rw [accL_flat]
  exact List.Perm.foldl_eq' (Gr.orderT_perm l n s h0 h o ho) (fun x _ y _ z => hc z x y) ys
theorem foldl_len {step : List Nat → T → List Nat} (hl : ∀ t x, (step t x).length = t.length) : ∀ (o : List T) (ys : List Nat), (o.foldl step ys).length = ys.length
  | [], ys => rfl
  | x :: o, ys => by rw [List.foldl_cons, foldl_len hl o, hl]
theorem accL_len (step : List Nat → T → List Nat) (hl : ∀ t x, (step t x).length = t.length) (l : List E) (n s : Nat) (ys o : List Nat) : (accL step l n s ys o).length = ys.length := by
  rw [accL_flat]
  exact foldl_len hl _ _

/-- two pairs of rows -/
structure FourAt (w : World) (pa ga pb gb pc gc pd gd : Nat) (xs ys us vs : List Nat) : Prop where
  a : TwoAt w pa ga pb gb xs ys
  c : TwoAt w pc gc pd gd us vs
  n1 : ga ≠ gc
  n2 : ga ≠ gd
  n3 : gb ≠ gc
  n4 : gb ≠ gd
section
variable {w w' : World} {pa ga pb gb pc gc pd gd : Nat} {xs ys us vs : List Nat}
theorem FourAt.still (h : FourAt w pa ga pb gb pc gc pd gd xs ys us vs) (hf : Fr (fun _ => False) w w') : FourAt w' pa ga pb gb pc gc pd gd xs ys us vs := ⟨h.a.still hf, h.c.still hf, h.n1, h.n2, h.n3, h.n4⟩
theorem FourAt.stepA {xs' ys' : List Nat} (h : FourAt w pa ga pb gb pc gc pd gd xs ys us vs) (hT : TwoAt w' pa ga pb gb xs' ys') (hf : Fr (fun k => k = ga ∨ k = gb) w w') : FourAt w' pa ga pb gb pc gc pd gd xs' ys' us vs := by
  refine ⟨hT, h.c.fr hf ?_ ?_ ?_ ?_, h.n1, h.n2, h.n3, h.n4⟩
  · rintro (e | e)
    · exact (h.c.a.head.ne_ h.a.a.row (by decide)) e
    · exact (h.c.a.head.ne_ h.a.b.row (by decide)) e
  · rintro (e | e)
    · exact h.n1 e.symm
    · exact h.n3 e.symm
  · rintro (e | e)
    · exact (h.c.b.head.ne_ h.a.a.row (by decide)) e
    · exact (h.c.b.head.ne_ h.a.b.row (by decide)) e
  · rintro (e | e)
    · exact h.n2 e.symm
    · exact h.n4 e.symm
theorem FourAt.stepC {us' vs' : List Nat} (h : FourAt w pa ga pb gb pc gc pd gd xs ys us vs) (hT : TwoAt w' pc gc pd gd us' vs') (hf : Fr (fun k => k = gc ∨ k = gd) w w') : FourAt w' pa ga pb gb pc gc pd gd xs ys us' vs' := by
  refine ⟨h.a.fr hf ?_ ?_ ?_ ?_, hT, h.n1, h.n2, h.n3, h.n4⟩
  · rintro (e | e)
    · exact (h.a.a.head.ne_ h.c.a.row (by decide)) e
    · exact (h.a.a.head.ne_ h.c.b.row (by decide)) e
  · rintro (e | e)
    · exact h.n1 e
    · exact h.n2 e
  · rintro (e | e)
    · exact (h.a.b.head.ne_ h.c.a.row (by decide)) e
    · exact (h.a.b.head.ne_ h.c.b.row (by decide)) e
  · rintro (e | e)
    · exact h.n3 e
    · exact h.n4 e
end
theorem may_n {n : Nat} {xs ys : List Nat} (h1 : 1 ≤ n) (h2 : n ≤ 256) (hx : xs.length = n) (hy : ys.length = n) : mayB xs.length ys.length = true := by
  unfold mayB
  simp
  omega
end Go.Proofs.Ytjdbjahgimlhbaa
end
section
set_option linter.unusedVariables false
namespace Go.Proofs.Ytjdbjahgimlhbaa
open Go.RowKit
open Gr (E T)

/-- the shards taken in, one behind the other -/
def kacc (K : Kd) (r : Nat) (X Y : List Nat) (Ls : List (List T)) : List Nat := Ls.foldl (fun t L => L.foldl (K.step r X) t) Y
/-- the rows behind so many rounds -/
def kst (K : Kd) (n : Nat) (Ls : List (List T)) : Nat → List Nat × List Nat
  | 0 => (K.bX n, K.bY n)
  | r + 1 => (K.cX (kst K n Ls r).1 (kacc K r (kst K n Ls r).1 (kst K n Ls r).2 Ls), K.cY (kst K n Ls r).1 (kacc K r (kst K n Ls r).1 (kst K n Ls r).2 Ls))
def kdn (K : Kd) (n : Nat) (Ls : List (List T)) (r : Nat) : Bool := K.dn r (kst K n Ls r).1 (kacc K r (kst K n Ls r).1 (kst K n Ls r).2 Ls)
/-- behind how many rounds it ends: the first that says so, or the last -/
def stopAt (d : Nat → Bool) (b : Nat) : Nat := match (List.range b).find? d with
  | some r => r + 1
  | none => b
theorem stop_some {d : Nat → Bool} {b r : Nat} (hr : r < b) (h : d r = true) (hl : ∀ j, j < r → d j = false) : stopAt d b = r + 1 := by
  unfold stopAt
  rw [(List.find?_range_eq_some (i := r) (p := d)).2 ⟨h, by simpa using hr, fun j hj => by simp [hl j hj]⟩]
theorem stop_none {d : Nat → Bool} {b : Nat} (hl : ∀ j, j < b → d j = false) : stopAt d b = b := by
  unfold stopAt
  rw [List.find?_eq_none.2 (fun j hj => by simp [hl j (List.mem_range.1 hj)])]
theorem stop_congr {d d' : Nat → Bool} {b : Nat} (h : ∀ j, d j = d' j) : stopAt d b = stopAt d' b := by rw [show d = d' from funext h]
/-- what is asked of a kind's lengths -/
structure Kd.Good (K : Kd) : Prop where
  bX : ∀ n, (K.bX n).length = n
  bY : ∀ n, (K.bY n).length = n
  st : ∀ r X t e, (K.step r X t e).length = t.length
  cX : ∀ X Y, (K.cX X Y).length = X.length
  cY : ∀ X Y, (K.cY X Y).length = X.length
theorem kd_good (k arg : Nat) : (kdOf k arg).Good := by
  have g1 : (kdOf 1 arg).Good := ⟨fun n => by simp [kdOf, bfs.bX], fun n => by simp [kdOf, bfs.bY], fun r X t e => bfs.step_len _ _ _ _, fun X Y => by simp [kdOf, bfs.cXs], fun X Y => by simp [kdOf, bfs.cYs]⟩
  have g2 : (kdOf 2 arg).Good := ⟨fun n => by simp [kdOf, rank.bX], fun n => by simp [kdOf, rank.bY], fun r X t e => rank.step_len _ _ _, fun X Y => by simp [kdOf], fun X Y => by simp [kdOf, rank.bY]⟩
  have g3 : (kdOf 3 arg).Good := ⟨fun n => by simp [kdOf, labels.bX], fun n => by simp [kdOf, labels.bY], fun r X t e => labels.step_len _ _ _, fun X Y => by simp [kdOf, labels.cXs], fun X Y => by simp [kdOf, labels.cYs]⟩
  have g4 : ∀ k, k ≠ 1 → k ≠ 2 → k ≠ 3 → (kdOf k arg).Good := fun k h1 h2 h3 => by
    have e : kdOf k arg = kdOf 4 arg := by unfold kdOf; split <;> first | rfl | contradiction
    rw [e]
    exact ⟨fun n => by simp [kdOf, cores.bX], fun n => by simp [kdOf, cores.bY], fun r X t e => cores.step_len _ _ _, fun X Y => by simp [kdOf, cores.cXs], fun X Y => by simp [kdOf, cores.cYs]⟩
  by_cases h1 : k = 1
  · subst h1; exact g1
  by_cases h2 : k = 2
  · subst h2; exact g2
  by_cases h3 : k = 3
  · subst h3; exact g3
  exact g4 k h1 h2 h3
theorem kacc_len {K : Kd} (hK : K.Good) (r : Nat) (X : List Nat) : ∀ (Ls : List (List T)) (Y : List Nat), (kacc K r X Y Ls).length = Y.length
  | [], Y => rfl
  | L :: Ls, Y => by
    have h := kacc_len hK r X Ls (L.foldl (K.step r X) Y)
    rw [foldl_len (hK.st r X)] at h
    exact h
theorem kst_len {K : Kd} (hK : K.Good) (n : Nat) (Ls : List (List T)) : ∀ r, (kst K n Ls r).1.length = n ∧ (kst K n Ls r).2.length = n
  | 0 => ⟨hK.bX n, hK.bY n⟩
  | r + 1 => by
    have := kst_len hK n Ls r
    exact ⟨by simp only [kst]; rw [hK.cX]; exact this.1, by simp only [kst]; rw [hK.cY]; exact this.1⟩
theorem kacc_take (K : Kd) (r : Nat) (X Y : List Nat) (Ls : List (List T)) {i : Nat} (h : i < Ls.length) : kacc K r X Y (Ls.take (i + 1)) = (Ls.getD i []).foldl (K.step r X) (kacc K r X Y (Ls.take i)) := by
  unfold kacc
  rw [List.take_succ_eq_append_getElem h, List.foldl_append]
  simp [List.getD, h]
/-- shards, in memory below K, each of which fits, and what each says -/
def ShsAt (w : World) (K : Nat) (A : Option Addr) (s n : Nat) (Ls : List (List T)) : Prop :=
  Ls.length = s ∧ K ≤ w.heap.size ∧ ∀ i, i < s → ∃ b o fr to Ai m c vs L, A = some ⟨b, o, none⟩ ∧ b < K ∧ w.cell? ⟨b, o + i * 3, none⟩ = some (.int .i64 fr) ∧ w.cell? ⟨b, o + i * 3 + 1, none⟩ = some (.int .i64 to) ∧ w.cell? ⟨b, o + i * 3 + 2, none⟩ = some (.slice Ai m c) ∧
    fitsB fr to n L = true ∧ edgs fr L = Ls.getD i [] ∧ ∀ (S : Nat → Prop) w', Fr S w w' → (∀ k, S k → K ≤ k) → LsAt w' vs Ai m L
theorem ShsAt.fr {S : Nat → Prop} {w w' : World} {K s n : Nat} {A : Option Addr} {Ls : List (List T)} (h : ShsAt w K A s n Ls) (hf : Fr S w w') (hS : ∀ k, S k → K ≤ k) : ShsAt w' K A s n Ls := by
  refine ⟨h.1, Nat.le_trans h.2.1 hf.size, fun i hi => ?_⟩
  obtain ⟨b, o, fr, to, Ai, m, c, vs, L, e, hb, q0, q1, q2, h1, h2, h3⟩ := h.2.2 i hi
  have hn : ¬ S b := fun hs => by have := hS b hs; omega
  exact ⟨b, o, fr, to, Ai, m, c, vs, L, e, hb, hf.cell q0 hn, hf.cell q1 hn, hf.cell q2 hn, h1, h2, fun S' w'' hf' hS' => h3 (fun k => S k ∨ S' k) w'' ((hf.mono (fun k h => .inl h)).trans hf' (fun k h => .inl (.inr h))) (fun k hk => hk.elim (hS k) (hS' k))⟩
theorem ShsAt.of {w : World} {K n s : Nat} {A : Option Addr} {l : List E} (h : ShardsAt w K A n s l) (hs : 0 < s) (hl : ∀ e ∈ l, e.2 < n) : ShsAt w K A s n ((List.range s).map (Gr.shardT l n s)) := by
  obtain ⟨b, o, rfl, hb⟩ := h.addr
  refine ⟨by simp, h.1, fun i hi => ?_⟩
  obtain ⟨Ai, vs, q0, q1, q2, hst⟩ := h.at hi
  exact ⟨b, o, _, _, Ai, _, _, vs, _, rfl, hb, q0, q1, q2, Gr.shard_fits l n s i hs hi hl, by simp [hi, Gr.shardT], hst⟩
end Go.Proofs.Ytjdbjahgimlhbaa
end
section
set_option linter.unusedVariables false
namespace Go.Proofs.Ytjdbjahgimlhbaa
open Go.RowKit
open Gr (E T)

theorem kd_comm (k arg : Nat) : ∀ r X t x y, (kdOf k arg).step r X ((kdOf k arg).step r X t x) y = (kdOf k arg).step r X ((kdOf k arg).step r X t y) x := by
  have g4 : ∀ k, k ≠ 1 → k ≠ 2 → k ≠ 3 → kdOf k arg = kdOf 4 arg := fun k h1 h2 h3 => by unfold kdOf; split <;> first | rfl | contradiction
  intro r X t x y
  by_cases h1 : k = 1
  · subst h1; exact Gr.bfs_comm _ _ _ _ _
  by_cases h2 : k = 2
  · subst h2; exact Gr.rank_comm _ _ _ _
  by_cases h3 : k = 3
  · subst h3; exact Gr.labels_comm _ _ _ _
  rw [g4 k h1 h2 h3]
  exact Gr.cores_comm _ _ _ _
theorem kacc_order (k arg : Nat) (l : List E) (n s : Nat) (hs : 0 < s) (h : ∀ e ∈ l, e.1 < n) (o : List Nat) (ho : o.Perm (List.range s)) (r : Nat) (X Y : List Nat) :
    kacc (kdOf k arg) r X Y (o.map (Gr.shardT l n s)) = kacc (kdOf k arg) r X Y [Gr.flat l] := by
  have := accL_all ((kdOf k arg).step r X) (fun t x y => kd_comm k arg r X t x y) l n s hs h Y o ho
  unfold kacc
  rw [List.foldl_map]
  exact this
theorem kst_same {K : Kd} {n : Nat} {Ls Ls' : List (List T)} (h : ∀ r X Y, kacc K r X Y Ls = kacc K r X Y Ls') : ∀ r, kst K n Ls r = kst K n Ls' r
  | 0 => rfl
  | r + 1 => by simp only [kst, kst_same h r, h]
theorem kdn_same {K : Kd} {n : Nat} {Ls Ls' : List (List T)} (h : ∀ r X Y, kacc K r X Y Ls = kacc K r X Y Ls') (r : Nat) : kdn K n Ls r = kdn K n Ls' r := by
  unfold kdn
  rw [kst_same h r, h]
/-- what a job of a graph comes to, and in how many rounds -/
def kruns (k arg n : Nat) (l : List E) : Nat := stopAt (kdn (kdOf k arg) n [Gr.flat l]) (bnd k arg n)
def kout (k arg n : Nat) (l : List E) : List Nat := (kst (kdOf k arg) n [Gr.flat l] (kruns k arg n l)).1
theorem krun_order (k arg : Nat) (l : List E) (n s : Nat) (hs : 0 < s) (h : ∀ e ∈ l, e.1 < n) (o : List Nat) (ho : o.Perm (List.range s)) :
    stopAt (kdn (kdOf k arg) n (o.map (Gr.shardT l n s))) (bnd k arg n) = kruns k arg n l ∧ (kst (kdOf k arg) n (o.map (Gr.shardT l n s)) (kruns k arg n l)).1 = kout k arg n l := by
  have hk := kacc_order k arg l n s hs h o ho
  exact ⟨stop_congr (kdn_same hk), by unfold kout; rw [kst_same hk]⟩
theorem kout_len (k arg n : Nat) (l : List E) : (kout k arg n l).length = n := (kst_len (kd_good k arg) n [Gr.flat l] _).1
end Go.Proofs.Ytjdbjahgimlhbaa
end
