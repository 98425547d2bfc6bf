/- TWO PAIRS OF ROWS; a shard out of many; what shards come to, one behind the other. -/
import Derived.Test.YtjdbjahgimlhbaaShards
import Derived.Test.YtjdbjahgimlhbaaJobA
import Derived.Test.YtjdbjahgimlhbaaGrStep
set_option linter.unusedVariables false
set_option maxRecDepth 100000
namespace Go.Proofs.Ytjdbjahgimlhbaa
open Go.RowKit
open Gr (E T)

theorem ShardsAt.at {w : World} {K b o n s i : Nat} {l : List E} (h : ShardsAt w K (some ⟨b, o, none⟩) n s l) (hi : i < s) : ∃ A vs, w.cell? ⟨b, o + i * 3, none⟩ = some (.int .i64 ((Gr.cut n s i : Nat) : Int)) ∧ w.cell? ⟨b, o + i * 3 + 1, none⟩ = some (.int .i64 ((Gr.cut n s (i + 1) : Nat) : Int)) ∧
    w.cell? ⟨b, o + i * 3 + 2, none⟩ = some (.slice A (Gr.cut n s (i + 1) - Gr.cut n s i) (Gr.cut n s (i + 1) - Gr.cut n s i)) ∧ ∀ (S : Nat → Prop) w', Fr S w w' → (∀ k, S k → K ≤ k) → LsAt w' vs A (Gr.cut n s (i + 1) - Gr.cut n s i) (Gr.shardL l n s i) := by
  obtain ⟨h0, b', o', e, hb, h3⟩ := h
  injection e with e
  injection e with e1 e2
  subst e1
  subst e2
  obtain ⟨A, x0, x1, x2, hl⟩ := h3 i hi
  obtain ⟨vs, hv⟩ := hl.name
  exact ⟨A, vs, x0, x1, x2, fun S w' hf hS => hv S w' hf h0 hS⟩
theorem ShardsAt.addr {w : World} {K n s : Nat} {A : Option Addr} {l : List E} (h : ShardsAt w K A n s l) : ∃ b o, A = some ⟨b, o, none⟩ ∧ b < K := by
  obtain ⟨h0, b', o', e, hb, h3⟩ := h
  exact ⟨_, _, e, hb⟩

/-- what some shards come to, one behind the other -/
def accL (step : List Nat → T → List Nat) (l : List E) (n s : Nat) (ys : List Nat) (o : List Nat) : List Nat := o.foldl (fun t j => (Gr.shardT l n s j).foldl step t) ys
theorem accL_nil (step : List Nat → T → List Nat) (l : List E) (n s : Nat) (ys : List Nat) : accL step l n s ys [] = ys := rfl
theorem accL_snoc (step : List Nat → T → List Nat) (l : List E) (n s : Nat) (ys o : List Nat) (j : Nat) : accL step l n s ys (o ++ [j]) = (Gr.shardT l n s j).foldl step (accL step l n s ys o) := by
  unfold accL
  rw [List.foldl_append]
  rfl
theorem accL_range (step : List Nat → T → List Nat) (l : List E) (n s : Nat) (ys : List Nat) (i : Nat) : accL step l n s ys (List.range (i + 1)) = (Gr.shardT l n s i).foldl step (accL step l n s ys (List.range i)) := by
  rw [List.range_succ]
  exact accL_snoc _ _ _ _ _ _ _
theorem accL_take (step : List Nat → T → List Nat) (l : List E) (n s : Nat) (ys o : List Nat) {i : Nat} (h : i < o.length) : accL step l n s ys (o.take (i + 1)) = (Gr.shardT l n s o[i]).foldl step (accL step l n s ys (o.take i)) := by
  rw [List.take_succ_eq_append_getElem h]
  exact accL_snoc _ _ _ _ _ _ _
theorem accL_flat (step : List Nat → T → List Nat) (l : List E) (n s : Nat) (ys o : List Nat) : accL step l n s ys o = (o.flatMap (Gr.shardT l n s)).foldl step ys := by
  unfold accL
  rw [Gr.foldl_flatMap]
theorem accL_all (step : List Nat → T → List Nat) (hc : ∀ t x y, step (step t x) y = step (step t y) x) (l : List E) (n s : Nat) (h0 : 0 < s) (h : ∀ e ∈ l, e.1 < n) (ys o : List Nat) (ho : o.Perm (List.range s)) : accL step l n s ys o = (Gr.flat l).foldl step ys := by
  rw [accL_flat]
  exact List.Perm.foldl_eq' (Gr.orderT_perm l n s h0 h o ho) (fun x _ y _ z => hc z x y) ys
theorem foldl_len {step : List Nat → T → List Nat} (hl : ∀ t x, (step t x).length = t.length) : ∀ (o : List T) (ys : List Nat), (o.foldl step ys).length = ys.length
  | [], ys => rfl
  | x :: o, ys => by rw [List.foldl_cons, foldl_len hl o, hl]
theorem accL_len (step : List Nat → T → List Nat) (hl : ∀ t x, (step t x).length = t.length) (l : List E) (n s : Nat) (ys o : List Nat) : (accL step l n s ys o).length = ys.length := by
  rw [accL_flat]
  exact foldl_len hl _ _

/-- two pairs of rows -/
structure FourAt (w : World) (pa ga pb gb pc gc pd gd : Nat) (xs ys us vs : List Nat) : Prop where
  a : TwoAt w pa ga pb gb xs ys
  c : TwoAt w pc gc pd gd us vs
  n1 : ga ≠ gc
  n2 : ga ≠ gd
  n3 : gb ≠ gc
  n4 : gb ≠ gd
section
variable {w w' : World} {pa ga pb gb pc gc pd gd : Nat} {xs ys us vs : List Nat}
theorem FourAt.still (h : FourAt w pa ga pb gb pc gc pd gd xs ys us vs) (hf : Fr (fun _ => False) w w') : FourAt w' pa ga pb gb pc gc pd gd xs ys us vs := ⟨h.a.still hf, h.c.still hf, h.n1, h.n2, h.n3, h.n4⟩
theorem FourAt.stepA {xs' ys' : List Nat} (h : FourAt w pa ga pb gb pc gc pd gd xs ys us vs) (hT : TwoAt w' pa ga pb gb xs' ys') (hf : Fr (fun k => k = ga ∨ k = gb) w w') : FourAt w' pa ga pb gb pc gc pd gd xs' ys' us vs := by
  refine ⟨hT, h.c.fr hf ?_ ?_ ?_ ?_, h.n1, h.n2, h.n3, h.n4⟩
  · rintro (e | e)
    · exact (h.c.a.head.ne_ h.a.a.row (by decide)) e
    · exact (h.c.a.head.ne_ h.a.b.row (by decide)) e
  · rintro (e | e)
    · exact h.n1 e.symm
    · exact h.n3 e.symm
  · rintro (e | e)
    · exact (h.c.b.head.ne_ h.a.a.row (by decide)) e
    · exact (h.c.b.head.ne_ h.a.b.row (by decide)) e
  · rintro (e | e)
    · exact h.n2 e.symm
    · exact h.n4 e.symm
theorem FourAt.stepC {us' vs' : List Nat} (h : FourAt w pa ga pb gb pc gc pd gd xs ys us vs) (hT : TwoAt w' pc gc pd gd us' vs') (hf : Fr (fun k => k = gc ∨ k = gd) w w') : FourAt w' pa ga pb gb pc gc pd gd xs ys us' vs' := by
  refine ⟨h.a.fr hf ?_ ?_ ?_ ?_, hT, h.n1, h.n2, h.n3, h.n4⟩
  · rintro (e | e)
    · exact (h.a.a.head.ne_ h.c.a.row (by decide)) e
    · exact (h.a.a.head.ne_ h.c.b.row (by decide)) e
  · rintro (e | e)
    · exact h.n1 e
    · exact h.n2 e
  · rintro (e | e)
    · exact (h.a.b.head.ne_ h.c.a.row (by decide)) e
    · exact (h.a.b.head.ne_ h.c.b.row (by decide)) e
  · rintro (e | e)
    · exact h.n3 e
    · exact h.n4 e
end
theorem may_n {n : Nat} {xs ys : List Nat} (h1 : 1 ≤ n) (h2 : n ≤ 256) (hx : xs.length = n) (hy : ys.length = n) : mayB xs.length ys.length = true := by
  unfold mayB
  simp
  omega
end Go.Proofs.Ytjdbjahgimlhbaa
