/- PLAIN LAWS of shards' edges, of folds over them, in any order. No program in sight. -/
import Derived.Test.YtjdbjahgimlhbaaGrPlain
import Derived.Test.YtjdbjahgimlhbaaTwo
set_option linter.unusedVariables false
namespace Go.Proofs.Ytjdbjahgimlhbaa.Gr
open Go.RowKit

/-- an edge as the rows' fold takes it: from, to, how many begin where it begins -/
abbrev T := Int × Int × Nat
def deg (l : List E) (u : Nat) : Nat := (outs l u).length
def trip (l : List E) (e : E) : T := ((e.1 : Int), (e.2 : Int), deg l e.1)
def flat (l : List E) : List T := l.map (trip l)
/-- the lists of the vertices from a on, so many -/
def lists (l : List E) (a m : Nat) : List (List Int) := (List.range m).map fun k => (outs l (a + k)).map (fun v : Nat => (v : Int))
theorem lists_len (l : List E) (a m : Nat) : (lists l a m).length = m := by simp [lists]
theorem lists_succ (l : List E) (a m : Nat) : lists l a (m + 1) = (outs l a).map (fun v : Nat => (v : Int)) :: lists l (a + 1) m := by
  unfold lists
  rw [List.range_succ_eq_map, List.map_cons, List.map_map]
  congr 1
  apply List.map_congr_left
  intro k _
  simp only [Function.comp]
  rw [show a + k.succ = a + 1 + k by omega]
/-- the edges of a part -/
def within (l : List E) (a b : Nat) : List E := l.filter fun e => decide (a ≤ e.1) && decide (e.1 < b)
theorem one_edgs (l : List E) (u : Nat) : ((outs l u).map (fun v : Nat => (v : Int))).map (fun v => ((u : Int), v, ((outs l u).map (fun v : Nat => (v : Int))).length)) = (l.filter fun e => e.1 == u).map (trip l) := by
  rw [List.length_map]
  unfold outs
  rw [List.map_map, List.map_map]
  apply List.map_congr_left
  intro e he
  have hu : e.1 = u := by simpa using (List.mem_filter.1 he).2
  simp only [Function.comp, trip, deg, outs, hu]
theorem lists_edgs (l : List E) : ∀ (m a : Nat), (edgs (a : Int) (lists l a m)).Perm ((within l a (a + m)).map (trip l))
  | 0, a => by
    have : within l a (a + 0) = [] := by
      unfold within
      rw [List.filter_eq_nil_iff]
      intro e _
      simp only [Bool.and_eq_true, decide_eq_true_eq]
      omega
    rw [this]
    exact List.Perm.nil
  | m + 1, a => by
    rw [lists_succ]
    show (((outs l a).map (fun v : Nat => (v : Int))).map (fun v => ((a : Int), v, ((outs l a).map (fun v : Nat => (v : Int))).length)) ++ edgs ((a : Int) + 1) (lists l (a + 1) m)).Perm _
    rw [one_edgs, show ((a : Int) + 1) = ((a + 1 : Nat) : Int) by omega]
    refine (List.Perm.append_left _ (lists_edgs l m (a + 1))).trans ?_
    rw [← List.map_append]
    apply List.Perm.map
    have h := List.filter_append_perm (fun e : E => e.1 == a) (within l a (a + (m + 1)))
    have h1 : (within l a (a + (m + 1))).filter (fun e : E => e.1 == a) = l.filter (fun e => e.1 == a) := by
      unfold within
      rw [List.filter_filter]
      apply List.filter_congr
      intro e _
      by_cases hc : e.1 = a
      · simp [hc]
      · simp [hc]
    have h2 : (within l a (a + (m + 1))).filter (fun e : E => !(e.1 == a)) = within l (a + 1) (a + 1 + m) := by
      unfold within
      rw [List.filter_filter]
      apply List.filter_congr
      intro e _
      rw [Bool.eq_iff_iff]
      simp only [Bool.and_eq_true, Bool.not_eq_true', beq_eq_false_iff_ne, decide_eq_true_eq]
      omega
    rw [h1, h2] at h
    exact h
theorem within_all (l : List E) (n : Nat) (h : ∀ e ∈ l, e.1 < n) : within l 0 n = l := by
  unfold within
  rw [List.filter_eq_self]
  intro e he
  simp [h e he]
theorem within_split (l : List E) (a b c : Nat) (h1 : a ≤ b) (h2 : b ≤ c) : (within l a b ++ within l b c).Perm (within l a c) := by
  have h := List.filter_append_perm (fun e : E => decide (e.1 < b)) (within l a c)
  have e1 : (within l a c).filter (fun e : E => decide (e.1 < b)) = within l a b := by
    unfold within
    rw [List.filter_filter]
    apply List.filter_congr
    intro e _
    rw [Bool.eq_iff_iff]
    simp only [Bool.and_eq_true, decide_eq_true_eq]
    omega
  have e2 : (within l a c).filter (fun e : E => !decide (e.1 < b)) = within l b c := by
    unfold within
    rw [List.filter_filter]
    apply List.filter_congr
    intro e _
    rw [Bool.eq_iff_iff]
    simp only [Bool.and_eq_true, decide_eq_true_eq, Bool.not_eq_true', decide_eq_false_iff_not]
    omega
  rw [e1, e2] at h
  exact h
theorem cut_mono {n s k : Nat} : cut n s k ≤ cut n s (k + 1) := Nat.div_le_div_right (Nat.mul_le_mul_right _ (by omega))
/-- the k-th shard's lists; what it says, edge by edge -/
def shardL (l : List E) (n s k : Nat) : List (List Int) := lists l (cut n s k) (cut n s (k + 1) - cut n s k)
def shardT (l : List E) (n s k : Nat) : List T := edgs (cut n s k : Int) (shardL l n s k)
theorem shardT_perm (l : List E) (n s k : Nat) : (shardT l n s k).Perm ((within l (cut n s k) (cut n s (k + 1))).map (trip l)) := by
  have := lists_edgs l (cut n s (k + 1) - cut n s k) (cut n s k)
  rwa [Nat.add_sub_cancel' cut_mono] at this
theorem shardsT_perm (l : List E) (n s : Nat) : ∀ k, ((List.range k).flatMap (shardT l n s)).Perm ((within l 0 (cut n s k)).map (trip l))
  | 0 => by
    have : within l 0 (cut n s 0) = [] := by
      unfold within
      rw [cut_zero, List.filter_eq_nil_iff]
      intro e _
      simp
    rw [this]
    exact List.Perm.nil
  | k + 1 => by
    rw [List.range_succ, List.flatMap_append]
    refine (List.Perm.append (shardsT_perm l n s k) (by simpa using shardT_perm l n s k)).trans ?_
    rw [← List.map_append]
    exact (within_split l 0 _ _ (Nat.zero_le _) cut_mono).map _
/-- all shards say just the edges -/
theorem allT_perm (l : List E) (n s : Nat) (h0 : 0 < s) (h : ∀ e ∈ l, e.1 < n) : ((List.range s).flatMap (shardT l n s)).Perm (flat l) := by
  have := shardsT_perm l n s s
  rwa [cut_full h0, within_all l n h] at this
theorem orderT_perm (l : List E) (n s : Nat) (h0 : 0 < s) (h : ∀ e ∈ l, e.1 < n) (o : List Nat) (ho : o.Perm (List.range s)) : (o.flatMap (shardT l n s)).Perm (flat l) :=
  (List.Perm.flatMap_right _ ho).trans (allT_perm l n s h0 h)
/-- the shards fit -/
theorem lists_ok (l : List E) (n a m : Nat) (h : ∀ e ∈ l, e.2 < n) : okLs n (lists l a m) = true := by
  unfold okLs lists
  rw [List.all_eq_true]
  intro L hL
  obtain ⟨k, _, rfl⟩ := List.mem_map.1 hL
  rw [List.all_eq_true]
  intro v hv
  obtain ⟨u, hu, rfl⟩ := List.mem_map.1 hv
  have := h _ ((outs_mem l _ u).1 hu)
  simp only [okV, decide_eq_true_eq] at this ⊢
  omega
theorem shard_fits (l : List E) (n s k : Nat) (h0 : 0 < s) (hk : k < s) (h : ∀ e ∈ l, e.2 < n) : fitsB (cut n s k : Int) (cut n s (k + 1) : Int) n (shardL l n s k) = true := by
  have h1 := cut_le (n := n) h0 (show k + 1 ≤ s by omega)
  have h2 : cut n s k ≤ cut n s (k + 1) := cut_mono
  unfold fitsB shardL
  rw [lists_ok l n _ _ h, lists_len]
  simp only [Bool.and_true, decide_eq_true_eq]
  omega
/-- a fold over what is there in either list, in any order, as often as one likes -/
theorem foldl_absorb {σ α : Type} (f : σ → α → σ) (hc : ∀ s x y, f (f s x) y = f (f s y) x) (hi : ∀ s x, f (f s x) x = f s x) (x : α) : ∀ (l : List α) (s : σ), x ∈ l → l.foldl f (f s x) = l.foldl f s
  | y :: l, s, h => by
    rw [List.foldl_cons, List.foldl_cons]
    rcases List.mem_cons.1 h with rfl | h
    · rw [hi]
    · rw [hc]
      exact foldl_absorb f hc hi x l (f s y) h
theorem foldl_more {σ α : Type} (f : σ → α → σ) (hc : ∀ s x y, f (f s x) y = f (f s y) x) (hi : ∀ s x, f (f s x) x = f s x) (m : List α) : ∀ (l : List α) (s : σ), (∀ x ∈ l, x ∈ m) → m.foldl f (l.foldl f s) = m.foldl f s
  | [], s, _ => rfl
  | x :: l, s, h => by
    rw [List.foldl_cons, foldl_more f hc hi m l (f s x) (fun y hy => h y (List.mem_cons_of_mem _ hy))]
    exact foldl_absorb f hc hi x m s (h x (by simp))
theorem foldl_same {σ α : Type} (f : σ → α → σ) (hc : ∀ s x y, f (f s x) y = f (f s y) x) (hi : ∀ s x, f (f s x) x = f s x) (l m : List α) (s : σ) (h : ∀ x, x ∈ l ↔ x ∈ m) : l.foldl f s = m.foldl f s := by
  have h1 := foldl_more f hc hi m l s (fun x hx => (h x).1 hx)
  have h2 := foldl_more f hc hi l m s (fun x hx => (h x).2 hx)
  have h3 : (l ++ m).foldl f s = (m ++ l).foldl f s := List.Perm.foldl_eq' List.perm_append_comm (fun x _ y _ z => hc z x y) s
  rw [List.foldl_append, List.foldl_append, h1, h2] at h3
  exact h3.symm
theorem foldl_flatMap {σ α β : Type} (f : σ → β → σ) (g : α → List β) : ∀ (l : List α) (s : σ), (l.flatMap g).foldl f s = l.foldl (fun s a => (g a).foldl f s) s
  | [], s => rfl
  | a :: l, s => by rw [List.flatMap_cons, List.foldl_append, List.foldl_cons, foldl_flatMap f g l]
end Go.Proofs.Ytjdbjahgimlhbaa.Gr
