/- Parts of the proof of KernelsTruth: no conditions of their own. -/
import Derived.Test.YtjdbjahgimlhbaaGreatKernelsTruthPk2
import Derived.Test.YtjdbjahgimlhbaaGreatKernelsTruthPk5
import Derived.Test.YtjdbjahgimlhbaaGreatKernelsTruthPk0
import Derived.Deep.RegionLaw
import Derived.Deep.RegionLawGrows
import Derived.Deep.RegionHeld3
import Derived.OwnWalk
section
set_option linter.unusedVariables false
namespace Go.Proofs.YtjdbjahgimlhbaaGreat.Gr
open Go.RowKit

/-- an edge as the rows' fold takes it: from, to, how many begin where it begins -/
abbrev T := Int × Int × Nat
def deg (l : List E) (u : Nat) : Nat := (outs l u).length
def trip (l : List E) (e : E) : T := ((e.1 : Int), (e.2 : Int), deg l e.1)
def flat (l : List E) : List T := l.map (trip l)
/-- the lists of the vertices from a on, so many -/
def lists (l : List E) (a m : Nat) : List (List Int) := (List.range m).map fun k => (outs l (a + k)).map (fun v : Nat => (v : Int))
theorem lists_len (l : List E) (a m : Nat) : (lists l a m).length = m := by simp [lists]
theorem lists_succ (l : List E) (a m : Nat) : lists l a (m + 1) = (outs l a).map (fun v : Nat => (v : Int)) :: lists l (a + 1) m := by
  unfold lists
  rw [List.range_succ_eq_map, List.map_cons, List.map_map]
  congr 1
  apply List.map_congr_left
  intro k _
  simp only [Function.comp]
  rw [show a + k.succ = a + 1 + k by omega]
/-- the edges of a part -/
def within (l : List E) (a b : Nat) : List E := l.filter fun e => decide (a ≤ e.1) && decide (e.1 < b)
theorem one_edgs (l : List E) (u : Nat) : ((outs l u).map (fun v : Nat => (v : Int))).map (fun v => ((u : Int), v, ((outs l u).map (fun v : Nat => (v : Int))).length)) = (l.filter fun e => e.1 == u).map (trip l) := by
  rw [List.length_map]
  unfold outs
  rw [List.map_map, List.map_map]
  apply List.map_congr_left
  intro e he
  have hu : e.1 = u := by simpa using (List.mem_filter.1 he).2
  simp only [Function.comp, trip, deg, outs, hu]
theorem lists_edgs (l : List E) : ∀ (m a : Nat), (edgs (a : Int) (lists l a m)).Perm ((within l a (a + m)).map (trip l))
  | 0, a => by
    have : within l a (a + 0) = [] := by
      unfold within
      rw [List.filter_eq_nil_iff]
      intro e _
      simp only [Bool.and_eq_true, decide_eq_true_eq]
      omega
    rw [this]
    exact List.Perm.nil
  | m + 1, a => by
    rw [lists_succ]
    show (((outs l a).map (fun v : Nat => (v : Int))).map (fun v => ((a : Int), v, ((outs l a).map (fun v : Nat => (v : Int))).length)) ++ edgs ((a : Int) + 1) (lists l (a + 1) m)).Perm _
    rw [one_edgs, show ((a : Int) + 1) = ((a + 1 : Nat) : Int) by omega]
    refine (List.Perm.append_left _ (lists_edgs l m (a + 1))).trans ?_
    rw [← List.map_append]
    apply List.Perm.map
    have h := List.filter_append_perm (fun e : E => e.1 == a) (within l a (a + (m + 1)))
    have h1 : (within l a (a + (m + 1))).filter (fun e : E => e.1 == a) = l.filter (fun e => e.1 == a) := by
      unfold within
      rw [List.filter_filter]
      apply List.filter_congr
      intro e _
      by_cases hc : e.1 = a
      · simp [hc]
      · simp [hc]
    have h2 : (within l a (a + (m + 1))).filter (fun e : E => !(e.1 == a)) = within l (a + 1) (a + 1 + m) := by
      unfold within
      rw [List.filter_filter]
      apply List.filter_congr
      intro e _
      rw [Bool.eq_iff_iff]
      simp only [Bool.and_eq_true, Bool.not_eq_true', beq_eq_false_iff_ne, decide_eq_true_eq]
      omega
    rw [h1, h2] at h
    exact h
theorem within_all (l : List E) (n : Nat) (h : ∀ e ∈ l, e.1 < n) : within l 0 n = l := by
  unfold within
  rw [List.filter_eq_self]
  intro e he
  simp [h e he]
theorem within_split (l : List E) (a b c : Nat) (h1 : a ≤ b) (h2 : b ≤ c) : (within l a b ++ within l b c).Perm (within l a c) := by
  have h := List.filter_append_perm (fun e : E => decide (e.1 < b)) (within l a c)
  have e1 : (within l a c).filter (fun e : E => decide (e.1 < b)) = within l a b := by
    unfold within
    rw [List.filter_filter]
    apply List.filter_congr
    intro e _
    rw [Bool.eq_iff_iff]
    simp only [Bool.and_eq_true, decide_eq_true_eq]
    omega
  have e2 : (within l a c).filter (fun e : E => !decide (e.1 < b)) = within l b c := by
    unfold within
    rw [List.filter_filter]
    apply List.filter_congr
    intro e _
    rw [Bool.eq_iff_iff]
    simp only [Bool.and_eq_true, decide_eq_true_eq, Bool.not_eq_true', decide_eq_false_iff_not]
    omega
  rw [e1, e2] at h
  exact h
theorem cut_mono {n s k : Nat} : cut n s k ≤ cut n s (k + 1) := Nat.div_le_div_right (Nat.mul_le_mul_right _ (by omega))
/-- the k-th shard's lists; what it says, edge by edge -/
def shardL (l : List E) (n s k : Nat) : List (List Int) := lists l (cut n s k) (cut n s (k + 1) - cut n s k)
def shardT (l : List E) (n s k : Nat) : List T := edgs (cut n s k : Int) (shardL l n s k)
theorem shardT_perm (l : List E) (n s k : Nat) : (shardT l n s k).Perm ((within l (cut n s k) (cut n s (k + 1))).map (trip l)) := by
  have := lists_edgs l (cut n s (k + 1) - cut n s k) (cut n s k)
  rwa [Nat.add_sub_cancel' cut_mono] at this
theorem shardsT_perm (l : List E) (n s : Nat) : ∀ k, ((List.range k).flatMap (shardT l n s)).Perm ((within l 0 (cut n s k)).map (trip l))
  | 0 => by
    have : within l 0 (cut n s 0) = [] := by
      unfold within
      rw [cut_zero, List.filter_eq_nil_iff]
      intro e _
      simp
    rw [this]
    exact List.Perm.nil
  | k + 1 => by
    rw [List.range_succ, List.flatMap_append]
    refine (List.Perm.append (shardsT_perm l n s k) (by simpa using shardT_perm l n s k)).trans ?_
    rw [← List.map_append]
    exact (within_split l 0 _ _ (Nat.zero_le _) cut_mono).map _
/-- all shards say just the edges -/
theorem allT_perm (l : List E) (n s : Nat) (h0 : 0 < s) (h : ∀ e ∈ l, e.1 < n) : ((List.range s).flatMap (shardT l n s)).Perm (flat l) := by
  have := shardsT_perm l n s s
  rwa [cut_full h0, within_all l n h] at this
theorem orderT_perm (l : List E) (n s : Nat) (h0 : 0 < s) (h : ∀ e ∈ l, e.1 < n) (o : List Nat) (ho : o.Perm (List.range s)) : (o.flatMap (shardT l n s)).Perm (flat l) :=
  (List.Perm.flatMap_right _ ho).trans (allT_perm l n s h0 h)
/-- the shards fit -/
theorem lists_ok (l : List E) (n a m : Nat) (h : ∀ e ∈ l, e.2 < n) : okLs n (lists l a m) = true := by
  unfold okLs lists
  rw [List.all_eq_true]
  intro L hL
  obtain ⟨k, _, rfl⟩ := List.mem_map.1 hL
  rw [List.all_eq_true]
  intro v hv
  obtain ⟨u, hu, rfl⟩ := List.mem_map.1 hv
  have := h _ ((outs_mem l _ u).1 hu)
  simp only [okV, decide_eq_true_eq] at this ⊢
  omega
theorem shard_fits (l : List E) (n s k : Nat) (h0 : 0 < s) (hk : k < s) (h : ∀ e ∈ l, e.2 < n) : fitsB (cut n s k : Int) (cut n s (k + 1) : Int) n (shardL l n s k) = true := by
  have h1 := cut_le (n := n) h0 (show k + 1 ≤ s by omega)
  have h2 : cut n s k ≤ cut n s (k + 1) := cut_mono
  unfold fitsB shardL
  rw [lists_ok l n _ _ h, lists_len]
  simp only [Bool.and_true, decide_eq_true_eq]
  omega
/-- a fold over what is there in either list, in any order, as often as one likes -/
theorem foldl_absorb {σ α : Type} (f : σ → α → σ) (hc : ∀ s x y, f (f s x) y = f (f s y) x) (hi : ∀ s x, f (f s x) x = f s x) (x : α) : ∀ (l : List α) (s : σ), x ∈ l → l.foldl f (f s x) = l.foldl f s
  | y :: l, s, h => by
    rw [List.foldl_cons, List.foldl_cons]
    rcases List.mem_cons.1 h with rfl | h
    · rw [hi]
    · rw [hc]
      exact foldl_absorb f hc hi x l (f s y) h
theorem foldl_more {σ α : Type} (f : σ → α → σ) (hc : ∀ s x y, f (f s x) y = f (f s y) x) (hi : ∀ s x, f (f s x) x = f s x) (m : List α) : ∀ (l : List α) (s : σ), (∀ x ∈ l, x ∈ m) → m.foldl f (l.foldl f s) = m.foldl f s
  | [], s, _ => rfl
  | x :: l, s, h => by
    rw [List.foldl_cons, foldl_more f hc hi m l (f s x) (fun y hy => h y (List.mem_cons_of_mem _ hy))]
    exact foldl_absorb f hc hi x m s (h x (by simp))
theorem foldl_same {σ α : Type} (f : σ → α → σ) (hc : ∀ s x y, f (f s x) y = f (f s y) x) (hi : ∀ s x, f (f s x) x = f s x) (l m : List α) (s : σ) (h : ∀ x, x ∈ l ↔ x ∈ m) : l.foldl f s = m.foldl f s := by
  have h1 := foldl_more f hc hi m l s (fun x hx => (h x).1 hx)
  have h2 := foldl_more f hc hi l m s (fun x hx => (h x).2 hx)
  have h3 : (l ++ m).foldl f s = (m ++ l).foldl f s := List.Perm.foldl_eq' List.perm_append_comm (fun x _ y _ z => hc z x y) s
  rw [List.foldl_append, List.foldl_append, h1, h2] at h3
  exact h3.symm
theorem foldl_flatMap {σ α β : Type} (f : σ → β → σ) (g : α → List β) : ∀ (l : List α) (s : σ), (l.flatMap g).foldl f s = l.foldl (fun s a => (g a).foldl f s) s
  | [], s => rfl
  | a :: l, s => by rw [List.flatMap_cons, List.foldl_append, List.foldl_cons, foldl_flatMap f g l]
end Go.Proofs.YtjdbjahgimlhbaaGreat.Gr
end
section
set_option linter.unusedVariables false
set_option maxRecDepth 100000
namespace Go.Proofs.YtjdbjahgimlhbaaGreat
open Go.RowKit

/-- block g begins with the numbers xs; behind them spare room -/
def RowAt (w : World) (g : Nat) (xs : List Nat) : Prop := (∃ sp : List Value, Blk w g 57 (xs.map u64v ++ sp).toArray) ∧ ∀ x ∈ xs, x < 18446744073709551616
section
variable {w w' : World} {g : Nat} {xs : List Nat} {S : Nat → Prop}
theorem RowAt.fr (h : RowAt w g xs) (hf : Fr S w w') (hg : ¬ S g) : RowAt w' g xs := by
  obtain ⟨⟨sp, h1⟩, h2⟩ := h
  exact ⟨⟨sp, h1.fr hf hg⟩, h2⟩
theorem RowAt.lt (h : RowAt w g xs) : g < w.heap.size := by
  obtain ⟨⟨sp, h1⟩, h2⟩ := h
  exact h1.lt
theorem RowAt.cell (h : RowAt w g xs) {i : Nat} (hi : i < xs.length) : w.cell? ⟨g, i, none⟩ = some (.int .u64 (xs.getD i 0 : Nat)) := by
  obtain ⟨⟨sp, h1⟩, h2⟩ := h
  rw [h1.cell i]
  simp [hi, u64v, List.getElem?_append_left]
theorem RowAt.frozen (h : RowAt w g xs) (i : Nat) : w.frozen? ⟨g, i, none⟩ = false := by
  obtain ⟨⟨sp, h1⟩, h2⟩ := h
  exact h1.frozen i
theorem RowAt.set_ (h : RowAt w g xs) {i y : Nat} (hi : i < xs.length) (hy : y < 18446744073709551616) : RowAt (w.setCell ⟨g, i, none⟩ (.int .u64 (y : Int))) g (xs.set i y) := by
  obtain ⟨⟨sp, h1⟩, h2⟩ := h
  refine ⟨⟨sp, ?_⟩, ?_⟩
  · have := h1.set_ i (.int .u64 (y : Int))
    simpa [List.map_set, u64v, List.set_append_left, hi] using this
  · intro x hx
    rcases List.mem_or_eq_of_mem_set hx with h' | h'
    · exact h2 x h'
    · omega
theorem RowAt.far (h : RowAt w g xs) {p : Addr} (hp : g ≠ p.block) (u : Value) : RowAt (w.setCell p u) g xs := by
  obtain ⟨⟨sp, h1⟩, h2⟩ := h
  exact ⟨⟨sp, h1.far hp u⟩, h2⟩
theorem RowAt.alloc (h : RowAt w g xs) (o : Obj) : RowAt (w.alloc o) g xs := by
  obtain ⟨⟨sp, h1⟩, h2⟩ := h
  exact ⟨⟨sp, h1.alloc o⟩, h2⟩
theorem RowAt.reads (h : RowAt w g xs) : Reads w w.heap.size 1 (some ⟨g, 0, none⟩) xs.length (xs.map u64v) := by
  obtain ⟨⟨sp, h1⟩, h2⟩ := h
  refine ⟨by simp, fun _ => ⟨g, 0, rfl, h1.lt, fun j u hu => ?_⟩⟩
  have hj : j < (xs.map u64v).length := (List.getElem?_eq_some_iff.1 hu).1
  rw [Nat.zero_add, h1.cell j, ← hu, List.getElem?_toArray, List.getElem?_append_left hj]
end
theorem RowAt.of_own {w : World} {base n : Nat} {v : Value} {xs : List Nat} (h : w.ownsRow base 57 1 v n (xs.map u64v)) (h0 : 1 ≤ n) (hx : ∀ x ∈ xs, x < 18446744073709551616) :
    ∃ g c, v = .slice (some ⟨g, 0, none⟩) n c ∧ base ≤ g ∧ RowAt w g xs := by
  rcases h.2 with ⟨_, h1⟩ | ⟨g, cap, cur, rfl, hb, hg, _, _, hs, ht⟩
  · omega
  · refine ⟨g, cap, rfl, hb, ⟨cur.toList.drop n, ?_⟩, hx⟩
    rw [← ht, Nat.mul_one, List.take_append_drop]
    exact hg

theorem step_copy {ops : Array Oper} {o : Oper} {a : Act} {w : World} {K : Act → World → Prop} {Q : Exit → Act → World → Prop} {E : Prop}
    (hg : o.guard = none) (s x : Operand) (hop : o.op = Op.call { callee := Callee.builtin Builtin.append, args := #[s, x], argTypes := #[47, 47] })
    (h : Addr) (hs : a.eval s = .slice (some h) 0 0) (b q n c B : Nat) (xs : List Nat) (hx : a.eval x = .slice (some ⟨b, q, none⟩) n c) (hr : Reads w B 1 (some ⟨b, q, none⟩) n (xs.map u64v)) (h1 : 1 ≤ n) (hn : n ≤ 256) (hx64 : ∀ x ∈ xs, x < 18446744073709551616)
    (hK : ∀ g cap w', RowAt w' g xs → Fr (fun _ => False) w w' → w.heap.size ≤ g → K (a.put o.dst (.slice (some ⟨g, 0, none⟩) n cap)) w') :
    if Region.wanted o (yielded ops a.tmps) = true then Oper.wp Tryz.prog o a w K Q else E := by
  obtain ⟨i0, hi, hz0, hz1, hz2⟩ := info_parts u64_info
  obtain ⟨b', o', hA, _, hc⟩ := hr.2 h1
  injection hA with hA
  injection hA with e1 e2
  subst e1
  subst e2
  refine step_append_grows hg s x 47 hop 57 i0 (.int .u64 0) 1 8 Tryz.underlying47 hi hz0 hz1 hz2 rfl (by decide) (some h) 0 0 [] hs (by simp) rfl (by simp) ⟨b, q, none⟩ n c (xs.map u64v) hx (by have := hr.1; simpa using this)
    (fun j u hu => by rw [Addr.add_lit]; exact hc j u hu) (by simp [u64v, Value.oneCell']) (by omega) (by simp [maxLen]; omega) (by omega) fun v' w' ho hgr => ?_
  rw [Nat.zero_add] at ho
  rw [List.nil_append] at ho
  obtain ⟨g, cap, rfl, hge, hrow⟩ := RowAt.of_own ho h1 hx64
  exact hK g cap w' hrow ((Fr.of_grown hgr).mono (by simp)) hge

theorem held_step {W0 w1 w2 : World} {p q : Addr} {u v : Value} {r : Nat} {t : TypeId} (h : w1.cell? p = some u ∧ w1.cell? q = some v ∧ Fr (fun k => k = r) W0 w1 ∧ ∃ x y, Blk w1 r t #[x, y]) (hf : Fr (fun _ => False) w1 w2) :
    w2.cell? p = some u ∧ w2.cell? q = some v ∧ Fr (fun k => k = r) W0 w2 ∧ ∃ x y, Blk w2 r t #[x, y] := by
  obtain ⟨h1, h2, h3, x, y, h4⟩ := h
  exact ⟨hf.cell h1 id, hf.cell h2 id, h3.then_ hf, x, y, h4.fr hf id⟩
theorem held_store {W0 w1 : World} {p q : Addr} {u v u' v' : Value} {r : Nat} {t : TypeId} (hp : p.block ≠ r) (hq : q.block ≠ r) (h : w1.cell? p = some u ∧ w1.cell? q = some v ∧ Fr (fun k => k = r) W0 w1 ∧ ∃ x y, Blk w1 r t #[x, y]) :
    ((w1.setCell ⟨r, 0, none⟩ u').setCell ⟨r, 1, none⟩ v').cell? p = some u ∧ ((w1.setCell ⟨r, 0, none⟩ u').setCell ⟨r, 1, none⟩ v').cell? q = some v ∧ Fr (fun k => k = r) W0 ((w1.setCell ⟨r, 0, none⟩ u').setCell ⟨r, 1, none⟩ v') ∧ ∃ x y, Blk ((w1.setCell ⟨r, 0, none⟩ u').setCell ⟨r, 1, none⟩ v') r t #[x, y] := by
  obtain ⟨h1, h2, h3, x, y, h4⟩ := h
  have hf : Fr (fun k => k = r) w1 ((w1.setCell ⟨r, 0, none⟩ u').setCell ⟨r, 1, none⟩ v') := ((Fr.refl (fun k => k = r) _).setCell (p := ⟨r, 0, none⟩) (.inl rfl) _).setCell (p := ⟨r, 1, none⟩) (.inl rfl) _
  exact ⟨hf.cell h1 hp, hf.cell h2 hq, h3.trans hf (fun k h => .inl h), u', v', (h4.set_ 0 u').set_ 1 v'⟩
theorem held_alloc (w : World) (o : Obj) : Fr (fun _ => False) w.drew (w.alloc o).drew := ⟨rfl, rfl, rfl, by simp, fun k hk _ => Below.heap_alloc w o k hk⟩
theorem held_alloc' (w : World) (o : Obj) : Fr (fun _ => False) w (w.alloc o) := (Fr.refl _ _).alloc _
theorem held_drew (w : World) : Fr (fun _ => False) w w.drew := (Fr.refl _ _).drew
theorem held_fr {W0 w' : World} {a b c : Prop} {S : Nat → Prop} (h : a ∧ b ∧ Fr S W0 w' ∧ c) : Fr S W0 w' := h.2.2.1
theorem held_blk {w' : World} {a b c : Prop} {r : Nat} {t : TypeId} (h : a ∧ b ∧ c ∧ ∃ x y, Blk w' r t #[x, y]) : ∃ x y, Blk w' r t #[x, y] := h.2.2.2

end Go.Proofs.YtjdbjahgimlhbaaGreat
end
section
set_option linter.unusedVariables false
set_option maxRecDepth 100000
namespace Go.Proofs.YtjdbjahgimlhbaaGreat
open Go.RowKit

theorem beqT {a b : Int} (h : a = b) : (a == b) = true := by simp [h]
theorem beqF {a b : Int} (h : a ≠ b) : (a == b) = false := by simpa using h
theorem bneT {a b : Int} (h : a ≠ b) : (a != b) = true := by simpa using h
theorem bneF {a b : Int} (h : a = b) : (a != b) = false := by simp [h]
theorem wrap_succ {n : Nat} (h : n ≤ 9223372036854775807) : IntKind.u64.wrap ((n : Int) + 1) = ((n + 1 : Nat) : Int) := by simp [IntKind.wrap, IntKind.bits, IntKind.signed]; omega
theorem wrap_same {n : Int} (h0 : 0 ≤ n) (h : n ≤ 9223372036854775807) : IntKind.u64.wrap n = n := by simp [IntKind.wrap, IntKind.bits, IntKind.signed]; omega

theorem set_same (xs : List Nat) (i : Nat) : xs.set i (xs.getD i 0) = xs := by
  apply List.ext_getElem
  · simp
  · intro j h1 h2
    rw [List.getElem_set]
    split
    · rename_i h
      subst h
      simp [List.getD, h2]
    · rfl

theorem less_any {p g : Nat} {xs : List Nat} {w : World} (h : PlainAt w p g xs) (i x : Nat) (hi : i < xs.length) (hx : x < 18446744073709551616) :
    Calls Tryz.prog 92 #[vecv p, .int .i64 i, .int .u64 x] w fun e w' => e = .returned (.tuple #[.bool (decide (x < xs.getD i 0)), .int .i64 0]) ∧ PlainAt w' p g (xs.set i (min (xs.getD i 0) x)) ∧ Fr (fun k => k = g) w w' := by
  have hms := fun p => meth_set p
  have hmg := fun p => meth_get p
  have H := hide h
  have G := hide (get_in h i hi)
  unfold vecv
  by_cases hlt : x < xs.getD i 0
  · have hz : min (xs.getD i 0) x = x := by omega
    rw [hz, decide_eq_true hlt]
    generalize xs.getD i 0 = y at *
    clear h hz
    go_enter Tryz.func92, Tryz.ntmps92
    go_wp2_with fail
    go_at_call 153
    refine G.out.mono ?_
    rintro e w1 ⟨rfl, rfl⟩
    go_wp2_with fail
    go_at_call 155
    refine (set_in H.out i x hi hx).mono ?_
    rintro e w1 ⟨rfl, hP, hf⟩
    have H2 := hide hP
    have HF := hide hf
    clear hP hf
    go_wp2
    go_ret2
    exact ⟨rfl, H2.out, HF.out⟩
  · have hz : xs.set i (min (xs.getD i 0) x) = xs := by rw [show min (xs.getD i 0) x = xs.getD i 0 by omega]; exact set_same xs i
    rw [hz, decide_eq_false hlt]
    generalize xs.getD i 0 = y at *
    clear h hz
    go_enter Tryz.func92, Tryz.ntmps92
    go_wp2_with fail
    go_at_call 153
    refine G.out.mono ?_
    rintro e w1 ⟨rfl, rfl⟩
    go_wp2
    go_ret2
    exact ⟨rfl, H.out, Fr.refl _ _⟩

theorem two_any {pa ga pb gb : Nat} {xs ys : List Nat} {w : World} (h : TwoAt w pa ga pb gb xs ys) (i : Nat) (hi : i < xs.length) (hj : i < ys.length) :
    Calls Tryz.prog 104 #[vecv pa, vecv pb, .int .i64 i] w fun e w' => e = .returned (.tuple #[.int .u64 (xs.getD i 0 : Nat), .int .u64 (ys.getD i 0 : Nat), .int .i64 0]) ∧ w = w' := by
  have hmg := fun p => meth_get p
  have G := hide (get_in h.a i hi)
  have G2 := hide (get_in h.b i hj)
  unfold vecv
  clear h
  generalize xs.getD i 0 = x at *
  generalize ys.getD i 0 = y at *
  go_enter Tryz.func104, Tryz.ntmps104
  go_wp2_with fail
  go_at_call 153
  refine G.out.mono ?_
  rintro e w1 ⟨rfl, rfl⟩
  go_wp2_with fail
  go_at_call 153
  refine G2.out.mono ?_
  rintro e w1 ⟨rfl, rfl⟩
  go_wp2
  go_ret3
  exact ⟨rfl, rfl⟩

theorem ls_any {w : World} {B : Nat} {vs : List Value} {L : List (List Int)} {n : Nat} (hB : Blk w B 37 vs.toArray) (hn : n = L.length)
    (h : ∀ (i : Nat) (l : List Int), L[i]? = some l → ∃ A' c, vs[i]? = some (.slice A' l.length c) ∧ Reads w w.heap.size 1 A' l.length (l.map (Value.int .i64)) ∧ l.length ≤ 9223372036854775807) (hv : vs.length = n := by rfl) : LsAt w vs (some ⟨B, 0, none⟩) n L :=
  ⟨hn, Reads.blk hB hv, h⟩
end Go.Proofs.YtjdbjahgimlhbaaGreat
end
