/- Parts of the proof of several laws: no conditions of their own. -/
import Derived.Test.YtjdbjahgimlhbaaWhPk1
import Derived.RowKit
import Derived.Test.YtjdbjahgimlhbaaWhPk0
import Derived.Deep.MidRow
import Derived.Deep.RegionHeld3
section
set_option linter.unusedVariables false
set_option maxRecDepth 100000
namespace Go.Proofs.Ytjdbjahgimlhbaa
open Go.RowKit

/-- rows of the call's own, no two in one block -/
def Fam (w : World) (H : Nat) (vs : List Value) (L : List (List Nat)) : Prop :=
  vs.length = L.length ∧ (∀ (i : Nat) (v : Value) (l : List Nat), vs[i]? = some v → L[i]? = some l → w.ownsRow H 3 1 v l.length (ivals l)) ∧
    (∀ (i j : Nat) (u v : Value), i ≠ j → vs[i]? = some u → vs[j]? = some v → u.ownBlock = none ∨ u.ownBlock ≠ v.ownBlock)
section
variable {w w' : World} {H : Nat} {vs : List Value} {L : List (List Nat)}
theorem Fam.fr {S : Nat → Prop} (h : Fam w H vs L) (hf : Fr S w w') (hs : ∀ k, H ≤ k → k < w.heap.size → ¬ S k) : Fam w' H vs L :=
  ⟨h.1, fun i v l hv hl => own_frS (h.2.1 i v l hv hl) hf (fun k hk => by have := (h.2.1 i v l hv hl).lt k hk; exact hs k this.1 this.2), h.2.2⟩
theorem Fam.turn (h : Fam w H vs L) {i : Nat} {l l' : List Nat} {v v' : Value} (hi : vs[i]? = some v) (hl : L[i]? = some l) (hg : w.grownBy w' v.ownBlock) (ho : w'.ownsRow H 3 1 v' l'.length (ivals l'))
    (hn : v'.ownBlock = v.ownBlock ∨ ∃ g, v'.ownBlock = some g ∧ w.heap.size ≤ g) : Fam w' H (vs.set i v') (L.set i l') := by
  obtain ⟨h1, h2, h3⟩ := h
  have hiv : i < vs.length := (List.getElem?_eq_some_iff.1 hi).1
  have hiL : i < L.length := (List.getElem?_eq_some_iff.1 hl).1
  refine ⟨by simp [h1], fun j u m hu hm => ?_, fun j k u x hjk hu hx => ?_⟩
  · by_cases hji : i = j
    · subst hji
      rw [List.getElem?_set_self hiv] at hu
      rw [List.getElem?_set_self hiL] at hm
      obtain rfl := Option.some.inj hu
      obtain rfl := Option.some.inj hm
      exact ho
    · rw [List.getElem?_set_ne hji] at hu hm
      exact (h2 j u m hu hm).kept hg (h3 j i u v (Ne.symm hji) hu hi)
  · have old : ∀ (k : Nat) (u : Value), k ≠ i → vs[k]? = some u → u.ownBlock = none ∨ u.ownBlock ≠ v'.ownBlock := fun k u hki hu => by
      rcases h3 k i u v hki hu hi with h | h
      · exact .inl h
      · rcases hn with hn | ⟨g, hn, hge⟩
        · exact .inr (by rw [hn]; exact h)
        · have hk : k < L.length := by rw [← h1]; exact (List.getElem?_eq_some_iff.1 hu).1
          have f2 := h2 k u L[k] hu (List.getElem?_eq_getElem hk)
          cases hub : u.ownBlock with
          | none => exact .inl rfl
          | some b => have := (f2.lt b hub).2; exact .inr (by rw [hn]; simp; omega)
    by_cases hj : i = j
    · subst hj
      rw [List.getElem?_set_self hiv] at hu
      obtain rfl := Option.some.inj hu
      rw [List.getElem?_set_ne hjk] at hx
      rcases old k x (Ne.symm hjk) hx with h | h
      · cases hv' : v'.ownBlock with
        | none => exact .inl rfl
        | some b => exact .inr (by rw [h]; simp)
      · exact .inr (Ne.symm h)
    · rw [List.getElem?_set_ne hj] at hu
      by_cases hk : i = k
      · subst hk
        rw [List.getElem?_set_self hiv] at hx
        obtain rfl := Option.some.inj hx
        exact old j u hjk hu
      · rw [List.getElem?_set_ne hk] at hx
        exact h3 j k u x hjk hu hx
end
/-- a graph: how many vertices; where each leads, in B's second cell's table; its neighbours, in the third's -/
structure GAt (w : World) (H B o a n : Nat) (L L' : List (List Nat)) : Prop where
  lB : B < H
  lo : o < H
  la : a < H
  n1 : B ≠ o
  n2 : B ≠ a
  n3 : o ≠ a
  g : Blk w B 141 #[.int .i64 (n : Int), .slice (some ⟨o, 0, none⟩) n n, .slice (some ⟨a, 0, none⟩) n n]
  ll : L.length = n
  ll' : L'.length = n
  ex : ∃ vs vs' : List Value, vs.length = n ∧ vs'.length = n ∧ Blk w o 64 vs.toArray ∧ Blk w a 64 vs'.toArray ∧ Fam w H (vs ++ vs') (L ++ L')
section
variable {w w' : World} {H B o a n : Nat} {L L' : List (List Nat)}
theorem GAt.fr {S : Nat → Prop} (h : GAt w H B o a n L L') (hf : Fr S w w') (hs : ∀ k, k < w.heap.size → (k = B ∨ k = o ∨ k = a ∨ H ≤ k) → ¬ S k) : GAt w' H B o a n L L' := by
  obtain ⟨vs, vs', e1, e2, b1, b2, hF⟩ := h.ex
  exact ⟨h.lB, h.lo, h.la, h.n1, h.n2, h.n3, h.g.fr hf (hs B h.g.lt (.inl rfl)), h.ll, h.ll', vs, vs', e1, e2, b1.fr hf (hs o b1.lt (.inr (.inl rfl))), b2.fr hf (hs a b2.lt (.inr (.inr (.inl rfl)))), hF.fr hf (fun k hk hk2 => hs k hk2 (.inr (.inr (.inr hk))))⟩
theorem GAt.up (h : GAt w H B o a n L L') (hf : Fr (fun _ => False) w w') : GAt w' H B o a n L L' := h.fr hf (fun _ _ _ h => h)
theorem GAt.outRow (h : GAt w H B o a n L L') {i : Nat} {l : List Nat} (hi : L[i]? = some l) : ∃ A c, w.cell? ⟨o, i, none⟩ = some (.slice A l.length c) ∧ w.ownsRow H 3 1 (.slice A l.length c) l.length (ivals l) := by
  obtain ⟨vs, vs', e1, e2, b1, b2, hF⟩ := h.ex
  have hiL : i < n := by rw [← h.ll]; exact (List.getElem?_eq_some_iff.1 hi).1
  have hv : vs[i]? = some (vs[i]'(by omega)) := List.getElem?_eq_getElem _
  have ho := hF.2.1 i _ l (by rw [List.getElem?_append_left (by omega)]; exact hv) (by rw [List.getElem?_append_left (by rw [h.ll]; exact hiL)]; exact hi)
  obtain ⟨A, c, he⟩ := Reads.own_val ho
  rw [he] at hv ho
  exact ⟨A, c, by rw [b1.cell]; simpa using hv, ho⟩
theorem GAt.allRow (h : GAt w H B o a n L L') {i : Nat} {l : List Nat} (hi : L'[i]? = some l) : ∃ A c, w.cell? ⟨a, i, none⟩ = some (.slice A l.length c) ∧ w.ownsRow H 3 1 (.slice A l.length c) l.length (ivals l) := by
  obtain ⟨vs, vs', e1, e2, b1, b2, hF⟩ := h.ex
  have hiL : i < n := by rw [← h.ll']; exact (List.getElem?_eq_some_iff.1 hi).1
  have hv : vs'[i]? = some (vs'[i]'(by omega)) := List.getElem?_eq_getElem _
  have ho := hF.2.1 (n + i) _ l (by rw [List.getElem?_append_right (by omega), e1, Nat.add_sub_cancel_left]; exact hv) (by rw [List.getElem?_append_right (by rw [h.ll]; omega), h.ll, Nat.add_sub_cancel_left]; exact hi)
  obtain ⟨A, c, he⟩ := Reads.own_val ho
  rw [he] at hv ho
  exact ⟨A, c, by rw [b2.cell]; simpa using hv, ho⟩
theorem ownBlock_ge {W : World} {v : Value} {m : Nat} {ys : List Value} (h : W.ownsRow H 3 1 v m ys) {b : Nat} (hb : b < H) : some b ≠ v.ownBlock := fun e => by have := (h.lt b e.symm).1; omega
theorem GAt.turnO (h : GAt w H B o a n L L') {i : Nat} {l l' : List Nat} {v v' : Value} (hi : L[i]? = some l) (hv : w.cell? ⟨o, i, none⟩ = some v) (hg : w.grownBy w' v.ownBlock) (ho : w'.ownsRow H 3 1 v' l'.length (ivals l'))
    (hn : v'.ownBlock = v.ownBlock ∨ ∃ g, v'.ownBlock = some g ∧ w.heap.size ≤ g) : GAt (w'.setCell ⟨o, i, none⟩ v') H B o a n (L.set i l') L' := by
  have hH := h.lo
  obtain ⟨vs, vs', e1, e2, b1, b2, hF⟩ := h.ex
  have hiL : i < n := by rw [← h.ll]; exact (List.getElem?_eq_some_iff.1 hi).1
  have hvi : (vs ++ vs')[i]? = some v := by rw [List.getElem?_append_left (by omega)]; rw [b1.cell] at hv; simpa using hv
  have hli : (L ++ L')[i]? = some l := by rw [List.getElem?_append_left (by rw [h.ll]; exact hiL)]; exact hi
  have hov := hF.2.1 i v l hvi hli
  have hT := hF.turn hvi hli hg ho hn
  rw [List.set_append_left _ _ (by omega), List.set_append_left _ _ (by rw [h.ll]; exact hiL)] at hT
  have k1 : Blk w' o 64 vs.toArray := (hg.block o b1.lt (ownBlock_ge hov h.lo)).trans b1
  have k2 : Blk w' a 64 vs'.toArray := (hg.block a b2.lt (ownBlock_ge hov h.la)).trans b2
  have k0 : Blk w' B 141 _ := (hg.block B h.g.lt (ownBlock_ge hov h.lB)).trans h.g
  refine ⟨h.lB, h.lo, h.la, h.n1, h.n2, h.n3, k0.far (p := ⟨o, i, none⟩) h.n1 v', by simp [h.ll], h.ll', vs.set i v', vs', by simp [e1], e2, ?_, k2.far (p := ⟨o, i, none⟩) (Ne.symm h.n3) v', hT.fr (Fr.one w' o i v') (fun k hk _ e => by omega)⟩
  have := k1.set_ i v'
  simpa using this
theorem GAt.turnA (h : GAt w H B o a n L L') {i : Nat} {l l' : List Nat} {v v' : Value} (hi : L'[i]? = some l) (hv : w.cell? ⟨a, i, none⟩ = some v) (hg : w.grownBy w' v.ownBlock) (ho : w'.ownsRow H 3 1 v' l'.length (ivals l'))
    (hn : v'.ownBlock = v.ownBlock ∨ ∃ g, v'.ownBlock = some g ∧ w.heap.size ≤ g) : GAt (w'.setCell ⟨a, i, none⟩ v') H B o a n L (L'.set i l') := by
  have hH := h.la
  obtain ⟨vs, vs', e1, e2, b1, b2, hF⟩ := h.ex
  have hiL : i < n := by rw [← h.ll']; exact (List.getElem?_eq_some_iff.1 hi).1
  have hvi : (vs ++ vs')[n + i]? = some v := by rw [List.getElem?_append_right (by omega), e1, Nat.add_sub_cancel_left]; rw [b2.cell] at hv; simpa using hv
  have hli : (L ++ L')[n + i]? = some l := by rw [List.getElem?_append_right (by rw [h.ll]; omega), h.ll, Nat.add_sub_cancel_left]; exact hi
  have hov := hF.2.1 _ v l hvi hli
  have hT := hF.turn hvi hli hg ho hn
  rw [List.set_append_right _ _ (by omega), List.set_append_right _ _ (by rw [h.ll]; omega), e1, h.ll, Nat.add_sub_cancel_left] at hT
  have k1 : Blk w' o 64 vs.toArray := (hg.block o b1.lt (ownBlock_ge hov h.lo)).trans b1
  have k2 : Blk w' a 64 vs'.toArray := (hg.block a b2.lt (ownBlock_ge hov h.la)).trans b2
  have k0 : Blk w' B 141 _ := (hg.block B h.g.lt (ownBlock_ge hov h.lB)).trans h.g
  refine ⟨h.lB, h.lo, h.la, h.n1, h.n2, h.n3, k0.far (p := ⟨a, i, none⟩) h.n2 v', h.ll, by simp [h.ll'], vs, vs'.set i v', e1, by simp [e2], k1.far (p := ⟨a, i, none⟩) h.n3 v', ?_, hT.fr (Fr.one w' a i v') (fun k hk _ e => by omega)⟩
  have := k2.set_ i v'
  simpa using this
theorem GAt.frozenO (h : GAt w H B o a n L L') (i : Nat) : w.frozen? ⟨o, i, none⟩ = false := by
  obtain ⟨vs, vs', e1, e2, b1, b2, hF⟩ := h.ex
  exact b1.frozen i
theorem GAt.frozenA (h : GAt w H B o a n L L') (i : Nat) : w.frozen? ⟨a, i, none⟩ = false := by
  obtain ⟨vs, vs', e1, e2, b1, b2, hF⟩ := h.ex
  exact b2.frozen i
theorem GAt.ltO (h : GAt w H B o a n L L') : o < w.heap.size := by
  obtain ⟨vs, vs', e1, e2, b1, b2, hF⟩ := h.ex
  exact b1.lt
theorem GAt.ltA (h : GAt w H B o a n L L') : a < w.heap.size := by
  obtain ⟨vs, vs', e1, e2, b1, b2, hF⟩ := h.ex
  exact b2.lt
/-- as it is made -/
theorem GAt.new (h1 : B < H) (h2 : o < H) (h3 : a < H) (n1 : B ≠ o) (n2 : B ≠ a) (n3 : o ≠ a) (hg : Blk w B 141 #[.int .i64 (n : Int), .slice (some ⟨o, 0, none⟩) n n, .slice (some ⟨a, 0, none⟩) n n])
    (ho : Blk w o 64 (List.replicate n (.slice none 0 0)).toArray) (ha : Blk w a 64 (List.replicate n (.slice none 0 0)).toArray) : GAt w H B o a n (List.replicate n []) (List.replicate n []) := by
  refine ⟨h1, h2, h3, n1, n2, n3, hg, by simp, by simp, _, _, by simp, by simp, ho, ha, by simp, fun i v l hv hl => ?_, fun i j u v hij hu hv => ?_⟩
  · rw [List.replicate_append_replicate, List.getElem?_replicate] at hv hl
    split at hv
    · next hh =>
      rw [if_pos hh] at hl
      obtain rfl := Option.some.inj hv
      obtain rfl := Option.some.inj hl
      exact World.ownsRow_nil w H 3 1
    · cases hv
  · rw [List.replicate_append_replicate, List.getElem?_replicate] at hu
    split at hu
    · obtain rfl := Option.some.inj hu
      exact .inl rfl
    · cases hu
end
end Go.Proofs.Ytjdbjahgimlhbaa
end
section
set_option linter.unusedVariables false
namespace Go.Proofs.Ytjdbjahgimlhbaa.Gr

/-- an edge: from, to -/
abbrev E := Nat × Nat
def less (a b : E) : Bool := decide (a.1 < b.1) || (decide (a.1 = b.1) && decide (a.2 < b.2))
theorem less_irrefl (a : E) : less a a = false := by simp [less]
theorem less_trans {a b c : E} (h : less a b = true) (k : less b c = true) : less a c = true := by
  simp only [less, Bool.or_eq_true, Bool.and_eq_true, decide_eq_true_eq] at *
  omega
theorem less_not {a b : E} (h : less a b = false) (hne : a ≠ b) : less b a = true := by
  obtain ⟨a1, a2⟩ := a
  obtain ⟨b1, b2⟩ := b
  simp only [less, Bool.or_eq_true, Bool.and_eq_true, decide_eq_true_eq, Bool.or_eq_false_iff, Bool.and_eq_false_iff, decide_eq_false_iff_not, ne_eq, Prod.mk.injEq] at *
  omega
/-- where an edge is to stand, from place k down -/
def place (l : List E) (x : E) : Nat → Nat
  | 0 => 0
  | k + 1 => if less x (l.getD k (0, 0)) then place l x k else k + 1
def put (l : List E) (x : E) : List E :=
  let k := place l x l.length
  if 0 < k ∧ l.getD (k - 1) (0, 0) = x then l else l.take k ++ x :: l.drop k
theorem place_le (l : List E) (x : E) : ∀ k, place l x k ≤ k
  | 0 => Nat.le_refl _
  | k + 1 => by
    unfold place
    split
    · have := place_le l x k; omega
    · exact Nat.le_refl _
theorem place_hi (l : List E) (x : E) : ∀ k, ∀ i, place l x k ≤ i → i < k → less x (l.getD i (0, 0)) = true
  | 0, i, _, h => absurd h (by omega)
  | k + 1, i, h1, h2 => by
    unfold place at h1
    split at h1
    · next hc =>
      by_cases hik : i = k
      · rw [hik]; exact hc
      · exact place_hi l x k i h1 (by omega)
    · omega
theorem place_lo (l : List E) (x : E) : ∀ k, 0 < place l x k → less x (l.getD (place l x k - 1) (0, 0)) = false
  | 0, h => absurd h (by simp [place])
  | k + 1, h => by
    unfold place at h ⊢
    split at h
    · next hc => rw [if_pos hc]; exact place_lo l x k h
    · next hc => rw [if_neg hc]; simpa using hc
def Sorted (l : List E) : Prop := l.Pairwise (fun a b => less a b = true)
theorem put_mem (l : List E) (x e : E) : e ∈ put l x ↔ e = x ∨ e ∈ l := by
  unfold put
  have hle := place_le l x l.length
  generalize place l x l.length = k at *
  simp only
  split
  · next h =>
    constructor
    · exact .inr
    · rintro (rfl | h')
      · rw [← h.2, List.getD_eq_getElem?_getD, List.getElem?_eq_getElem (by omega)]
        exact List.getElem_mem _
      · exact h'
  · rw [List.mem_append, List.mem_cons]
    constructor
    · rintro (h | rfl | h)
      · exact .inr (List.mem_of_mem_take h)
      · exact .inl rfl
      · exact .inr (List.mem_of_mem_drop h)
    · rintro (rfl | h)
      · exact .inr (.inl rfl)
      · rw [← List.take_append_drop k l, List.mem_append] at h
        rcases h with h | h
        · exact .inl h
        · exact .inr (.inr h)
theorem put_len (l : List E) (x : E) : (put l x).length ≤ l.length + 1 := by
  unfold put
  simp only
  split
  · omega
  · simp; omega
theorem put_sorted {l : List E} (h : Sorted l) (x : E) : Sorted (put l x) := by
  unfold put
  have hle := place_le l x l.length
  have hhi := place_hi l x l.length
  have hlo := place_lo l x l.length
  generalize place l x l.length = k at *
  simp only
  split
  · exact h
  · next hn =>
    have h' := h
    unfold Sorted at h h' ⊢
    rw [← List.take_append_drop k l, List.pairwise_append] at h'
    have hx : ∀ e ∈ l.drop k, less x e = true := by
      intro e he
      obtain ⟨i, hi, rfl⟩ := List.getElem_of_mem he
      rw [List.getElem_drop]
      have hi' : k + i < l.length := by simp at hi; omega
      have := hhi (k + i) (by omega) hi'
      rwa [List.getD_eq_getElem?_getD, List.getElem?_eq_getElem hi'] at this
    have hy : ∀ e ∈ l.take k, less e x = true := by
      intro e he
      have hk : 0 < k := by
        rcases Nat.eq_zero_or_pos k with h0 | h0
        · subst h0; simp at he
        · exact h0
      have hl := hlo hk
      have hkl : k - 1 < l.length := by omega
      have hg : l.getD (k - 1) (0, 0) = l[k - 1] := by rw [List.getD_eq_getElem?_getD, List.getElem?_eq_getElem hkl]; rfl
      rw [hg] at hl hn
      have hlast : less l[k - 1] x = true := less_not hl (fun e => hn ⟨hk, e.symm⟩)
      obtain ⟨i, hi, rfl⟩ := List.getElem_of_mem he
      rw [List.getElem_take]
      simp at hi
      by_cases hik : i = k - 1
      · subst hik; exact hlast
      · exact less_trans ((List.pairwise_iff_getElem.1 h) i (k - 1) (by omega) hkl (by omega)) hlast
    rw [List.pairwise_append]
    refine ⟨h'.1, ?_, ?_⟩
    · rw [List.pairwise_cons]
      exact ⟨hx, h'.2.1⟩
    · intro a ha b hb
      rcases List.mem_cons.1 hb with rfl | hb
      · exact hy a ha
      · exact h'.2.2 a ha b hb
/-- the edges, in order, each once -/
def normal (l : List E) : List E := l.foldl put []
theorem normal_gen (l : List E) : ∀ s, Sorted s → Sorted (l.foldl put s) ∧ (∀ e, e ∈ l.foldl put s ↔ e ∈ s ∨ e ∈ l) ∧ (l.foldl put s).length ≤ s.length + l.length := by
  induction l with
  | nil => intro s h; exact ⟨h, by simp, by simp⟩
  | cons x l ih =>
    intro s h
    obtain ⟨h1, h2, h3⟩ := ih (put s x) (put_sorted h x)
    refine ⟨h1, fun e => ?_, ?_⟩
    · rw [List.foldl_cons, h2, put_mem, List.mem_cons]
      constructor
      · rintro ((h | h) | h)
        · exact .inr (.inl h)
        · exact .inl h
        · exact .inr (.inr h)
      · rintro (h | h | h)
        · exact .inl (.inr h)
        · exact .inl (.inl h)
        · exact .inr h
    · have := put_len s x
      rw [List.foldl_cons, List.length_cons]
      omega
theorem normal_sorted (l : List E) : Sorted (normal l) := (normal_gen l [] List.Pairwise.nil).1
theorem normal_mem (l : List E) (e : E) : e ∈ normal l ↔ e ∈ l := by
  have := (normal_gen l [] List.Pairwise.nil).2.1 e
  simpa [normal] using this
theorem normal_len (l : List E) : (normal l).length ≤ l.length := by
  have := (normal_gen l [] List.Pairwise.nil).2.2
  simpa [normal] using this
/-- the vertices to which a vertex leads, in order -/
def outs (l : List E) (v : Nat) : List Nat := (l.filter fun e => e.1 == v).map (·.2)
theorem outs_sorted {l : List E} (h : Sorted l) (v : Nat) : (outs l v).Pairwise (· < ·) := by
  unfold outs
  rw [List.pairwise_map]
  have h1 : (l.filter fun e => e.1 == v).Pairwise (fun a b => less a b = true) := h.filter _
  refine List.Pairwise.imp_of_mem ?_ h1
  intro a b ha hb hab
  have ea : a.1 = v := by simpa using (List.mem_filter.1 ha).2
  have eb : b.1 = v := by simpa using (List.mem_filter.1 hb).2
  simp only [less, Bool.or_eq_true, Bool.and_eq_true, decide_eq_true_eq] at hab
  omega
theorem outs_mem (l : List E) (v u : Nat) : u ∈ outs l v ↔ (v, u) ∈ l := by
  unfold outs
  rw [List.mem_map]
  constructor
  · rintro ⟨e, he, rfl⟩
    obtain ⟨h1, h2⟩ := List.mem_filter.1 he
    have : e.1 = v := by simpa using h2
    rw [← this]; exact h1
  · intro h
    exact ⟨(v, u), List.mem_filter.2 ⟨h, by simp⟩, rfl⟩
/-- the k-th of s parts of n vertices begins here -/
def cut (n s k : Nat) : Nat := k * n / s
theorem cut_lt {n s k : Nat} (h0 : 0 < s) (hs : s ≤ n) : cut n s k < cut n s (k + 1) := by
  unfold cut
  rw [Nat.add_mul, Nat.one_mul]
  have h1 : k * n / s + 1 = (k * n + s) / s := by rw [Nat.add_div_right _ h0]
  have h2 : (k * n + s) / s ≤ (k * n + n) / s := Nat.div_le_div_right (by omega)
  omega
theorem cut_zero (n s : Nat) : cut n s 0 = 0 := by simp [cut]
theorem cut_full {n s : Nat} (h0 : 0 < s) : cut n s s = n := by simp [cut, Nat.mul_div_cancel_left _ h0]
theorem cut_le {n s k : Nat} (h0 : 0 < s) (hk : k ≤ s) : cut n s k ≤ n := by
  have : k * n / s ≤ s * n / s := Nat.div_le_div_right (Nat.mul_le_mul_right _ hk)
  rw [Nat.mul_div_cancel_left _ h0] at this
  exact this
end Go.Proofs.Ytjdbjahgimlhbaa.Gr
end
section
set_option linter.unusedVariables false
set_option maxRecDepth 100000
namespace Go.Proofs.Ytjdbjahgimlhbaa
open Go.RowKit
open Gr (E)

def ev (e : E) : Value := .agg #[.int .i64 (e.1 : Int), .int .i64 (e.2 : Int)]
def ecells (l : List E) : List Value := l.flatMap fun e => [.int .i64 (e.1 : Int), .int .i64 (e.2 : Int)]
theorem ecells_len (l : List E) : (ecells l).length = l.length * 2 := by
  induction l with
  | nil => rfl
  | cons e l ih => simp only [ecells, List.flatMap_cons, List.length_append, List.length_cons, List.length_nil] at ih ⊢; omega
theorem ecells_app (a b : List E) : ecells (a ++ b) = ecells a ++ ecells b := by simp [ecells]
theorem ecells_at : ∀ (l : List E) (k : Nat) (e : E), l[k]? = some e → (ecells l)[2 * k]? = some (.int .i64 (e.1 : Int)) ∧ (ecells l)[2 * k + 1]? = some (.int .i64 (e.2 : Int))
  | [], k, e, h => by simp at h
  | x :: l, 0, e, h => by
    obtain rfl : x = e := by simpa using h
    simp [ecells]
  | x :: l, k + 1, e, h => by
    have := ecells_at l k e (by simpa using h)
    simp only [ecells, List.flatMap_cons] at this ⊢
    rw [show 2 * (k + 1) = 2 * k + 1 + 1 by omega, show 2 * k + 1 + 1 + 1 = (2 * k + 1) + 1 + 1 by omega]
    simpa using this
theorem ecells_take (l : List E) (k : Nat) : (ecells l).take (k * 2) = ecells (l.take k) := by
  induction l generalizing k with
  | nil => simp [ecells]
  | cons e l ih =>
    cases k with
    | zero => simp [ecells]
    | succ k =>
      rw [show (k + 1) * 2 = k * 2 + 1 + 1 by omega]
      have := ih k
      simp only [ecells, List.flatMap_cons, List.take_succ_cons] at this ⊢
      simp [this]
theorem ecells_one {l : List E} : ∀ u ∈ ecells l, u.oneCell' = true := by
  intro u hu
  obtain ⟨e, _, he⟩ := List.mem_flatMap.1 hu
  simp at he
  rcases he with rfl | rfl <;> simp [Value.oneCell']
/-- a slice of edges -/
abbrev EdgesAt (w : World) (A : Option Addr) (l : List E) : Prop := Reads w w.heap.size 2 A l.length (ecells l)
theorem EdgesAt.cells {w : World} {A : Option Addr} {l : List E} (h : EdgesAt w A l) {k : Nat} (hk : k < l.length) :
    ∃ b o, A = some ⟨b, o, none⟩ ∧ b < w.heap.size ∧ w.rangeAt b (o + 2 * k) [.int .i64 ((l[k]).1 : Int), .int .i64 ((l[k]).2 : Int)] := by
  obtain ⟨b, o, e, hb, hc⟩ := h.2 (by omega)
  obtain ⟨h1, h2⟩ := ecells_at l k _ (List.getElem?_eq_getElem hk)
  refine ⟨b, o, e, hb, fun j v hj => ?_⟩
  match j, hj with
  | 0, hj => obtain rfl := Option.some.inj hj; have := hc _ _ h1; simpa [Nat.add_assoc] using this
  | 1, hj => obtain rfl := Option.some.inj hj; have := hc _ _ h2; simpa [Nat.add_assoc] using this
theorem edge_size : (Try.prog.info? 40).map (·.size) = some 2 := by kernel_rfl
theorem edge_info : (Try.prog.info? 40).map (fun i => (i.zero, i.size, i.bytes)) = some (some (.agg #[.int .i64 0, .int .i64 0]), 2, 16) := by kernel_rfl

theorem less8_any (a b : E) (w : World) : Calls Try.prog 104 #[ev a, ev b] w fun e w' => e = .returned (.bool (Gr.less a b)) ∧ Fr (fun _ => False) w w' := by
  obtain ⟨a1, a2⟩ := a
  obtain ⟨b1, b2⟩ := b
  unfold ev
  by_cases h1 : a1 < b1
  · have hr : Gr.less (a1, a2) (b1, b2) = true := by simp [Gr.less, h1]
    rw [hr]
    clear hr
    go_enter Try.func104, Try.ntmps104
    go_wp2
    go_ret
    exact ⟨rfl, ((Fr.refl _ _).alloc _).alloc _⟩
  · by_cases h2 : a1 = b1
    · subst h2
      by_cases h3 : a2 < b2
      · have hr : Gr.less (a1, a2) (a1, b2) = true := by simp [Gr.less, h3]
        rw [hr]
        clear hr
        go_enter Try.func104, Try.ntmps104
        go_wp2
        go_ret
        exact ⟨rfl, ((Fr.refl _ _).alloc _).alloc _⟩
      · have hr : Gr.less (a1, a2) (a1, b2) = false := by simp [Gr.less]; omega
        rw [hr]
        clear hr
        go_enter Try.func104, Try.ntmps104
        go_wp2
        go_ret
        exact ⟨rfl, ((Fr.refl _ _).alloc _).alloc _⟩
    · have hr : Gr.less (a1, a2) (b1, b2) = false := by simp [Gr.less, h1, h2]
      rw [hr]
      clear hr
      have h4 : ((a1 : Int) == (b1 : Int)) = false := by simp; omega
      go_enter Try.func104, Try.ntmps104
      go_wp2
      go_ret
      exact ⟨rfl, ((Fr.refl _ _).alloc _).alloc _⟩
end Go.Proofs.Ytjdbjahgimlhbaa
end
