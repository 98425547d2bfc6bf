/- ROWS OF WHOLE NUMBERS, each the call's own, in a table; sorting and compacting a row that is sorted. -/
import Derived.Test.YtjdbjahgimlhbaaBase
import Derived.Test.YtjdbjahgimlhbaaShelfK
import Derived.Test.YtjdbjahgimlhbaaRwS
import Derived.Sort.OwnSortedInts
set_option linter.unusedVariables false
set_option maxRecDepth 100000
namespace Go.Proofs.Ytjdbjahgimlhbaa
open Go.RowKit Go.Sort

def ivals (l : List Nat) : List Value := l.map fun v : Nat => .int .i64 (v : Int)
theorem ivals_len (l : List Nat) : (ivals l).length = l.length := by simp [ivals]
theorem ivals_ints (l : List Nat) : ivals l = (l.map fun v : Nat => (v : Int)).map (Value.int .i64) := by simp [ivals]
theorem int_info : (Try.prog.info? 3).map (fun i => (i.zero, i.size, i.bytes)) = some (some (.int .i64 0), 1, 8) := by kernel_rfl
theorem ints_info : (Try.prog.info? 64).map (fun i => (i.zero, i.size, i.bytes)) = some (some (.slice none 0 0), 1, 24) := by kernel_rfl
theorem own_fr {w w' : World} {base size n : Nat} {e : TypeId} {v : Value} {xs : List Value} (h : w.ownsRow base e size v n xs) (hf : Fr (fun _ => False) w w') : w'.ownsRow base e size v n xs :=
  h.kept (row := none) ⟨hf.os, hf.tape, hf.output, hf.size, fun k hk _ => hf.block k hk (fun h => h)⟩ (by cases hv : v.ownBlock <;> simp)
theorem own_frS {S : Nat → Prop} {w w' : World} {base size n : Nat} {e : TypeId} {v : Value} {xs : List Value} (h : w.ownsRow base e size v n xs) (hf : Fr S w w') (hn : ∀ k, v.ownBlock = some k → ¬ S k) : w'.ownsRow base e size v n xs := by
  refine ⟨h.1, ?_⟩
  rcases h.2 with h1 | ⟨g, cap, cur, rfl, hb, hg, rest⟩
  · exact .inl h1
  · refine .inr ⟨g, cap, cur, rfl, hb, ?_, rest⟩
    rw [hf.block g (Array.getElem?_eq_some_iff.1 hg).1 (hn g (by simp [Value.ownBlock]))]
    exact hg
/-- lists whose memory is the blocks from lo to hi -/
def ListsIn (w : World) (lo hi : Nat) (A : Option Addr) (m : Nat) (L : List (List Int)) : Prop := ∀ (S : Nat → Prop) (w' : World), Fr S w w' → (∀ k, lo ≤ k → k < hi → ¬ S k) → ListsAt w' w'.heap.size A m L
theorem ListsIn.fr {S : Nat → Prop} {w w' : World} {lo hi m : Nat} {A : Option Addr} {L : List (List Int)} (h : ListsIn w lo hi A m L) (hf : Fr S w w') (hs : ∀ k, lo ≤ k → k < hi → ¬ S k) : ListsIn w' lo hi A m L := fun S' w2 hf2 hs2 =>
  h (fun k => S k ∨ S' k) w2 ((hf.mono (fun k h => .inl h)).trans hf2 (fun k h => .inl (.inr h))) (fun k h1 h2 h3 => h3.elim (hs k h1 h2) (hs2 k h1 h2))
theorem ListsIn.lists {w : World} {lo hi m : Nat} {A : Option Addr} {L : List (List Int)} (h : ListsIn w lo hi A m L) : ListsAt w w.heap.size A m L := h (fun _ => False) w (Fr.refl _ _) (fun _ _ _ h => h)
theorem grown_set {w w' : World} {row : Option Nat} (hg : w.grownBy w' row) : Fr (fun k => row = some k) w w' := Fr.of_grown hg
theorem set_grown (w : World) (B i : Nat) (v : Value) : w.grownBy (w.setCell ⟨B, i, none⟩ v) (some B) := by
  have h := Fr.one w B i v
  exact ⟨h.os, h.tape, h.output, h.size, fun k hk hn => h.block k hk (fun e => hn (by rw [e]))⟩

/-- a table of rows; each row lies from H on, no two in one block -/
def RowsAt (w : World) (H B : Nat) (L : List (List Nat)) : Prop :=
  B < H ∧ ∃ vs : Array Value, Blk w B 64 vs ∧ vs.size = L.length ∧ (∀ (i : Nat) (l : List Nat), L[i]? = some l → ∃ v, vs[i]? = some v ∧ w.ownsRow H 3 1 v l.length (ivals l)) ∧
    (∀ (i j : Nat) (u v : Value), i ≠ j → vs[i]? = some u → vs[j]? = some v → u.ownBlock = none ∨ u.ownBlock ≠ v.ownBlock)
section
variable {w w' : World} {H B : Nat} {L : List (List Nat)}
theorem RowsAt.fr (h : RowsAt w H B L) (hf : Fr (fun _ => False) w w') : RowsAt w' H B L := by
  obtain ⟨h0, vs, h1, h2, h3, h4⟩ := h
  refine ⟨h0, vs, h1.fr hf (fun h => h), h2, fun i l hl => ?_, h4⟩
  obtain ⟨v, e1, e2⟩ := h3 i l hl
  exact ⟨v, e1, own_fr e2 hf⟩
theorem RowsAt.row (h : RowsAt w H B L) {i : Nat} {l : List Nat} (hi : L[i]? = some l) : ∃ A c, w.cell? ⟨B, i, none⟩ = some (.slice A l.length c) ∧ w.ownsRow H 3 1 (.slice A l.length c) l.length (ivals l) := by
  obtain ⟨h0, vs, h1, h2, h3, h4⟩ := h
  obtain ⟨v, e1, e2⟩ := h3 i l hi
  obtain ⟨A, c, rfl⟩ := Reads.own_val e2
  exact ⟨A, c, by rw [h1.cell]; exact e1, e2⟩
theorem RowsAt.lt (h : RowsAt w H B L) : B < w.heap.size := by
  obtain ⟨h0, vs, h1, h2, h3, h4⟩ := h
  exact h1.lt
theorem RowsAt.frozen (h : RowsAt w H B L) (i : Nat) : w.frozen? ⟨B, i, none⟩ = false := by
  obtain ⟨h0, vs, h1, h2, h3, h4⟩ := h
  exact h1.frozen i
theorem RowsAt.frS {S : Nat → Prop} (h : RowsAt w H B L) (hf : Fr S w w') (hs : ∀ k, k = B ∨ (H ≤ k ∧ k < w.heap.size) → ¬ S k) : RowsAt w' H B L := by
  obtain ⟨h0, vs, h1, h2, h3, h4⟩ := h
  refine ⟨h0, vs, h1.fr hf (hs B (.inl rfl)), h2, fun i l hl => ?_, h4⟩
  obtain ⟨v, e1, e2⟩ := h3 i l hl
  exact ⟨v, e1, own_frS e2 hf (fun k hk => hs k (.inr (e2.lt k hk)))⟩
/-- a row turned: the table's cell is to be set yet -/
theorem RowsAt.turn (h : RowsAt w H B L) {i : Nat} {l l' : List Nat} {v v' : Value} (hi : L[i]? = some l) (hv : w.cell? ⟨B, i, none⟩ = some v) (hg : w.grownBy w' v.ownBlock) (ho : w'.ownsRow H 3 1 v' l'.length (ivals l'))
    (hn : v'.ownBlock = v.ownBlock ∨ ∃ g, v'.ownBlock = some g ∧ w.heap.size ≤ g) : RowsAt (w'.setCell ⟨B, i, none⟩ v') H B (L.set i l') := by
  obtain ⟨h0, vs, h1, h2, h3, h4⟩ := h
  have hiL : i < L.length := (List.getElem?_eq_some_iff.1 hi).1
  obtain ⟨v2, e1, e2⟩ := h3 i l hi
  have : v2 = v := by rw [h1.cell, e1] at hv; exact Option.some.inj hv
  subst this
  have hBv : some B ≠ v2.ownBlock := fun e => by have := (e2.lt B e.symm).1; omega
  have hB1 : Blk w' B 64 vs := (hg.block B h1.lt hBv).trans h1
  have hBo : ∀ u (x : World) m ys, x.ownsRow H 3 1 u m ys → u.ownBlock = none ∨ u.ownBlock ≠ some B := fun u x m ys hu => by
    cases hub : u.ownBlock with
    | none => exact .inl rfl
    | some k => have := (hu.lt k hub).1; exact .inr (by simp; omega)
  refine ⟨h0, vs.setIfInBounds i v', hB1.set_ i v', by simp [h2], fun j m hm => ?_, fun j k u x hjk hu hx => ?_⟩
  · by_cases hji : j = i
    · subst hji
      rw [List.getElem?_set_self hiL] at hm
      obtain rfl := Option.some.inj hm
      refine ⟨v', ?_, ho.kept (set_grown _ _ _ _) (hBo _ _ _ _ ho)⟩
      simp [h2, hiL]
    · rw [List.getElem?_set_ne (Ne.symm hji)] at hm
      obtain ⟨u, f1, f2⟩ := h3 j m hm
      refine ⟨u, by rw [Array.getElem?_setIfInBounds_ne (Ne.symm hji)]; exact f1, (f2.kept hg (h4 j i u v2 hji f1 e1)).kept (set_grown _ _ _ _) (hBo _ _ _ _ f2)⟩
  · have hsz : i < vs.size := by omega
    have old : ∀ (k : Nat) (u : Value), k ≠ i → vs[k]? = some u → u.ownBlock = none ∨ (u.ownBlock ≠ v'.ownBlock) := fun k u hki hu => by
      rcases h4 k i u v2 hki hu e1 with h | h
      · exact .inl h
      · rcases hn with hn | ⟨g, hn, hge⟩
        · exact .inr (by rw [hn]; exact h)
        · have hk : k < L.length := by rw [← h2]; exact (Array.getElem?_eq_some_iff.1 hu).1
          obtain ⟨u2, f1, f2⟩ := h3 k L[k] (List.getElem?_eq_getElem hk)
          rw [hu] at f1
          obtain rfl := Option.some.inj f1
          cases hub : u.ownBlock with
          | none => exact .inl rfl
          | some b => have := (f2.lt b hub).2; exact .inr (by rw [hn]; simp; omega)
    by_cases hj : j = i
    · subst hj
      rw [Array.getElem?_setIfInBounds_self_of_lt hsz] at hu
      obtain rfl := Option.some.inj hu
      rw [Array.getElem?_setIfInBounds_ne hjk] at hx
      rcases old k x (Ne.symm hjk) hx with h | h
      · cases hv' : v'.ownBlock with
        | none => exact .inl rfl
        | some b => exact .inr (by rw [h]; simp)
      · exact .inr (Ne.symm h)
    · rw [Array.getElem?_setIfInBounds_ne (Ne.symm hj)] at hu
      by_cases hk : k = i
      · subst hk
        rw [Array.getElem?_setIfInBounds_self_of_lt hsz] at hx
        obtain rfl := Option.some.inj hx
        exact old j u hj hu
      · rw [Array.getElem?_setIfInBounds_ne (Ne.symm hk)] at hx
        exact h4 j k u x hjk hu hx
/-- a row turned in place -/
theorem RowsAt.same (h : RowsAt w H B L) {i : Nat} {l : List Nat} {v : Value} (hi : L[i]? = some l) (hv : w.cell? ⟨B, i, none⟩ = some v) (hg : w.grownBy w' v.ownBlock) (ho : w'.ownsRow H 3 1 v l.length (ivals l)) : RowsAt w' H B L := by
  obtain ⟨h0, vs, h1, h2, h3, h4⟩ := h
  obtain ⟨v2, e1, e2⟩ := h3 i l hi
  have : v2 = v := by rw [h1.cell, e1] at hv; exact Option.some.inj hv
  subst this
  have hBv : some B ≠ v2.ownBlock := fun e => by have := (e2.lt B e.symm).1; omega
  refine ⟨h0, vs, (hg.block B h1.lt hBv).trans h1, h2, fun j m hm => ?_, h4⟩
  by_cases hji : j = i
  · subst hji
    rw [hi] at hm
    obtain rfl := Option.some.inj hm
    exact ⟨v2, e1, ho⟩
  · obtain ⟨u, f1, f2⟩ := h3 j m hm
    exact ⟨u, f1, f2.kept hg (h4 j i u v2 hji f1 e1)⟩
/-- a store elsewhere -/
theorem RowsAt.far (h : RowsAt w H B L) {g i : Nat} (u : Value) (h1 : g ≠ B) (h2 : g < H) : RowsAt (w.setCell ⟨g, i, none⟩ u) H B L := by
  obtain ⟨h0, vs, h3, h4, h5, h6⟩ := h
  refine ⟨h0, vs, h3.far (p := ⟨g, i, none⟩) (Ne.symm h1) u, h4, fun j m hm => ?_, h6⟩
  obtain ⟨x, e1, e2⟩ := h5 j m hm
  refine ⟨x, e1, e2.kept (set_grown _ _ _ _) ?_⟩
  cases hx : x.ownBlock with
  | none => exact .inl rfl
  | some k => have := (e2.lt k hx).1; exact .inr (by simp; omega)
/-- as lists -/
theorem RowsAt.lists (h : RowsAt w H B L) {m : Nat} (hm : L.length = m) (hb : ∀ l ∈ L, l.length ≤ 9223372036854775807) : ListsAt w w.heap.size (some ⟨B, 0, none⟩) m (L.map fun l => l.map fun v : Nat => (v : Int)) := by
  obtain ⟨h0, vs, h1, h2, h3, h4⟩ := h
  refine ⟨by simp [hm], vs.toList, ?_, fun i l hl => ?_⟩
  · have : Blk w B 64 vs.toList.toArray := by simpa using h1
    exact Reads.blk this (by simp [h2, hm])
  · rw [List.getElem?_map] at hl
    cases hx : L[i]? with
    | none => rw [hx] at hl; cases hl
    | some x =>
      rw [hx] at hl
      obtain rfl := Option.some.inj hl
      obtain ⟨v, e1, e2⟩ := h3 i x hx
      obtain ⟨A, c, rfl⟩ := Reads.own_val e2
      have hr := Reads.of_own e2
      rw [ivals_ints] at hr
      refine ⟨A, c, ?_, ?_, ?_⟩
      · rw [List.length_map, Array.getElem?_toList]
        exact e1
      · simpa using hr
      · rw [List.length_map]
        exact hb x (List.mem_of_getElem? hx)
end

theorem ints_sorted {l : List Nat} (h : l.Pairwise (· < ·)) : (l.map fun v : Nat => (v : Int)).mergeSort (fun x y => decide (x ≤ y)) = l.map fun v : Nat => (v : Int) := by
  apply List.mergeSort_of_pairwise
  rw [List.pairwise_map]
  refine h.imp ?_
  intro a b hab
  simp
  omega
theorem ints_compact {l : List Nat} (h : l.Pairwise (· < ·)) : Lib.compact (l.map fun v : Nat => (v : Int)) = l.map fun v : Nat => (v : Int) := by
  apply Lib.compact_all
  intro j hj
  simp only [List.length_map] at hj
  unfold Lib.keeps
  rw [decide_eq_true_iff]
  rcases Nat.eq_zero_or_pos j with h0 | h0
  · exact .inl h0
  · refine .inr ?_
    have h1 := (List.pairwise_iff_getElem.1 h) (j - 1) j (by omega) hj (by omega)
    rw [getElem!_pos _ j (by simpa using hj), getElem!_pos _ (j - 1) (by simp; omega)]
    simp
    omega
theorem sort_own {H : Nat} {v : Value} {l : List Nat} {w : World} (ho : w.ownsRow H 3 1 v l.length (ivals l)) (hs : l.Pairwise (· < ·)) (hn : l.length ≤ 4096) :
    Calls Try.prog 82 #[v] w fun e w' => e = .returned (.tuple #[]) ∧ w.grownBy w' v.ownBlock ∧ w'.ownsRow H 3 1 v l.length (ivals l) := by
  rcases ho.2 with ⟨rfl, h0⟩ | ⟨g, cap, cur, rfl, hb, hg, h1, h2, h3, h4⟩
  · have hc := Try.slices_Sort_int_none none 0 w
    have hl : l = [] := List.eq_nil_of_length_eq_zero h0
    refine hc.mono ?_
    rintro e w' ⟨rfl, rfl⟩
    exact ⟨rfl, ⟨rfl, rfl, rfl, Nat.le_refl _, fun _ _ _ => rfl⟩, ho⟩
  · rw [Nat.mul_one, ivals_ints] at h4
    have hlen : (l.map fun v : Nat => (v : Int)).length = l.length := by simp
    have hH := holds_of_blockI (ss := l.map fun v : Nat => (v : Int)) hg (by rw [hlen]; exact h4)
    have hc := Try.slices_Sort_int g 0 cap (l.map fun v : Nat => (v : Int)) w hH (Array.getElem?_eq_some_iff.1 hg).1 (by rw [hlen]; omega)
    rw [hlen, ints_sorted hs] at hc
    refine hc.mono ?_
    rintro e w' ⟨rfl, n, os, rfl⟩
    refine ⟨rfl, grownBy_sortedI _, ?_⟩
    have := ownsRow_sortedI (n := n) (os := os) (ss := l.map fun v : Nat => (v : Int)) (ts := l.map fun v : Nat => (v : Int)) rfl hb hg (by rw [hlen]; exact h1) h2 h3
    rw [hlen] at this
    rw [ivals_ints]
    exact this
theorem compact_own {H : Nat} {v : Value} {l : List Nat} {w : World} (ho : w.ownsRow H 3 1 v l.length (ivals l)) (hs : l.Pairwise (· < ·)) (hn : l.length ≤ 4096) :
    Calls Try.prog 83 #[v] w fun e w' => e = .returned v ∧ w.grownBy w' v.ownBlock ∧ w'.ownsRow H 3 1 v l.length (ivals l) := by
  rcases ho.2 with ⟨rfl, h0⟩ | ⟨g, cap, cur, rfl, hb, hg, h1, h2, h3, h4⟩
  · refine (Try.slices_Compact_int_empty none 0 w).mono ?_
    rintro e w' ⟨rfl, rfl⟩
    exact ⟨rfl, ⟨rfl, rfl, rfl, Nat.le_refl _, fun _ _ _ => rfl⟩, ho⟩
  · rw [Nat.mul_one, ivals_ints] at h4
    have hlen : (l.map fun v : Nat => (v : Int)).length = l.length := by simp
    have hH := holds_of_blockI (ss := l.map fun v : Nat => (v : Int)) hg (by rw [hlen]; exact h4)
    have hc := Try.slices_Compact_int g 0 cap (l.map fun v : Nat => (v : Int)) w hH (by rw [hlen]; omega) (by rw [hlen]; exact h1)
    rw [ints_compact hs, hlen, Nat.sub_self, List.replicate_zero, List.append_nil] at hc
    refine hc.mono ?_
    rintro e w' ⟨rfl, q, rfl⟩
    have hgr : grow (putRow (Value.int .i64) (Sort.ahead w q) g 0 (l.map fun v : Nat => (v : Int)).toArray) #[] = putRow (Value.int .i64) (Sort.ahead w q) g 0 (l.map fun v : Nat => (v : Int)).toArray := by unfold grow; rw [Array.append_empty]
    refine ⟨rfl, ?_, ?_⟩
    · rw [← hgr]
      exact grownBy_sortedI _
    · have := ownsRow_sortedI (n := q) (os := #[]) (ss := l.map fun v : Nat => (v : Int)) (ts := l.map fun v : Nat => (v : Int)) rfl hb hg (by rw [hlen]; exact h1) h2 h3
      rw [hlen, hgr] at this
      rw [ivals_ints]
      exact this
end Go.Proofs.Ytjdbjahgimlhbaa
