/- PLAIN LAWS of edges: 'put' of the document's edges, and the shards' lists. No program in sight. -/
import Derived.RowKit
set_option linter.unusedVariables false
namespace Go.Proofs.Ytjdbjahgimlhbaa.Gr

/-- an edge: from, to -/
abbrev E := Nat × Nat
def less (a b : E) : Bool := decide (a.1 < b.1) || (decide (a.1 = b.1) && decide (a.2 < b.2))
theorem less_irrefl (a : E) : less a a = false := by simp [less]
theorem less_trans {a b c : E} (h : less a b = true) (k : less b c = true) : less a c = true := by
  simp only [less, Bool.or_eq_true, Bool.and_eq_true, decide_eq_true_eq] at *
  omega
theorem less_not {a b : E} (h : less a b = false) (hne : a ≠ b) : less b a = true := by
  obtain ⟨a1, a2⟩ := a
  obtain ⟨b1, b2⟩ := b
  simp only [less, Bool.or_eq_true, Bool.and_eq_true, decide_eq_true_eq, Bool.or_eq_false_iff, Bool.and_eq_false_iff, decide_eq_false_iff_not, ne_eq, Prod.mk.injEq] at *
  omega
/-- where an edge is to stand, from place k down -/
def place (l : List E) (x : E) : Nat → Nat
  | 0 => 0
  | k + 1 => if less x (l.getD k (0, 0)) then place l x k else k + 1
def put (l : List E) (x : E) : List E :=
  let k := place l x l.length
  if 0 < k ∧ l.getD (k - 1) (0, 0) = x then l else l.take k ++ x :: l.drop k
theorem place_le (l : List E) (x : E) : ∀ k, place l x k ≤ k
  | 0 => Nat.le_refl _
  | k + 1 => by
    unfold place
    split
    · have := place_le l x k; omega
    · exact Nat.le_refl _
theorem place_hi (l : List E) (x : E) : ∀ k, ∀ i, place l x k ≤ i → i < k → less x (l.getD i (0, 0)) = true
  | 0, i, _, h => absurd h (by omega)
  | k + 1, i, h1, h2 => by
    unfold place at h1
    split at h1
    · next hc =>
      by_cases hik : i = k
      · rw [hik]; exact hc
      · exact place_hi l x k i h1 (by omega)
    · omega
theorem place_lo (l : List E) (x : E) : ∀ k, 0 < place l x k → less x (l.getD (place l x k - 1) (0, 0)) = false
  | 0, h => absurd h (by simp [place])
  | k + 1, h => by
    unfold place at h ⊢
    split at h
    · next hc => rw [if_pos hc]; exact place_lo l x k h
    · next hc => rw [if_neg hc]; simpa using hc
def Sorted (l : List E) : Prop := l.Pairwise (fun a b => less a b = true)
theorem put_mem (l : List E) (x e : E) : e ∈ put l x ↔ e = x ∨ e ∈ l := by
  unfold put
  have hle := place_le l x l.length
  generalize place l x l.length = k at *
  simp only
  split
  · next h =>
    constructor
    · exact .inr
    · rintro (rfl | h')
      · rw [← h.2, List.getD_eq_getElem?_getD, List.getElem?_eq_getElem (by omega)]
        exact List.getElem_mem _
      · exact h'
  · rw [List.mem_append, List.mem_cons]
    constructor
    · rintro (h | rfl | h)
      · exact .inr (List.mem_of_mem_take h)
      · exact .inl rfl
      · exact .inr (List.mem_of_mem_drop h)
    · rintro (rfl | h)
      · exact .inr (.inl rfl)
      · rw [← List.take_append_drop k l, List.mem_append] at h
        rcases h with h | h
        · exact .inl h
        · exact .inr (.inr h)
theorem put_len (l : List E) (x : E) : (put l x).length ≤ l.length + 1 := by
  unfold put
  simp only
  split
  · omega
  · simp; omega
theorem put_sorted {l : List E} (h : Sorted l) (x : E) : Sorted (put l x) := by
  unfold put
  have hle := place_le l x l.length
  have hhi := place_hi l x l.length
  have hlo := place_lo l x l.length
  generalize place l x l.length = k at *
  simp only
  split
  · exact h
  · next hn =>
    have h' := h
    unfold Sorted at h h' ⊢
    rw [← List.take_append_drop k l, List.pairwise_append] at h'
    have hx : ∀ e ∈ l.drop k, less x e = true := by
      intro e he
      obtain ⟨i, hi, rfl⟩ := List.getElem_of_mem he
      rw [List.getElem_drop]
      have hi' : k + i < l.length := by simp at hi; omega
      have := hhi (k + i) (by omega) hi'
      rwa [List.getD_eq_getElem?_getD, List.getElem?_eq_getElem hi'] at this
    have hy : ∀ e ∈ l.take k, less e x = true := by
      intro e he
      have hk : 0 < k := by
        rcases Nat.eq_zero_or_pos k with h0 | h0
        · subst h0; simp at he
        · exact h0
      have hl := hlo hk
      have hkl : k - 1 < l.length := by omega
      have hg : l.getD (k - 1) (0, 0) = l[k - 1] := by rw [List.getD_eq_getElem?_getD, List.getElem?_eq_getElem hkl]; rfl
      rw [hg] at hl hn
      have hlast : less l[k - 1] x = true := less_not hl (fun e => hn ⟨hk, e.symm⟩)
      obtain ⟨i, hi, rfl⟩ := List.getElem_of_mem he
      rw [List.getElem_take]
      simp at hi
      by_cases hik : i = k - 1
      · subst hik; exact hlast
      · exact less_trans ((List.pairwise_iff_getElem.1 h) i (k - 1) (by omega) hkl (by omega)) hlast
    rw [List.pairwise_append]
    refine ⟨h'.1, ?_, ?_⟩
    · rw [List.pairwise_cons]
      exact ⟨hx, h'.2.1⟩
    · intro a ha b hb
      rcases List.mem_cons.1 hb with rfl | hb
      · exact hy a ha
      · exact h'.2.2 a ha b hb
/-- the edges, in order, each once -/
def normal (l : List E) : List E := l.foldl put []
theorem normal_gen (l : List E) : ∀ s, Sorted s → Sorted (l.foldl put s) ∧ (∀ e, e ∈ l.foldl put s ↔ e ∈ s ∨ e ∈ l) ∧ (l.foldl put s).length ≤ s.length + l.length := by
  induction l with
  | nil => intro s h; exact ⟨h, by simp, by simp⟩
  | cons x l ih =>
    intro s h
    obtain ⟨h1, h2, h3⟩ := ih (put s x) (put_sorted h x)
    refine ⟨h1, fun e => ?_, ?_⟩
    · rw [List.foldl_cons, h2, put_mem, List.mem_cons]
      constructor
      · rintro ((h | h) | h)
        · exact .inr (.inl h)
        · exact .inl h
        · exact .inr (.inr h)
      · rintro (h | h | h)
        · exact .inl (.inr h)
        · exact .inl (.inl h)
        · exact .inr h
    · have := put_len s x
      rw [List.foldl_cons, List.length_cons]
      omega
theorem normal_sorted (l : List E) : Sorted (normal l) := (normal_gen l [] List.Pairwise.nil).1
theorem normal_mem (l : List E) (e : E) : e ∈ normal l ↔ e ∈ l := by
  have := (normal_gen l [] List.Pairwise.nil).2.1 e
  simpa [normal] using this
theorem normal_len (l : List E) : (normal l).length ≤ l.length := by
  have := (normal_gen l [] List.Pairwise.nil).2.2
  simpa [normal] using this
/-- the vertices to which a vertex leads, in order -/
def outs (l : List E) (v : Nat) : List Nat := (l.filter fun e => e.1 == v).map (·.2)
theorem outs_sorted {l : List E} (h : Sorted l) (v : Nat) : (outs l v).Pairwise (· < ·) := by
  unfold outs
  rw [List.pairwise_map]
  have h1 : (l.filter fun e => e.1 == v).Pairwise (fun a b => less a b = true) := h.filter _
  refine List.Pairwise.imp_of_mem ?_ h1
  intro a b ha hb hab
  have ea : a.1 = v := by simpa using (List.mem_filter.1 ha).2
  have eb : b.1 = v := by simpa using (List.mem_filter.1 hb).2
  simp only [less, Bool.or_eq_true, Bool.and_eq_true, decide_eq_true_eq] at hab
  omega
theorem outs_mem (l : List E) (v u : Nat) : u ∈ outs l v ↔ (v, u) ∈ l := by
  unfold outs
  rw [List.mem_map]
  constructor
  · rintro ⟨e, he, rfl⟩
    obtain ⟨h1, h2⟩ := List.mem_filter.1 he
    have : e.1 = v := by simpa using h2
    rw [← this]; exact h1
  · intro h
    exact ⟨(v, u), List.mem_filter.2 ⟨h, by simp⟩, rfl⟩
/-- the k-th of s parts of n vertices begins here -/
def cut (n s k : Nat) : Nat := k * n / s
theorem cut_lt {n s k : Nat} (h0 : 0 < s) (hs : s ≤ n) : cut n s k < cut n s (k + 1) := by
  unfold cut
  rw [Nat.add_mul, Nat.one_mul]
  have h1 : k * n / s + 1 = (k * n + s) / s := by rw [Nat.add_div_right _ h0]
  have h2 : (k * n + s) / s ≤ (k * n + n) / s := Nat.div_le_div_right (by omega)
  omega
theorem cut_zero (n s : Nat) : cut n s 0 = 0 := by simp [cut]
theorem cut_full {n s : Nat} (h0 : 0 < s) : cut n s s = n := by simp [cut, Nat.mul_div_cancel_left _ h0]
theorem cut_le {n s k : Nat} (h0 : 0 < s) (hk : k ≤ s) : cut n s k ≤ n := by
  have : k * n / s ≤ s * n / s := Nat.div_le_div_right (Nat.mul_le_mul_right _ hk)
  rw [Nat.mul_div_cancel_left _ h0] at this
  exact this
end Go.Proofs.Ytjdbjahgimlhbaa.Gr
