/- PLAIN LAWS OF LAYER 14: numbers as eight bytes, the highest one first; no program in sight. -/
namespace Go.Proofs.Ytneihcoepacadaa

theorem snoc_ind {α : Type} {P : List α → Prop} (h0 : P []) (h1 : ∀ l a, P l → P (l ++ [a])) : ∀ l, P l := by
  intro l
  have h : ∀ n (l : List α), l.length = n → P l := by
    intro n
    induction n with
    | zero => intro l hl; rw [List.length_eq_zero_iff.1 hl]; exact h0
    | succ n ih =>
      intro l hl
      have hne : l ≠ [] := by intro h; subst h; simp at hl
      rw [← List.dropLast_concat_getLast hne]
      exact h1 _ _ (ih _ (by simp [hl]))
  exact h _ l rfl

/-- the last k digits of x to the base 256, the highest one first -/
def encW : Nat → Nat → List UInt8
  | 0, _ => []
  | k + 1, x => encW k (x / 256) ++ [UInt8.ofNat x]

theorem encW_len (k : Nat) : ∀ x, (encW k x).length = k := by
  induction k with
  | zero => intro x; rfl
  | succ k ih => intro x; simp [encW, ih]

theorem encW_left (k : Nat) : ∀ x, encW (k + 1) x = UInt8.ofNat (x / 256 ^ k) :: encW k x := by
  induction k with
  | zero => intro x; simp [encW]
  | succ k ih =>
    intro x
    rw [encW, ih, encW]
    simp [Nat.div_div_eq_div_mul, Nat.pow_succ, Nat.mul_comm]

/-- a list of digits as a number -/
def numB (l : List UInt8) : Nat := l.foldl (fun n c => n * 256 + c.toNat) 0

theorem numB_snoc (l : List UInt8) (c : UInt8) : numB (l ++ [c]) = numB l * 256 + c.toNat := by simp [numB, List.foldl_append]

theorem numB_lt (l : List UInt8) : numB l < 256 ^ l.length := by
  induction l using snoc_ind with
  | h0 => simp [numB]
  | h1 l c ih =>
    rw [numB_snoc, List.length_append, List.length_singleton, Nat.pow_succ]
    have := c.toNat_lt
    omega

theorem numB_encW (k : Nat) : ∀ x, x < 256 ^ k → numB (encW k x) = x := by
  induction k with
  | zero => intro x hx; simp at hx; simp [encW, numB, hx]
  | succ k ih =>
    intro x hx
    rw [encW, numB_snoc, ih (x / 256) (by rw [Nat.pow_succ] at hx; omega)]
    simp
    omega

theorem encW_numB (l : List UInt8) : encW l.length (numB l) = l := by
  induction l using snoc_ind with
  | h0 => rfl
  | h1 l c ih =>
    rw [List.length_append, List.length_singleton, encW, numB_snoc]
    have := c.toNat_lt
    rw [show (numB l * 256 + c.toNat) / 256 = numB l by omega, ih]
    congr 2
    apply UInt8.toNat.inj
    simp

/-- the numbers of 64 bytes, of which the first ones are read -/
def decs (l : List UInt8) : List Nat := (List.range 8).map fun j => numB ((l.drop (8 * j)).take 8)

theorem decs_len (l : List UInt8) : (decs l).length = 8 := by simp [decs]
theorem decs_getD (l : List UInt8) {j : Nat} (h : j < 8) : (decs l).getD j 0 = numB ((l.drop (8 * j)).take 8) := by
  simp [decs, List.getD, h]
theorem decs_lt (l : List UInt8) : ∀ x ∈ decs l, x < 18446744073709551616 := by
  intro x hx
  obtain ⟨j, _, rfl⟩ := List.mem_map.1 hx
  have h := numB_lt ((l.drop (8 * j)).take 8)
  have h2 : 256 ^ ((l.drop (8 * j)).take 8).length ≤ 256 ^ 8 := Nat.pow_le_pow_right (by omega) (List.length_take_le _ _)
  omega

theorem seg_snoc (l : List UInt8) (c : UInt8) (j : Nat) :
    ((l ++ [c]).drop (8 * j)).take 8 = if 8 * j ≤ l.length ∧ l.length < 8 * j + 8 then (l.drop (8 * j)).take 8 ++ [c] else (l.drop (8 * j)).take 8 := by
  split
  · rename_i h
    rw [List.drop_append_of_le_length h.1, List.take_of_length_le (by simp; omega), List.take_of_length_le (by simp; omega)]
  · rename_i h
    by_cases h1 : 8 * j ≤ l.length
    · rw [List.drop_append_of_le_length h1, List.take_append_of_le_length (by simp; omega)]
    · rw [List.drop_eq_nil_of_le (by simp; omega), List.drop_eq_nil_of_le (by omega)]

theorem decs_snoc (l : List UInt8) (c : UInt8) (h : l.length < 64) :
    decs (l ++ [c]) = (decs l).set (l.length / 8) ((decs l).getD (l.length / 8) 0 * 256 + c.toNat) := by
  apply List.ext_getElem
  · simp [decs_len]
  · intro j h1 h2
    have hj : j < 8 := by simpa [decs_len] using h1
    rw [List.getElem_set]
    have e : ∀ m : List UInt8, ∀ hh : j < (decs m).length, (decs m)[j] = numB ((m.drop (8 * j)).take 8) := fun m hh => by simp [decs]
    rw [e, e, seg_snoc]
    by_cases hc : 8 * j ≤ l.length ∧ l.length < 8 * j + 8
    · have : l.length / 8 = j := by omega
      rw [if_pos hc, if_pos this, numB_snoc, this, decs_getD l hj]
    · rw [if_neg hc, if_neg (by omega)]

theorem decs_part_lt (l : List UInt8) (h : l.length < 64) : (decs l).getD (l.length / 8) 0 < 72057594037927936 := by
  rw [decs_getD l (by omega)]
  have h1 := numB_lt ((l.drop (8 * (l.length / 8))).take 8)
  have h2 : 256 ^ ((l.drop (8 * (l.length / 8))).take 8).length ≤ 256 ^ 7 := Nat.pow_le_pow_right (by omega) (by simp; omega)
  omega

theorem encs_len (xs : List Nat) : (xs.flatMap (encW 8)).length = 8 * xs.length := by
  induction xs with
  | nil => rfl
  | cons x xs ih => simp [encW_len, ih]; omega

theorem encs_seg (xs : List Nat) : ∀ j, (h : j < xs.length) → ((xs.flatMap (encW 8)).drop (8 * j)).take 8 = encW 8 xs[j] := by
  induction xs with
  | nil => intro j h; simp at h
  | cons x xs ih =>
    intro j h
    cases j with
    | zero =>
      rw [List.flatMap_cons, Nat.mul_zero, List.drop_zero, List.take_append_of_le_length (by simp [encW_len]), List.take_of_length_le (by simp [encW_len])]
      rfl
    | succ j =>
      rw [List.flatMap_cons, List.drop_append, encW_len, List.drop_eq_nil_of_le (by simp [encW_len]; omega), List.nil_append, show 8 * (j + 1) - 8 = 8 * j by omega]
      exact ih j (by simpa using h)

theorem decs_encs (xs : List Nat) (h8 : xs.length = 8) (hlt : ∀ x ∈ xs, x < 18446744073709551616) : decs (xs.flatMap (encW 8)) = xs := by
  apply List.ext_getElem
  · rw [decs_len, h8]
  · intro j h1 h2
    have e : ∀ m : List UInt8, ∀ hh : j < (decs m).length, (decs m)[j] = numB ((m.drop (8 * j)).take 8) := fun m hh => by simp [decs]
    rw [e, encs_seg xs j h2, numB_encW]
    exact hlt _ (List.getElem_mem h2)

theorem flatMap_congr' {α β : Type} {l : List α} {f g : α → List β} (h : ∀ x ∈ l, f x = g x) : l.flatMap f = l.flatMap g := by
  induction l with
  | nil => rfl
  | cons x l ih => rw [List.flatMap_cons, List.flatMap_cons, h x (by simp), ih (fun y hy => h y (by simp [hy]))]

theorem flatMap_segs (l : List UInt8) : ∀ n k, 8 * (k + n) = l.length → ((List.range' k n).map fun j => (l.drop (8 * j)).take 8).flatMap id = l.drop (8 * k) := by
  intro n
  induction n with
  | zero => intro k h; simp; omega
  | succ n ih =>
    intro k h
    rw [List.range'_succ, List.map_cons, List.flatMap_cons, ih (k + 1) (by omega)]
    show (l.drop (8 * k)).take 8 ++ l.drop (8 * (k + 1)) = _
    rw [show 8 * (k + 1) = 8 * k + 8 by omega, ← List.drop_drop]
    exact List.take_append_drop 8 _

theorem encs_decs (l : List UInt8) (h : l.length = 64) : (decs l).flatMap (encW 8) = l := by
  have h1 := flatMap_segs l 8 0 (by omega)
  rw [← List.range_eq_range', Nat.mul_zero, List.drop_zero] at h1
  refine Eq.trans ?_ h1
  rw [decs, List.flatMap_map, List.flatMap_map]
  apply flatMap_congr'
  intro j hj
  have hj' : j < 8 := by simpa using hj
  have e := encW_numB ((l.drop (8 * j)).take 8)
  rw [show ((l.drop (8 * j)).take 8).length = 8 by simp; omega] at e
  exact e
end Go.Proofs.Ytneihcoepacadaa
