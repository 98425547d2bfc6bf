/- PLAIN LAW OF LAYER 14: the bytes of segments stand in the order of the segments. -/
import Derived.Test.YtneihcoepacadaaVecPlain
import GoSem.Op.String
namespace Go.Proofs.Ytneihcoepacadaa
open Go

theorem numB_cons (c : UInt8) (u : List UInt8) : numB (c :: u) = c.toNat * 256 ^ u.length + numB u := by
  induction u using snoc_ind with
  | h0 => simp [numB]
  | h1 u d ih =>
    rw [← List.cons_append, numB_snoc, ih, numB_snoc, List.length_append, List.length_singleton, Nat.pow_succ, Nat.add_mul, Nat.mul_assoc]
    omega

theorem less_num (u : List UInt8) : ∀ v : List UInt8, u.length = v.length → Op.bytesLess u v = decide (numB u < numB v) := by
  induction u with
  | nil => intro v h; cases v with | nil => rfl | cons d v => simp at h
  | cons c u ih =>
    intro v h
    cases v with
    | nil => simp at h
    | cons d v =>
      have hl : u.length = v.length := by simpa using h
      rw [Op.bytesLess, ih v hl, numB_cons, numB_cons, hl]
      have hu := numB_lt u
      have hv := numB_lt v
      rw [hl] at hu
      generalize numB u = a at *
      generalize numB v = b at *
      generalize 256 ^ v.length = B at *
      rw [Bool.eq_iff_iff]
      simp only [Bool.or_eq_true, Bool.and_eq_true, decide_eq_true_eq, beq_iff_eq, UInt8.lt_iff_toNat_lt]
      constructor
      · rintro (h1 | ⟨rfl, h1⟩)
        · have := Nat.mul_le_mul_right B (show c.toNat + 1 ≤ d.toNat by omega)
          rw [Nat.add_mul, Nat.one_mul] at this
          omega
        · omega
      · intro h1
        rcases Nat.lt_trichotomy c.toNat d.toNat with h2 | h2 | h2
        · exact .inl h2
        · have e : c = d := UInt8.toNat.inj h2
          subst e
          exact .inr ⟨rfl, by omega⟩
        · have := Nat.mul_le_mul_right B (show d.toNat + 1 ≤ c.toNat by omega)
          rw [Nat.add_mul, Nat.one_mul] at this
          omega

theorem less_app (u : List UInt8) : ∀ v r t : List UInt8, u.length = v.length → Op.bytesLess (u ++ r) (v ++ t) = if u = v then Op.bytesLess r t else Op.bytesLess u v := by
  induction u with
  | nil => intro v r t h; cases v with | nil => simp | cons d v => simp at h
  | cons c u ih =>
    intro v r t h
    cases v with
    | nil => simp at h
    | cons d v =>
      have hl : u.length = v.length := by simpa using h
      rw [List.cons_append, List.cons_append, Op.bytesLess, Op.bytesLess, ih v r t hl]
      by_cases hcd : c = d
      · subst hcd
        by_cases huv : u = v
        · subst huv
          simp
        · simp [huv]
      · have h0 : (c == d) = false := by simpa using hcd
        simp [hcd, h0]

/-- the first place at which two lists differ says which one is less -/
def lexN : List Nat → List Nat → Bool
  | x :: xs, y :: ys => if x = y then lexN xs ys else decide (x < y)
  | _, _ => false

theorem less_encs (xs : List Nat) : ∀ ys : List Nat, xs.length = ys.length → (∀ x ∈ xs, x < 18446744073709551616) → (∀ y ∈ ys, y < 18446744073709551616) →
    Op.bytesLess (xs.flatMap (encW 8)) (ys.flatMap (encW 8)) = lexN xs ys := by
  induction xs with
  | nil => intro ys h _ _; cases ys with | nil => rfl | cons y ys => simp at h
  | cons x xs ih =>
    intro ys h hx hy
    cases ys with
    | nil => simp at h
    | cons y ys =>
      have hx0 := hx x (by simp)
      have hy0 := hy y (by simp)
      rw [List.flatMap_cons, List.flatMap_cons, less_app _ _ _ _ (by simp [encW_len]), ih ys (by simpa using h) (fun z hz => hx z (by simp [hz])) (fun z hz => hy z (by simp [hz])),
        less_num _ _ (by simp [encW_len]), numB_encW 8 x hx0, numB_encW 8 y hy0, lexN]
      by_cases e : x = y
      · subst e; simp
      · rw [if_neg e, if_neg]
        intro h2
        exact e (by rw [← numB_encW 8 x hx0, ← numB_encW 8 y hy0, h2])

theorem encs_inj {xs ys : List Nat} (hl : xs.length = ys.length) (hx : ∀ x ∈ xs, x < 18446744073709551616) (hy : ∀ y ∈ ys, y < 18446744073709551616) (h : xs.flatMap (encW 8) = ys.flatMap (encW 8)) : xs = ys := by
  apply List.ext_getElem hl
  intro j h1 h2
  have e1 := encs_seg xs j h1
  rw [h, encs_seg ys j h2] at e1
  rw [← numB_encW 8 xs[j] (hx _ (List.getElem_mem h1)), ← e1, numB_encW 8 _ (hy _ (List.getElem_mem h2))]
end Go.Proofs.Ytneihcoepacadaa
