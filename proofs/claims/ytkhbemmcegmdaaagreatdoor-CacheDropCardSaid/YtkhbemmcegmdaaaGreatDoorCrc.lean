/- PLAIN LAWS OF THE CRC-32: a register, bit by bit; no program in sight. -/
import Derived.Tactics
set_option linter.all false
namespace Go.Proofs.YtkhbemmcegmdaaaGreatDoor.Crc
def up (r : Nat) : Nat := r / 2 ^^^ (if r % 2 = 1 then 3988292384 else 0)
def inn (r c : Nat) : Nat := up (up (up (up (up (up (up (up (r ^^^ c))))))))
def goes (r : Nat) (l : List Nat) : Nat := l.foldl inn r

theorem xor_zero {a b : Nat} (h : a ^^^ b = 0) : a = b := by
  have := congrArg (· ^^^ b) h
  simpa [Nat.xor_assoc] using this
theorem up_lt {r : Nat} (h : r < 4294967296) : up r < 4294967296 := by
  unfold up
  exact Nat.xor_lt_two_pow (n := 32) (by omega) (by split <;> omega)
theorem up_zero : up 0 = 0 := rfl
theorem up_xor (a b : Nat) : up (a ^^^ b) = up a ^^^ up b := by
  unfold up
  rw [Nat.xor_div_two]
  have h : (a ^^^ b) % 2 = (a % 2) ^^^ (b % 2) := by
    have := Nat.xor_mod_two_pow (a := a) (b := b) (n := 1)
    simpa using this
  rw [h]
  rcases Nat.mod_two_eq_zero_or_one a with ha | ha <;> rcases Nat.mod_two_eq_zero_or_one b with hb | hb <;> simp only [ha, hb] <;> simp
  · ac_rfl
  · ac_rfl
  · rw [show a / 2 ^^^ 3988292384 ^^^ (b / 2 ^^^ 3988292384) = (a / 2 ^^^ b / 2) ^^^ (3988292384 ^^^ 3988292384) by ac_rfl]
    simp
theorem up_two (x : Nat) : up (2 * x) = x := by
  unfold up
  simp
theorem up_ne {r : Nat} (h : r < 4294967296) (h0 : r ≠ 0) : up r ≠ 0 := by
  unfold up
  intro e
  split at e
  · have : r / 2 = 3988292384 := xor_zero e
    omega
  · simp at e
    omega

/-- eight steps -/
def up8 (r : Nat) : Nat := up (up (up (up (up (up (up (up r)))))))
theorem up8_lt {r : Nat} (h : r < 4294967296) : up8 r < 4294967296 := up_lt (up_lt (up_lt (up_lt (up_lt (up_lt (up_lt (up_lt h)))))))
theorem up8_xor (a b : Nat) : up8 (a ^^^ b) = up8 a ^^^ up8 b := by simp only [up8, up_xor]
theorem up8_zero : up8 0 = 0 := rfl
theorem up8_ne {r : Nat} (h : r < 4294967296) (h0 : r ≠ 0) : up8 r ≠ 0 :=
  up_ne (up_lt (up_lt (up_lt (up_lt (up_lt (up_lt (up_lt h))))))) (up_ne (up_lt (up_lt (up_lt (up_lt (up_lt (up_lt h)))))) (up_ne (up_lt (up_lt (up_lt (up_lt (up_lt h))))) (up_ne (up_lt (up_lt (up_lt (up_lt h)))) (up_ne (up_lt (up_lt (up_lt h))) (up_ne (up_lt (up_lt h)) (up_ne (up_lt h) (up_ne h h0)))))))
theorem up8_256 (x : Nat) : up8 (256 * x) = x := by
  unfold up8
  rw [show 256 * x = 2 * (2 * (2 * (2 * (2 * (2 * (2 * (2 * x))))))) by omega]
  simp only [up_two]
theorem inn_eq (r c : Nat) : inn r c = up8 (r ^^^ c) := rfl
theorem inn_lt {r c : Nat} (h : r < 4294967296) (hc : c < 256) : inn r c < 4294967296 := up8_lt (Nat.xor_lt_two_pow (n := 32) (by omega) (by omega))
theorem goes_lt {l : List Nat} : ∀ {r : Nat}, r < 4294967296 → (∀ c ∈ l, c < 256) → goes r l < 4294967296 := by
  induction l with
  | nil => intro r h _; exact h
  | cons c l ih => intro r h hl; exact ih (inn_lt h (hl c (by simp))) (fun x hx => hl x (by simp [hx]))
theorem goes_append (r : Nat) (a b : List Nat) : goes r (a ++ b) = goes (goes r a) b := by simp [goes]

/-- two texts of one length, turned over by each other -/
def xl : List Nat → List Nat → List Nat
  | a :: x, b :: y => (a ^^^ b) :: xl x y
  | _, _ => []
theorem goes_xor : ∀ (x y : List Nat) (r s : Nat), x.length = y.length → goes (r ^^^ s) (xl x y) = goes r x ^^^ goes s y
  | [], [], r, s, _ => rfl
  | a :: x, b :: y, r, s, h => by
    have e : inn (r ^^^ s) (a ^^^ b) = inn r a ^^^ inn s b := by
      rw [inn_eq, inn_eq, inn_eq, ← up8_xor]
      congr 1
      ac_rfl
    show goes (inn (r ^^^ s) (a ^^^ b)) (xl x y) = _
    rw [e]
    exact goes_xor x y _ _ (by simpa using h)
theorem goes_zeros (n : Nat) : goes 0 (List.replicate n 0) = 0 := by
  induction n with
  | zero => rfl
  | succ n ih => rw [List.replicate_succ]; exact ih
theorem goes_ne (n : Nat) : ∀ {r : Nat}, r < 4294967296 → r ≠ 0 → goes r (List.replicate n 0) ≠ 0 := by
  induction n with
  | zero => intro r _ h; exact h
  | succ n ih =>
    intro r h h0
    rw [List.replicate_succ]
    show goes (inn r 0) _ ≠ 0
    have e : inn r 0 = up8 r := by rw [inn_eq]; simp
    rw [e]
    exact ih (up8_lt h) (up8_ne h h0)

/-- a number's four bytes -/
def le4 (n : Nat) : List Nat := [n % 256, n / 256 % 256, n / 65536 % 256, n / 16777216 % 256]
theorem le4_lt (n : Nat) : ∀ c ∈ le4 n, c < 256 := by
  intro c hc
  simp only [le4, List.mem_cons, List.not_mem_nil, or_false] at hc
  omega
def up32 (r : Nat) : Nat := up8 (up8 (up8 (up8 r)))
theorem up32_ne {r : Nat} (h : r < 4294967296) (h0 : r ≠ 0) : up32 r ≠ 0 := up8_ne (up8_lt (up8_lt (up8_lt h))) (up8_ne (up8_lt (up8_lt h)) (up8_ne (up8_lt h) (up8_ne h h0)))
theorem up32_xor (a b : Nat) : up32 (a ^^^ b) = up32 a ^^^ up32 b := by simp only [up32, up8_xor]
theorem up32_inj {a b : Nat} (ha : a < 4294967296) (hb : b < 4294967296) (h : up32 a = up32 b) : a = b := by
  have e : up32 (a ^^^ b) = 0 := by rw [up32_xor, h, Nat.xor_self]
  by_cases h0 : a ^^^ b = 0
  · exact xor_zero h0
  · exact absurd e (up32_ne (Nat.xor_lt_two_pow (n := 32) (by omega) (by omega)) h0)
theorem add_xor {a b : Nat} (k : Nat) (h : a < 2 ^ k) : a + 2 ^ k * b = a ^^^ (2 ^ k * b) := by
  have h1 := Nat.two_pow_add_eq_or_of_lt h b
  rw [Nat.add_comm, h1]
  apply Nat.eq_of_testBit_eq
  intro i
  rw [Nat.testBit_or, Nat.testBit_xor, Nat.testBit_two_pow_mul]
  by_cases hi : k ≤ i
  · have : a.testBit i = false := Nat.testBit_lt_two_pow (Nat.lt_of_lt_of_le h (Nat.pow_le_pow_right (by omega) hi))
    simp [this]
  · simp [hi]
/-- four bytes go in as one number does -/
theorem goes_le4 (r n : Nat) (h : n < 4294967296) : goes r (le4 n) = up32 (r ^^^ n) := by
  obtain ⟨a, ha⟩ : ∃ a, a = n % 256 := ⟨_, rfl⟩
  obtain ⟨b, hb⟩ : ∃ b, b = n / 256 % 256 := ⟨_, rfl⟩
  obtain ⟨c, hc⟩ : ∃ c, c = n / 65536 % 256 := ⟨_, rfl⟩
  obtain ⟨d, hd⟩ : ∃ d, d = n / 16777216 % 256 := ⟨_, rfl⟩
  have e3 : c + 256 * d = c ^^^ (256 * d) := add_xor 8 (by omega)
  have e2 : b + 256 * (c + 256 * d) = b ^^^ (256 * (c + 256 * d)) := add_xor 8 (by omega)
  have e1 : a + 256 * (b + 256 * (c + 256 * d)) = a ^^^ (256 * (b + 256 * (c + 256 * d))) := add_xor 8 (by omega)
  have en : n = a + 256 * (b + 256 * (c + 256 * d)) := by omega
  have f1 : up32 n = up8 (up8 (up8 (up8 a ^^^ b) ^^^ c) ^^^ d) := by
    rw [en, up32, e1, up8_xor, up8_256, e2, show up8 a ^^^ (b ^^^ 256 * (c + 256 * d)) = (up8 a ^^^ b) ^^^ (256 * (c + 256 * d)) by ac_rfl, up8_xor, up8_256, e3,
      show up8 (up8 a ^^^ b) ^^^ (c ^^^ 256 * d) = (up8 (up8 a ^^^ b) ^^^ c) ^^^ (256 * d) by ac_rfl, up8_xor, up8_256]
  rw [up32_xor, f1]
  show inn (inn (inn (inn r _) _) _) _ = _
  rw [← ha, ← hb, ← hc, ← hd]
  simp only [inn_eq, up8_xor, up32]
  ac_rfl
end Go.Proofs.YtkhbemmcegmdaaaGreatDoor.Crc
