/- PLAIN LAWS OF THE PAGES: what is encoded is decoded, what is split is joined; bursts are found. -/
import Derived.Test.YtghnjmgjokbopaaDoorPgJoin
set_option linter.unusedVariables false
namespace Go.Proofs.YtghnjmgjokbopaaDoor

theorem encB_len {d : List UInt8} (h : d.length ≤ 122) : (encB d).length = 128 := by
  unfold encB
  rw [List.length_append, bodyB_len h, sumB_len]
theorem many_enc {d : List UInt8} (h : d.length ≤ 122) : manyB (encB d) = d.length := by
  show 256 * (UInt8.ofNat (d.length / 256)).toNat + (UInt8.ofNat d.length).toNat = _
  simp
  omega
theorem dat_enc {d : List UInt8} (h : d.length ≤ 122) : datB (encB d) = d := by
  unfold datB
  rw [many_enc h]
  show ((d ++ List.replicate (122 - d.length) 0) ++ sumB (bodyB d)).take d.length = d
  rw [List.append_assoc, List.take_left]
theorem page_enc {d : List UInt8} (h : d.length ≤ 122) : pageB (encB d) = true := by
  rw [pageB_iff]
  exact ⟨encB_len h, by rw [many_enc h]; exact h, by rw [dat_enc h]⟩

theorem chunks_le (n : Nat) : ∀ D : List UInt8, D.length ≤ n → ∀ c ∈ chunks D, c.length ≤ 122 := by
  induction n with
  | zero => intro D h c hc; rw [chunks_short (by omega)] at hc; simp at hc; subst hc; omega
  | succ n ih =>
    intro D h c hc
    by_cases hl : 122 < D.length
    · rw [chunks_long hl] at hc
      rcases List.mem_cons.1 hc with rfl | hc
      · simp; omega
      · exact ih (D.drop 122) (by simp; omega) c hc
    · rw [chunks_short (by omega)] at hc
      simp at hc
      subst hc
      omega
theorem split_cons (D : List UInt8) : ∃ p L, splitB D = p :: L := by
  by_cases hl : 122 < D.length
  · exact ⟨_, _, splitB_long hl⟩
  · exact ⟨_, _, splitB_short (by omega)⟩
theorem flat_split (n : Nat) : ∀ D : List UInt8, D.length ≤ n → flatB (splitB D) = D := by
  induction n with
  | zero => intro D h; rw [splitB_short (by omega)]; simp [flatB, dat_enc (d := D) (by omega)]
  | succ n ih =>
    intro D h
    by_cases hl : 122 < D.length
    · rw [splitB_long hl]
      show datB (encB (D.take 122)) ++ flatB (splitB (D.drop 122)) = D
      rw [dat_enc (by simp; omega), ih (D.drop 122) (by simp; omega), List.take_append_drop]
    · rw [splitB_short (by omega)]
      simp [flatB, dat_enc (d := D) (by omega)]
theorem split_ok (n : Nat) : ∀ (D : List UInt8) (first : Bool), D.length ≤ n → (first = true ∨ D ≠ []) → jOk first (splitB D) = true := by
  induction n with
  | zero =>
    intro D first h h0
    rw [splitB_short (by omega)]
    have hd : D = [] := List.eq_nil_of_length_eq_zero (by omega)
    rcases h0 with rfl | h0
    · simp [jOk, page_enc (d := D) (by omega)]
    · exact absurd hd h0
  | succ n ih =>
    intro D first h h0
    by_cases hl : 122 < D.length
    · rw [splitB_long hl]
      have h1 : (D.take 122).length = 122 := by simp; omega
      have hr := ih (D.drop 122) false (by simp; omega) (.inr (by intro e; have := congrArg List.length e; simp at this; omega))
      have hne : (D.take 122).isEmpty = false := by cases he : D.take 122 with | nil => rw [he] at h1; simp at h1 | cons _ _ => rfl
      simp [jOk, page_enc (Nat.le_of_eq h1), dat_enc (Nat.le_of_eq h1), h1, hr, hne]
    · rw [splitB_short (by omega)]
      rcases h0 with rfl | h0
      · simp [jOk, page_enc (d := D) (by omega)]
      · simp [jOk, page_enc (d := D) (by omega), dat_enc (d := D) (by omega), h0]
theorem join_split (D : List UInt8) : joinB (splitB D) = true := by
  obtain ⟨p, L, e⟩ := split_cons D
  have := split_ok _ D true (Nat.le_refl _) (.inl rfl)
  unfold joinB
  rw [this, e]
  rfl
theorem jOk_chunks : ∀ (L : List (List UInt8)) (first : Bool), L ≠ [] → jOk first L = true → (∀ p ∈ L, pageB p = true) ∧ (first = true ∨ flatB L ≠ []) ∧ chunks (flatB L) = L.map datB
  | [], _, h, _ => absurd rfl h
  | [p], first, _, h => by
    simp only [jOk, List.isEmpty_nil, Bool.true_or, Bool.true_and, Bool.and_true, Bool.and_eq_true, Bool.or_eq_true, Bool.not_eq_true'] at h
    have hf : flatB [p] = datB p := by simp [flatB]
    refine ⟨by simpa using h.1, ?_, ?_⟩
    · rw [hf]
      rcases h.2 with h2 | h2
      · exact .inl h2
      · exact .inr (by intro e; rw [e] at h2; simp at h2)
    · rw [hf, chunks_short (datB_le p h.1)]; rfl
  | p :: q :: R, first, _, h => by
    have h' : (pageB p = true ∧ 122 ≤ (datB p).length ∧ (first = true ∨ (datB p).isEmpty = false)) ∧ jOk false (q :: R) = true := by
      have := h
      simp only [jOk, List.isEmpty_cons, Bool.false_or, Bool.and_eq_true, Bool.or_eq_true, Bool.not_eq_true', decide_eq_true_eq] at this ⊢
      exact ⟨⟨this.1.1, this.1.2.1, this.1.2.2⟩, this.2⟩
    obtain ⟨⟨h1, h2, h3⟩, h4⟩ := h'
    obtain ⟨i1, i2, i3⟩ := jOk_chunks (q :: R) false (by simp) h4
    have h5 : (datB p).length = 122 := by have := datB_le p h1; omega
    have hf : flatB (p :: q :: R) = datB p ++ flatB (q :: R) := rfl
    have hne : flatB (q :: R) ≠ [] := i2.resolve_left (by simp)
    have hpos := List.length_pos_iff.2 hne
    refine ⟨by intro x hx; rcases List.mem_cons.1 hx with rfl | hx; exact h1; exact i1 x hx, .inr (by rw [hf]; simp [hne]), ?_⟩
    rw [hf, chunks_long (by simp; omega), List.take_left' h5, List.drop_left' h5, i3]
    rfl
theorem join_iff (L : List (List UInt8)) : joinB L = true ↔ ((∀ p ∈ L, pageB p = true) ∧ splitB (flatB L) = L) := by
  constructor
  · intro h
    unfold joinB at h
    simp only [Bool.and_eq_true, Bool.not_eq_true', List.isEmpty_eq_false_iff] at h
    obtain ⟨h1, _, h3⟩ := jOk_chunks L true h.1 h.2
    refine ⟨h1, ?_⟩
    rw [splitB, h3, List.map_map]
    conv => rhs; rw [← List.map_id L]
    apply List.map_congr_left
    intro p hp
    exact ((pageB_iff p).1 (h1 p hp)).2.2
  · rintro ⟨_, h⟩
    rw [← h]
    exact join_split _
theorem chunks_len (n : Nat) : ∀ D : List UInt8, D.length ≤ n → (chunks D).length = max ((D.length + 121) / 122) 1 := by
  induction n with
  | zero => intro D h; rw [chunks_short (by omega)]; simp; omega
  | succ n ih =>
    intro D h
    by_cases hl : 122 < D.length
    · rw [chunks_long hl]
      have := ih (D.drop 122) (by simp; omega)
      simp at this ⊢
      omega
    · rw [chunks_short (by omega)]
      simp
      omega

/-! bursts -/
theorem sum_reg (l : List UInt8) : sumB l = le4b (4294967295 ^^^ Crc.goes 4294967295 (l.map UInt8.toNat)) := rfl
theorem le4b_nat (n : Nat) : (le4b n).map UInt8.toNat = Crc.le4 n := by simp [le4b, Crc.le4]
theorem nat_lt (l : List UInt8) : ∀ c ∈ l.map UInt8.toNat, c < 256 := by
  intro c hc
  obtain ⟨x, _, rfl⟩ := List.mem_map.1 hc
  exact x.toNat_lt
/-- behind its sum every text leaves the register at one number -/
theorem goes_valid (l : List UInt8) : Crc.goes 4294967295 ((l ++ sumB l).map UInt8.toNat) = Crc.up32 4294967295 := by
  have hr := Crc.goes_lt (r := 4294967295) (by omega) (nat_lt l)
  rw [List.map_append, Crc.goes_append, sum_reg, le4b_nat, Crc.goes_le4 _ _ (Nat.xor_lt_two_pow (n := 32) (by omega) (by omega))]
  congr 1
  generalize Crc.goes 4294967295 (l.map UInt8.toNat) = r
  rw [show r ^^^ (4294967295 ^^^ r) = (r ^^^ r) ^^^ 4294967295 by ac_rfl, Nat.xor_self, Nat.zero_xor]
def xorB : List UInt8 → List UInt8 → List UInt8
  | a :: x, b :: y => (a ^^^ b) :: xorB x y
  | _, _ => []
theorem xorB_nat : ∀ (x y : List UInt8), (xorB x y).map UInt8.toNat = Crc.xl (x.map UInt8.toNat) (y.map UInt8.toNat)
  | [], _ => by simp [xorB, Crc.xl]
  | _ :: _, [] => by simp [xorB, Crc.xl]
  | a :: x, b :: y => by
    simp only [xorB, List.map_cons, Crc.xl]
    rw [xorB_nat x y]
    congr 1
theorem map_zeros (n : Nat) : (List.replicate n (0 : UInt8)).map UInt8.toNat = List.replicate n 0 := by simp
/-- a page of which some bits within four bytes, side by side, are turned over is none -/
theorem burst (p : List UInt8) (k n : Nat) (hp : pageB p = true) (hk : k ≤ 124) (hn : n < 4294967296) (h0 : n ≠ 0) :
    pageB (xorB p (List.replicate k 0 ++ le4b n ++ List.replicate (124 - k) 0)) = false := by
  have hpl := ((pageB_iff p).1 hp).1
  rw [Bool.eq_false_iff]
  intro hq
  have key : ∀ q : List UInt8, pageB q = true → Crc.goes 4294967295 (q.map UInt8.toNat) = Crc.up32 4294967295 := by
    intro q hq
    obtain ⟨_, _, e⟩ := (pageB_iff q).1 hq
    rw [← e]
    exact goes_valid _
  have e1 := key _ hq
  have e2 := key _ hp
  rw [xorB_nat] at e1
  have e3 := Crc.goes_xor (p.map UInt8.toNat) ((List.replicate k 0 ++ le4b n ++ List.replicate (124 - k) 0).map UInt8.toNat) 4294967295 0 (by simp [hpl, le4b]; omega)
  rw [Nat.xor_zero, e1, e2] at e3
  have e4 : Crc.goes 0 ((List.replicate k (0 : UInt8) ++ le4b n ++ List.replicate (124 - k) 0).map UInt8.toNat) ≠ 0 := by
    rw [List.map_append, List.map_append, map_zeros, map_zeros, Crc.goes_append, Crc.goes_append, Crc.goes_zeros, le4b_nat, Crc.goes_le4 _ _ hn, Nat.zero_xor]
    exact Crc.goes_ne _ (Crc.up8_lt (Crc.up8_lt (Crc.up8_lt (Crc.up8_lt hn)))) (Crc.up32_ne hn h0)
  apply e4
  generalize Crc.goes 0 ((List.replicate k (0 : UInt8) ++ le4b n ++ List.replicate (124 - k) 0).map UInt8.toNat) = g at *
  generalize Crc.up32 4294967295 = u at *
  have h := congrArg (u ^^^ ·) e3
  simp only [Nat.xor_self, ← Nat.xor_assoc, Nat.zero_xor] at h
  exact h.symm
end Go.Proofs.YtghnjmgjokbopaaDoor
