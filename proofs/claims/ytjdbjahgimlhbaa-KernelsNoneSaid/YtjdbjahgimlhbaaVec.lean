/- THE PLAIN VECTOR: its rows in memory, and a contract of each of its calls. -/
import Derived.Test.YtjdbjahgimlhbaaBase
set_option linter.unusedVariables false
namespace Go.Proofs.Ytjdbjahgimlhbaa
open Go.RowKit

theorem u64_info : (Try.prog.info? 36).map (fun i => (i.zero, i.size, i.bytes)) = some (some (.int .u64 0), 1, 8) := by kernel_rfl

def u64v (x : Nat) : Value := .int .u64 (x : Int)

/-- p is a plain vector of the numbers xs, which lie in block g. -/
structure PlainAt (w : World) (p g : Nat) (xs : List Nat) : Prop where
  head : Blk w p 137 #[.bool true, .slice (some ⟨g, 0, none⟩) xs.length xs.length]
  row : Blk w g 36 (xs.map u64v).toArray
  len : xs.length ≤ 256
  lt : ∀ x ∈ xs, x < 18446744073709551616

section
variable {w w' : World} {p g : Nat} {xs : List Nat} {S : Nat → Prop}
theorem PlainAt.fr (h : PlainAt w p g xs) (hf : Fr S w w') (hp : ¬ S p) (hg : ¬ S g) : PlainAt w' p g xs := ⟨h.head.fr hf hp, h.row.fr hf hg, h.len, h.lt⟩
theorem PlainAt.ne (h : PlainAt w p g xs) : p ≠ g := h.head.ne_ h.row (by decide)
theorem PlainAt.cell0 (h : PlainAt w p g xs) : w.cell? ⟨p, 0, none⟩ = some (.bool true) := (h.head.cell 0).trans rfl
theorem PlainAt.cell1 (h : PlainAt w p g xs) : w.cell? ⟨p, 1, none⟩ = some (.slice (some ⟨g, 0, none⟩) xs.length xs.length) := (h.head.cell 1).trans rfl
theorem PlainAt.cellx (h : PlainAt w p g xs) {i : Nat} (hi : i < xs.length) : w.cell? ⟨g, i, none⟩ = some (.int .u64 (xs.getD i 0 : Nat)) := by
  rw [h.row.cell i]
  simp [hi, u64v]
theorem PlainAt.set_ (h : PlainAt w p g xs) {i y : Nat} (hy : y < 18446744073709551616) : PlainAt (w.setCell ⟨g, i, none⟩ (.int .u64 (y : Int))) p g (xs.set i y) := by
  refine ⟨?_, ?_, by simpa using h.len, ?_⟩
  · have := h.head.far (p := ⟨g, i, none⟩) h.ne (.int .u64 (y : Int))
    simpa using this
  · have := h.row.set_ i (.int .u64 (y : Int))
    simpa [List.map_set, u64v] using this
  · intro x hx
    rcases List.mem_or_eq_of_mem_set hx with h' | h'
    · exact h.lt x h'
    · omega
end

theorem at_in (p g i n c : Nat) (w : World) (hi : i < n)
   (h0 : w.cell? ⟨p, 0, none⟩ = some (.bool true)) (h1 : w.cell? ⟨p, 1, none⟩ = some (.slice (some ⟨g, 0, none⟩) n c)) :
   Calls Try.prog 56 #[.pointer (some ⟨p, 0, none⟩), .int .i64 i] w fun e w' => e = .returned (.tuple #[.pointer (some ⟨g, i, none⟩), .int .i64 0]) ∧ w = w' := by
  go_enter Try.func56, Try.ntmps56
  go_wp2
  go_ret2
  exact ⟨rfl, rfl⟩
theorem at_out (p g : Nat) (i : Int) (n c : Nat) (w : World) (hi : i < 0 ∨ (n : Int) ≤ i)
   (h0 : w.cell? ⟨p, 0, none⟩ = some (.bool true)) (h1 : w.cell? ⟨p, 1, none⟩ = some (.slice (some ⟨g, 0, none⟩) n c)) :
   Calls Try.prog 56 #[.pointer (some ⟨p, 0, none⟩), .int .i64 i] w fun e w' => e = .returned (.tuple #[.pointer none, .int .i64 2]) ∧ w = w' := by
  go_enter Try.func56, Try.ntmps56
  go_wp2
  all_goals go_ret2
  all_goals exact ⟨rfl, rfl⟩
theorem at_nil (i : Int) (w : World) :
   Calls Try.prog 56 #[.pointer none, .int .i64 i] w fun e w' => e = .returned (.tuple #[.pointer none, .int .i64 1]) ∧ w = w' := by
  go_enter Try.func56, Try.ntmps56
  go_wp2
  all_goals go_ret2
  all_goals exact ⟨rfl, rfl⟩
theorem at_unmade (p : Nat) (i : Int) (w : World) (h0 : w.cell? ⟨p, 0, none⟩ = some (.bool false)) :
   Calls Try.prog 56 #[.pointer (some ⟨p, 0, none⟩), .int .i64 i] w fun e w' => e = .returned (.tuple #[.pointer none, .int .i64 1]) ∧ w = w' := by
  go_enter Try.func56, Try.ntmps56
  go_wp2
  all_goals go_ret2
  all_goals exact ⟨rfl, rfl⟩

theorem get_in {p g : Nat} {xs : List Nat} {w : World} (h : PlainAt w p g xs) (i : Nat) (hi : i < xs.length) :
   Calls Try.prog 21 #[.pointer (some ⟨p, 0, none⟩), .int .i64 i] w fun e w' => e = .returned (.tuple #[.int .u64 (xs.getD i 0 : Nat), .int .i64 0]) ∧ w = w' := by
  have h0 := h.cell0
  have h1 := h.cell1
  have hx := h.cellx hi
  generalize ((xs.getD i 0 : Nat) : Int) = x at *
  generalize xs.length = n at *
  clear h
  go_enter Try.func21, Try.ntmps21
  go_wp2_with (go_at_call 56; refine (at_in p g i n n _ hi h0 h1).mono ?_; rintro e w' ⟨rfl, rfl⟩)
  go_ret2
  exact ⟨rfl, rfl⟩
theorem get_out {p g : Nat} {xs : List Nat} {w : World} (h : PlainAt w p g xs) (i : Int) (hi : i < 0 ∨ (xs.length : Int) ≤ i) :
   Calls Try.prog 21 #[.pointer (some ⟨p, 0, none⟩), .int .i64 i] w fun e w' => e = .returned (.tuple #[.int .u64 0, .int .i64 2]) ∧ w = w' := by
  have h0 := h.cell0
  have h1 := h.cell1
  generalize xs.length = n at *
  clear h
  go_enter Try.func21, Try.ntmps21
  go_wp2_with (go_at_call 56; refine (at_out p g i n n _ hi h0 h1).mono ?_; rintro e w' ⟨rfl, rfl⟩)
  go_ret2
  exact ⟨rfl, rfl⟩
theorem set_in {p g : Nat} {xs : List Nat} {w : World} (h : PlainAt w p g xs) (i y : Nat) (hi : i < xs.length) (hy : y < 18446744073709551616) :
   Calls Try.prog 24 #[.pointer (some ⟨p, 0, none⟩), .int .i64 i, .int .u64 y] w fun e w' => e = .returned (.int .i64 0) ∧ PlainAt w' p g (xs.set i y) ∧ Fr (fun k => k = g) w w' := by
  have h0 := h.cell0
  have h1 := h.cell1
  have hx := h.cellx hi
  have hf := h.row.frozen i
  have K : ∀ e w', (e = Ending.returned (.int .i64 0) ∧ w.setCell ⟨g, i, none⟩ (.int .u64 (y : Int)) = w') → (e = .returned (.int .i64 0) ∧ PlainAt w' p g (xs.set i y) ∧ Fr (fun k => k = g) w w') := by
    rintro e w' ⟨rfl, rfl⟩
    exact ⟨rfl, h.set_ hy, Fr.one _ _ _ _⟩
  refine Calls.mono ?_ K
  clear K
  generalize ((xs.getD i 0 : Nat) : Int) = x at *
  generalize xs.length = n at *
  clear h hy
  go_enter Try.func24, Try.ntmps24
  go_wp2_with (go_at_call 56; refine (at_in p g i n n _ hi h0 h1).mono ?_; rintro e w' ⟨rfl, rfl⟩)
  go_ret
  exact ⟨rfl, rfl⟩
theorem set_out {p g : Nat} {xs : List Nat} {w : World} (h : PlainAt w p g xs) (i : Int) (y : Int) (hi : i < 0 ∨ (xs.length : Int) ≤ i) :
   Calls Try.prog 24 #[.pointer (some ⟨p, 0, none⟩), .int .i64 i, .int .u64 y] w fun e w' => e = .returned (.int .i64 2) ∧ w = w' := by
  have h0 := h.cell0
  have h1 := h.cell1
  generalize xs.length = n at *
  clear h
  go_enter Try.func24, Try.ntmps24
  go_wp2_with (go_at_call 56; refine (at_out p g i n n _ hi h0 h1).mono ?_; rintro e w' ⟨rfl, rfl⟩)
  go_ret
  exact ⟨rfl, rfl⟩
theorem len_any {p g : Nat} {xs : List Nat} {w : World} (h : PlainAt w p g xs) :
   Calls Try.prog 61 #[.pointer (some ⟨p, 0, none⟩)] w fun e w' => e = .returned (.int .i64 xs.length) ∧ w = w' := by
  have h1 := h.cell1
  generalize xs.length = n at *
  clear h
  go_enter Try.func61, Try.ntmps61
  go_wp2
  go_ret
  exact ⟨rfl, rfl⟩
set_option maxRecDepth 100000 in
theorem new_ok (n : Nat) (w : World) (hn : n ≤ 256) :
   Calls Try.prog 52 #[.int .i64 n] w fun e w' => ∃ p g, e = .returned (.tuple #[.pointer (some ⟨p, 0, none⟩), .int .i64 0]) ∧ w.heap.size ≤ p ∧ w.heap.size ≤ g ∧ PlainAt w' p g (List.replicate n 0) ∧ Fr (fun _ => False) w w' := by
  obtain ⟨i0, hi, hz0, hz1, hz2⟩ := info_parts u64_info
  have hmk := fun W => run_make_rowN (P := Try.prog) 49 36 i0 _ Try.underlying49 hi hz0 .i64 .i64 n n (Nat.le_refl _) (by rw [hz2]; omega) (by omega) W
  rw [hz1] at hmk
  go_enter Try.func52, Try.ntmps52
  go_wp2
  go_ret2
  refine ⟨w.heap.size + 1, w.heap.size, rfl, by omega, by omega, ⟨?_, ?_, by simpa using hn, by intro x hx; have := List.eq_of_mem_replicate hx; omega⟩, ((Fr.refl _ _).alloc _).alloc _⟩
  · have := Blk.new (w.alloc (.cells (madeCells #[.int .u64 0] n) 36)) 137 #[.bool true, .slice (some ⟨w.heap.size, 0, none⟩) n n]
    simpa using this
  · have := (Blk.new w 36 (madeCells #[.int .u64 0] n)).alloc (.cells #[.bool true, .slice (some ⟨w.heap.size, 0, none⟩) n n] 137)
    rw [madeCells_one] at this ⊢
    simpa [u64v] using this
theorem new_out (n : Int) (w : World) (hn : n < 0 ∨ 256 < n) :
   Calls Try.prog 52 #[.int .i64 n] w fun e w' => e = .returned (.tuple #[.pointer none, .int .i64 2]) ∧ w = w' := by
  go_enter Try.func52, Try.ntmps52
  go_wp2
  all_goals go_ret2
  all_goals exact ⟨rfl, rfl⟩
/-- a vector that is none: nil, or one that New did not make -/
def NoneAt (w : World) (v : Value) : Prop := v = .pointer none ∨ ∃ p, v = .pointer (some ⟨p, 0, none⟩) ∧ w.cell? ⟨p, 0, none⟩ = some (.bool false) ∧ w.cell? ⟨p, 1, none⟩ = some (.slice none 0 0)
theorem get_none {v : Value} {w : World} (h : NoneAt w v) (i : Int) : Calls Try.prog 21 #[v, .int .i64 i] w fun e w' => e = .returned (.tuple #[.int .u64 0, .int .i64 1]) ∧ w = w' := by
  rcases h with rfl | ⟨p, rfl, h0, h1⟩
  · go_enter Try.func21, Try.ntmps21
    go_wp2_with (go_at_call 56; refine (at_nil _ _).mono ?_; rintro e w' ⟨rfl, rfl⟩)
    go_ret2
    exact ⟨rfl, rfl⟩
  · go_enter Try.func21, Try.ntmps21
    go_wp2_with (go_at_call 56; refine (at_unmade _ _ _ h0).mono ?_; rintro e w' ⟨rfl, rfl⟩)
    go_ret2
    exact ⟨rfl, rfl⟩
theorem set_none {v : Value} {w : World} (h : NoneAt w v) (i y : Int) : Calls Try.prog 24 #[v, .int .i64 i, .int .u64 y] w fun e w' => e = .returned (.int .i64 1) ∧ w = w' := by
  rcases h with rfl | ⟨p, rfl, h0, h1⟩
  · go_enter Try.func24, Try.ntmps24
    go_wp2_with (go_at_call 56; refine (at_nil _ _).mono ?_; rintro e w' ⟨rfl, rfl⟩)
    go_ret
    exact ⟨rfl, rfl⟩
  · go_enter Try.func24, Try.ntmps24
    go_wp2_with (go_at_call 56; refine (at_unmade _ _ _ h0).mono ?_; rintro e w' ⟨rfl, rfl⟩)
    go_ret
    exact ⟨rfl, rfl⟩
theorem len_none {v : Value} {w : World} (h : NoneAt w v) : Calls Try.prog 61 #[v] w fun e w' => e = .returned (.int .i64 0) ∧ w = w' := by
  rcases h with rfl | ⟨p, rfl, h0, h1⟩
  · go_enter Try.func61, Try.ntmps61
    go_wp2
    go_ret
    exact ⟨rfl, rfl⟩
  · go_enter Try.func61, Try.ntmps61
    go_wp2
    go_ret
    exact ⟨rfl, rfl⟩
end Go.Proofs.Ytjdbjahgimlhbaa
