/- Parts of the proof of several laws: no conditions of their own. -/
import Derived.Test.YtkhbemmcegmdaaaGreatDoorWhPk0
import Derived.Test.YtkhbemmcegmdaaaGreatDoorWhPk6
import Derived.Laws.CopyOwn
section
set_option linter.unusedVariables false
namespace Go.Proofs.YtkhbemmcegmdaaaGreatDoor
open Go.RowKit

theorem u64_info : (Tryz.prog.info? 78).map (fun i => (i.zero, i.size, i.bytes)) = some (some (.int .u64 0), 1, 8) := by kernel_rfl

def u64v (x : Nat) : Value := .int .u64 (x : Int)

/-- p is a plain vector of the numbers xs, which lie in block g. -/
structure PlainAt (w : World) (p g : Nat) (xs : List Nat) : Prop where
  head : Blk w p 158 #[.bool true, .slice (some ⟨g, 0, none⟩) xs.length xs.length]
  row : Blk w g 78 (xs.map u64v).toArray
  len : xs.length ≤ 256
  lt : ∀ x ∈ xs, x < 18446744073709551616

section
variable {w w' : World} {p g : Nat} {xs : List Nat} {S : Nat → Prop}
theorem PlainAt.fr (h : PlainAt w p g xs) (hf : Fr S w w') (hp : ¬ S p) (hg : ¬ S g) : PlainAt w' p g xs := ⟨h.head.fr hf hp, h.row.fr hf hg, h.len, h.lt⟩
theorem PlainAt.ne (h : PlainAt w p g xs) : p ≠ g := h.head.ne_ h.row (by decide)
theorem PlainAt.cell0 (h : PlainAt w p g xs) : w.cell? ⟨p, 0, none⟩ = some (.bool true) := (h.head.cell 0).trans rfl
theorem PlainAt.cell1 (h : PlainAt w p g xs) : w.cell? ⟨p, 1, none⟩ = some (.slice (some ⟨g, 0, none⟩) xs.length xs.length) := (h.head.cell 1).trans rfl
theorem PlainAt.cellx (h : PlainAt w p g xs) {i : Nat} (hi : i < xs.length) : w.cell? ⟨g, i, none⟩ = some (.int .u64 (xs.getD i 0 : Nat)) := by
  rw [h.row.cell i]
  simp [hi, u64v]
theorem PlainAt.set_ (h : PlainAt w p g xs) {i y : Nat} (hy : y < 18446744073709551616) : PlainAt (w.setCell ⟨g, i, none⟩ (.int .u64 (y : Int))) p g (xs.set i y) := by
  refine ⟨?_, ?_, by simpa using h.len, ?_⟩
  · have := h.head.far (p := ⟨g, i, none⟩) h.ne (.int .u64 (y : Int))
    simpa using this
  · have := h.row.set_ i (.int .u64 (y : Int))
    simpa [List.map_set, u64v] using this
  · intro x hx
    rcases List.mem_or_eq_of_mem_set hx with h' | h'
    · exact h.lt x h'
    · omega
end

theorem at_in (p g i n c : Nat) (w : World) (hi : i < n)
   (h0 : w.cell? ⟨p, 0, none⟩ = some (.bool true)) (h1 : w.cell? ⟨p, 1, none⟩ = some (.slice (some ⟨g, 0, none⟩) n c)) :
   Calls Tryz.prog 94 #[.pointer (some ⟨p, 0, none⟩), .int .i64 i] w fun e w' => e = .returned (.tuple #[.pointer (some ⟨g, i, none⟩), .int .i64 0]) ∧ w = w' := by
  go_enter Tryz.func94, Tryz.ntmps94
  go_wp2
  go_ret2
  exact ⟨rfl, rfl⟩
theorem at_out (p g : Nat) (i : Int) (n c : Nat) (w : World) (hi : i < 0 ∨ (n : Int) ≤ i)
   (h0 : w.cell? ⟨p, 0, none⟩ = some (.bool true)) (h1 : w.cell? ⟨p, 1, none⟩ = some (.slice (some ⟨g, 0, none⟩) n c)) :
   Calls Tryz.prog 94 #[.pointer (some ⟨p, 0, none⟩), .int .i64 i] w fun e w' => e = .returned (.tuple #[.pointer none, .int .i64 2]) ∧ w = w' := by
  go_enter Tryz.func94, Tryz.ntmps94
  go_wp2
  all_goals go_ret2
  all_goals exact ⟨rfl, rfl⟩
theorem at_nil (i : Int) (w : World) :
   Calls Tryz.prog 94 #[.pointer none, .int .i64 i] w fun e w' => e = .returned (.tuple #[.pointer none, .int .i64 1]) ∧ w = w' := by
  go_enter Tryz.func94, Tryz.ntmps94
  go_wp2
  all_goals go_ret2
  all_goals exact ⟨rfl, rfl⟩
theorem at_unmade (p : Nat) (i : Int) (w : World) (h0 : w.cell? ⟨p, 0, none⟩ = some (.bool false)) :
   Calls Tryz.prog 94 #[.pointer (some ⟨p, 0, none⟩), .int .i64 i] w fun e w' => e = .returned (.tuple #[.pointer none, .int .i64 1]) ∧ w = w' := by
  go_enter Tryz.func94, Tryz.ntmps94
  go_wp2
  all_goals go_ret2
  all_goals exact ⟨rfl, rfl⟩

theorem get_in {p g : Nat} {xs : List Nat} {w : World} (h : PlainAt w p g xs) (i : Nat) (hi : i < xs.length) :
   Calls Tryz.prog 54 #[.pointer (some ⟨p, 0, none⟩), .int .i64 i] w fun e w' => e = .returned (.tuple #[.int .u64 (xs.getD i 0 : Nat), .int .i64 0]) ∧ w = w' := by
  have h0 := h.cell0
  have h1 := h.cell1
  have hx := h.cellx hi
  generalize ((xs.getD i 0 : Nat) : Int) = x at *
  generalize xs.length = n at *
  clear h
  go_enter Tryz.func54, Tryz.ntmps54
  go_wp2_with (go_at_call 94; refine (at_in p g i n n _ hi h0 h1).mono ?_; rintro e w' ⟨rfl, rfl⟩)
  go_ret2
  exact ⟨rfl, rfl⟩
theorem get_out {p g : Nat} {xs : List Nat} {w : World} (h : PlainAt w p g xs) (i : Int) (hi : i < 0 ∨ (xs.length : Int) ≤ i) :
   Calls Tryz.prog 54 #[.pointer (some ⟨p, 0, none⟩), .int .i64 i] w fun e w' => e = .returned (.tuple #[.int .u64 0, .int .i64 2]) ∧ w = w' := by
  have h0 := h.cell0
  have h1 := h.cell1
  generalize xs.length = n at *
  clear h
  go_enter Tryz.func54, Tryz.ntmps54
  go_wp2_with (go_at_call 94; refine (at_out p g i n n _ hi h0 h1).mono ?_; rintro e w' ⟨rfl, rfl⟩)
  go_ret2
  exact ⟨rfl, rfl⟩
theorem set_in {p g : Nat} {xs : List Nat} {w : World} (h : PlainAt w p g xs) (i y : Nat) (hi : i < xs.length) (hy : y < 18446744073709551616) :
   Calls Tryz.prog 93 #[.pointer (some ⟨p, 0, none⟩), .int .i64 i, .int .u64 y] w fun e w' => e = .returned (.int .i64 0) ∧ PlainAt w' p g (xs.set i y) ∧ Fr (fun k => k = g) w w' := by
  have h0 := h.cell0
  have h1 := h.cell1
  have hx := h.cellx hi
  have hf := h.row.frozen i
  have K : ∀ e w', (e = Ending.returned (.int .i64 0) ∧ w.setCell ⟨g, i, none⟩ (.int .u64 (y : Int)) = w') → (e = .returned (.int .i64 0) ∧ PlainAt w' p g (xs.set i y) ∧ Fr (fun k => k = g) w w') := by
    rintro e w' ⟨rfl, rfl⟩
    exact ⟨rfl, h.set_ hy, Fr.one _ _ _ _⟩
  refine Calls.mono ?_ K
  clear K
  generalize ((xs.getD i 0 : Nat) : Int) = x at *
  generalize xs.length = n at *
  clear h hy
  go_enter Tryz.func93, Tryz.ntmps93
  go_wp2_with (go_at_call 94; refine (at_in p g i n n _ hi h0 h1).mono ?_; rintro e w' ⟨rfl, rfl⟩)
  go_ret
  exact ⟨rfl, rfl⟩
theorem set_out {p g : Nat} {xs : List Nat} {w : World} (h : PlainAt w p g xs) (i : Int) (y : Int) (hi : i < 0 ∨ (xs.length : Int) ≤ i) :
   Calls Tryz.prog 93 #[.pointer (some ⟨p, 0, none⟩), .int .i64 i, .int .u64 y] w fun e w' => e = .returned (.int .i64 2) ∧ w = w' := by
  have h0 := h.cell0
  have h1 := h.cell1
  generalize xs.length = n at *
  clear h
  go_enter Tryz.func93, Tryz.ntmps93
  go_wp2_with (go_at_call 94; refine (at_out p g i n n _ hi h0 h1).mono ?_; rintro e w' ⟨rfl, rfl⟩)
  go_ret
  exact ⟨rfl, rfl⟩
theorem len_any {p g : Nat} {xs : List Nat} {w : World} (h : PlainAt w p g xs) :
   Calls Tryz.prog 236 #[.pointer (some ⟨p, 0, none⟩)] w fun e w' => e = .returned (.int .i64 xs.length) ∧ w = w' := by
  have h1 := h.cell1
  generalize xs.length = n at *
  clear h
  go_enter Tryz.func236, Tryz.ntmps236
  go_wp2
  go_ret
  exact ⟨rfl, rfl⟩
set_option maxRecDepth 100000 in
theorem new_ok (n : Nat) (w : World) (hn : n ≤ 256) :
   Calls Tryz.prog 51 #[.int .i64 n] w fun e w' => ∃ p g, e = .returned (.tuple #[.pointer (some ⟨p, 0, none⟩), .int .i64 0]) ∧ w.heap.size ≤ p ∧ w.heap.size ≤ g ∧ PlainAt w' p g (List.replicate n 0) ∧ Fr (fun _ => False) w w' := by
  obtain ⟨i0, hi, hz0, hz1, hz2⟩ := info_parts u64_info
  have hmk := fun W => run_make_rowN (P := Tryz.prog) 152 78 i0 _ Tryz.underlying152 hi hz0 .i64 .i64 n n (Nat.le_refl _) (by rw [hz2]; omega) (by omega) W
  rw [hz1] at hmk
  go_enter Tryz.func51, Tryz.ntmps51
  go_wp2
  go_ret2
  refine ⟨w.heap.size + 1, w.heap.size, rfl, by omega, by omega, ⟨?_, ?_, by simpa using hn, by intro x hx; have := List.eq_of_mem_replicate hx; omega⟩, ((Fr.refl _ _).alloc _).alloc _⟩
  · have := Blk.new (w.alloc (.cells (madeCells #[.int .u64 0] n) 78)) 158 #[.bool true, .slice (some ⟨w.heap.size, 0, none⟩) n n]
    simpa using this
  · have := (Blk.new w 78 (madeCells #[.int .u64 0] n)).alloc (.cells #[.bool true, .slice (some ⟨w.heap.size, 0, none⟩) n n] 158)
    rw [madeCells_one] at this ⊢
    simpa [u64v] using this
theorem new_out (n : Int) (w : World) (hn : n < 0 ∨ 256 < n) :
   Calls Tryz.prog 51 #[.int .i64 n] w fun e w' => e = .returned (.tuple #[.pointer none, .int .i64 2]) ∧ w = w' := by
  go_enter Tryz.func51, Tryz.ntmps51
  go_wp2
  all_goals go_ret2
  all_goals exact ⟨rfl, rfl⟩
/-- a vector that is none: nil, or one that New did not make -/
def NoneAt (w : World) (v : Value) : Prop := v = .pointer none ∨ ∃ p, v = .pointer (some ⟨p, 0, none⟩) ∧ w.cell? ⟨p, 0, none⟩ = some (.bool false) ∧ w.cell? ⟨p, 1, none⟩ = some (.slice none 0 0)
theorem get_none {v : Value} {w : World} (h : NoneAt w v) (i : Int) : Calls Tryz.prog 54 #[v, .int .i64 i] w fun e w' => e = .returned (.tuple #[.int .u64 0, .int .i64 1]) ∧ w = w' := by
  rcases h with rfl | ⟨p, rfl, h0, h1⟩
  · go_enter Tryz.func54, Tryz.ntmps54
    go_wp2_with (go_at_call 94; refine (at_nil _ _).mono ?_; rintro e w' ⟨rfl, rfl⟩)
    go_ret2
    exact ⟨rfl, rfl⟩
  · go_enter Tryz.func54, Tryz.ntmps54
    go_wp2_with (go_at_call 94; refine (at_unmade _ _ _ h0).mono ?_; rintro e w' ⟨rfl, rfl⟩)
    go_ret2
    exact ⟨rfl, rfl⟩
theorem set_none {v : Value} {w : World} (h : NoneAt w v) (i y : Int) : Calls Tryz.prog 93 #[v, .int .i64 i, .int .u64 y] w fun e w' => e = .returned (.int .i64 1) ∧ w = w' := by
  rcases h with rfl | ⟨p, rfl, h0, h1⟩
  · go_enter Tryz.func93, Tryz.ntmps93
    go_wp2_with (go_at_call 94; refine (at_nil _ _).mono ?_; rintro e w' ⟨rfl, rfl⟩)
    go_ret
    exact ⟨rfl, rfl⟩
  · go_enter Tryz.func93, Tryz.ntmps93
    go_wp2_with (go_at_call 94; refine (at_unmade _ _ _ h0).mono ?_; rintro e w' ⟨rfl, rfl⟩)
    go_ret
    exact ⟨rfl, rfl⟩
theorem len_none {v : Value} {w : World} (h : NoneAt w v) : Calls Tryz.prog 236 #[v] w fun e w' => e = .returned (.int .i64 0) ∧ w = w' := by
  rcases h with rfl | ⟨p, rfl, h0, h1⟩
  · go_enter Tryz.func236, Tryz.ntmps236
    go_wp2
    go_ret
    exact ⟨rfl, rfl⟩
  · go_enter Tryz.func236, Tryz.ntmps236
    go_wp2
    go_ret
    exact ⟨rfl, rfl⟩
end Go.Proofs.YtkhbemmcegmdaaaGreatDoor
end
section
set_option linter.unusedVariables false
namespace Go.Proofs.YtkhbemmcegmdaaaGreatDoor
open Go.RowKit

theorem fill_any {p g : Nat} {xs : List Nat} {w : World} (h : PlainAt w p g xs) (y : Nat) (hy : y < 18446744073709551616) :
   Calls Tryz.prog 92 #[.pointer (some ⟨p, 0, none⟩), .int .u64 y] w fun e w' => e = .returned (.int .i64 0) ∧ PlainAt w' p g (List.replicate xs.length y) ∧ Fr (fun k => k = g) w w' := by
  have h0 := h.cell0
  have h1 := h.cell1
  have hl := h.len
  go_enter Tryz.func92, Tryz.ntmps92
  go_wp2
  go_loopw [20] (fun i wr => ∃ k : Nat, k ≤ xs.length ∧ i = .int .i64 k ∧ PlainAt wr p g (List.replicate k y ++ xs.drop k) ∧ Fr (fun k => k = g) w wr) (fun i _ => xs.length - (intOf i).toNat)
  case atStart => exact ⟨0, by omega, rfl, by simpa using h, Fr.refl _ _⟩
  case round =>
    obtain ⟨k, hk, rfl, hp, hfr⟩ := hrel
    have c0 := hp.cell0
    have c1 := hp.cell1
    rw [show (List.replicate k y ++ xs.drop k).length = xs.length by simp; omega] at c1
    have cx : k < xs.length → ∃ v, wr.cell? ⟨g, k, none⟩ = some v := fun hlt => ⟨_, hp.cellx (by simp; omega)⟩
    have cf := hp.row.frozen k
    by_cases hlt : k < xs.length
    · obtain ⟨v, hv⟩ := cx hlt
      have hset := hp.set_ (i := k) hy
      have e : (List.replicate k y ++ xs.drop k).set k y = List.replicate (k + 1) y ++ xs.drop (k + 1) := by
        rw [List.set_append_right _ _ (by simp)]
        simp only [List.length_replicate, Nat.sub_self]
        rw [List.drop_eq_getElem_cons hlt, List.set_cons_zero, List.replicate_succ', List.append_assoc]; rfl
      rw [e] at hset
      have HS := hide hset
      have HF := hide hfr
      clear hset hfr e h0 h1 h hp
      go_wp2
      go_roundw
      case rel => exact ⟨k + 1, by omega, by go_num, HS.out, HF.out.setCell (p := ⟨g, k, none⟩) (.inl rfl) _⟩
      case measure => simp [intOf]; omega
    · have hke : k = xs.length := by omega
      have HS := hide hp
      have HF := hide hfr
      have HK := hide hke
      clear hp hfr hke h0 h1 h cx
      go_wp2
      go_ret
      refine ⟨rfl, ?_, HF.out⟩
      have := HS.out
      rw [HK.out] at this
      simpa using this
theorem fill_none {v : Value} {w : World} (h : NoneAt w v) (y : Int) : Calls Tryz.prog 92 #[v, .int .u64 y] w fun e w' => e = .returned (.int .i64 1) ∧ w = w' := by
  rcases h with rfl | ⟨p, rfl, h0, h1⟩
  · go_enter Tryz.func92, Tryz.ntmps92
    go_wp2
    go_ret
    exact ⟨rfl, rfl⟩
  · go_enter Tryz.func92, Tryz.ntmps92
    go_wp2
    go_ret
    exact ⟨rfl, rfl⟩
end Go.Proofs.YtkhbemmcegmdaaaGreatDoor
end
section
set_option linter.all false
set_option linter.unusedVariables false
set_option maxRecDepth 100000
namespace Go.Proofs.YtkhbemmcegmdaaaGreatDoor
open Go.RowKit

theorem u8_infv : (Tryz.prog.info? 5).map (fun i => (i.zero, i.size, i.bytes)) = some (some (.int .u8 0), 1, 1) := by kernel_rfl

theorem enc_step {m x : Nat} {bs full : List UInt8} (h0 : 0 < m) (h : bs ++ encW m x = full) : (bs ++ [UInt8.ofNat (x / 256 ^ (m - 1))]) ++ encW (m - 1) x = full := by
  obtain ⟨k, rfl⟩ : ∃ k, m = k + 1 := ⟨m - 1, by omega⟩
  rw [encW_left] at h
  simpa using h

theorem pad_lo {xs : List Nat} {k m : Nat} (h : k < xs.length) : (xs ++ List.replicate m 0).getD k 0 = xs.getD k 0 := by
  simp [List.getD, List.getElem?_append_left h]
theorem pad_hi {xs : List Nat} {k m : Nat} (h : xs.length ≤ k) : (xs ++ List.replicate m 0).getD k 0 = 0 := by
  simp only [List.getD, List.getElem?_append_right h, List.getElem?_replicate]
  split <;> rfl

def u8v (c : UInt8) : Value := .int .u8 (c.toNat : Int)

theorem enc_digit (x k : Nat) : u8v (UInt8.ofNat (x / 256 ^ k)) = .int .u8 ((x : Int) / 2 ^ (8 * k) % 256) := by
  unfold u8v
  congr 1
  rw [Int.pow_mul]
  simp

theorem own_bytes {w : World} {base n : Nat} {v : Value} {l : List UInt8} (h : w.ownsRow base 5 1 v n (l.map u8v)) (h0 : 0 < n) :
    ∃ g cap, v = .slice (some ⟨g, 0, none⟩) n cap ∧ ∀ j (hj : j < l.length), w.cell? ((⟨g, 0, none⟩ : Addr).add j) = some (.int .u8 (l[j].toNat : Int)) := by
  rcases h.2 with ⟨_, h1⟩ | ⟨g, cap, cur, rfl, _, hh, _, _, _, ht⟩
  · omega
  · refine ⟨g, cap, rfl, fun j hj => ?_⟩
    exact h.cells (g := g) rfl j _ (by simp [hj, u8v])

/-- how many segments n numbers take -/
def cnt (n : Int) : Int := if n < 1 then 0 else (n - 1) / 8 + 1
theorem count_any (n : Int) (w : World) (h0 : -9223372036854775808 ≤ n) (h1 : n ≤ 9223372036854775807) : Calls Tryz.prog 53 #[.int .i64 n] w fun e w' => e = .returned (.int .i64 (cnt n)) ∧ w = w' := by
  unfold cnt
  go_enter Tryz.func53, Tryz.ntmps53
  go_wp2
  all_goals (go_ret; exact ⟨rfl, rfl⟩)


theorem encode_long (A : Option Addr) (n c : Nat) (w : World) (hn : 8 < n) :
    Calls Tryz.prog 194 #[.slice A n c] w fun e w' => e = .returned (.tuple #[.string ⟨#[]⟩, .int .i64 3]) ∧ w = w' := by
  go_enter Tryz.func194, Tryz.ntmps194
  go_wp2
  go_ret2
  exact ⟨rfl, rfl⟩
theorem encode_any (A : Option Addr) (n c : Nat) (xs : List Nat) (w : World) (hr : Reads w w.heap.size 1 A n (xs.map u64v)) (hn : n ≤ 8) :
    Calls Tryz.prog 194 #[.slice A n c] w fun e w' => e = .returned (.tuple #[.string ⟨((xs ++ List.replicate (8 - n) 0).flatMap (encW 8)).toArray⟩, .int .i64 0]) ∧ Fr (fun _ => False) w w' := by
  obtain ⟨ys, hys⟩ : ∃ ys, ys = xs ++ List.replicate (8 - n) 0 := ⟨_, rfl⟩
  have HY := hide hys
  have hl : ys.length = 8 := by have := hr.1; simp at this; simp [hys, this]; omega
  rw [← hys]
  clear hys
  obtain ⟨cs, hcs⟩ : ∃ cs, cs = xs.map u64v := ⟨_, rfl⟩
  rw [← hcs] at hr
  have HC := hide hcs
  clear hcs
  obtain ⟨i64, hi64, hz640, hz641, hz642⟩ := info_parts u64_info
  obtain ⟨i8, hi8', hz80, hz81, hz82⟩ := info_parts u8_infv
  have hmk : ∀ w, (Instr.makeSlice 22 (.int .i64 0) (.int .i64 64)).run Tryz.prog w = .ok (.slice (some ⟨w.heap.size, 0, none⟩) 0 64) (w.alloc (.cells (madeCells #[.int .u8 0] 64) 5)) := fun _ => by kernel_rfl
  go_enter Tryz.func194, Tryz.ntmps194
  go_wp2_with (with_reducible refine wpList_copy_splice rfl (.tmp 12) (.tmp 13) _ _ rfl 78 Tryz.underlying152 (by kernel_rfl) _ _ 8 8 n c rfl rfl w.heap.size 0 (List.replicate 8 (.int .u64 0)) 271 ?c1 cs ?c2 ?c3 ?c4 ?c5 w.heap.size w ?c6 (Nat.le_refl _) ?c7)
  case c1 => exact heap_alloc_new w _
  case c2 => have := hr.1; simp [Nat.min_def, hn]; omega
  case c3 =>
    intro hp
    obtain ⟨b, o, rfl, hb, hc⟩ := hr.2 (by have := hr.1; omega)
    refine ⟨_, rfl, fun j v hj => ?_⟩
    rw [Addr.add_lit]
    exact (World.cell?_alloc_past _ _ _ hb).trans (hc j v hj)
  case c4 => have := hr.1; simp; omega
  case c5 => rw [HC.out]; intro v hv; obtain ⟨x, _, rfl⟩ := List.mem_map.1 hv; rfl
  case c6 => exact (Below.refl _ _).alloc (Nat.le_refl _) _
  case c7 =>
    intro w1 hrow hb1
    have hrow1 : Blk w1 w.heap.size 271 (ys.map u64v).toArray := by
      have h := hrow.out
      have e : Go.splice (List.replicate 8 (Value.int .u64 0)) 0 cs = ys.map u64v := by
        have h1 := hr.1
        rw [HC.out] at h1
        rw [HY.out, HC.out]
        simp only [List.length_map, Nat.mul_one] at h1
        have e8 : ∀ n, n ≤ 8 → List.drop n [Value.int .u64 0, .int .u64 0, .int .u64 0, .int .u64 0, .int .u64 0, .int .u64 0, .int .u64 0, .int .u64 0] = List.replicate (8 - n) (.int .u64 0) := fun n hn => by
          match n, hn with
          | 0, _ | 1, _ | 2, _ | 3, _ | 4, _ | 5, _ | 6, _ | 7, _ | 8, _ => rfl
          | n + 9, h => omega
        simp [Go.splice, u64v, h1, e8 n hn]
      have e9 : List.replicate 8 (Value.int .u64 0) = [Value.int .u64 0, .int .u64 0, .int .u64 0, .int .u64 0, .int .u64 0, .int .u64 0, .int .u64 0, .int .u64 0] := rfl
      rw [e9] at e
      rw [e] at h
      exact h
    clear hrow
    have hsz := hb1.size
    have hlt : w.heap.size < w1.heap.size := hrow1.lt
    have hrow2 := hrow1.alloc (.cells (madeCells #[.int .u8 0] 64) 5)
    have hown := World.ownsRow_made (base := w.heap.size) (e := 5) (size := 1) w1 (madeCells #[.int .u8 0] 64) 64 hsz (by unfold maxLen; omega) (by simp [madeCells])
    have hi8 : (Tryz.prog.info? 271).map (·.size) = some (ys.map u64v).toArray.size := by
      rw [show (ys.map u64v).toArray.size = 8 by simp [hl]]
      kernel_rfl
    go_wp2_with (with_reducible refine wpList_load_row rfl 271 (.tmp 4) rfl w.heap.size rfl _ _ _ _ hrow2.raw Tryz.underlying271 rfl hi8 ?_)
    go_loopw [5, 17] (fun v i wr => ∃ k : Nat, k ≤ 8 ∧ i = .int .i64 k ∧ wr.ownsRow w.heap.size 5 1 v (8 * k) (((ys.take k).flatMap (encW 8)).map u8v) ∧ Fr (fun _ => False) w wr) (fun _ i _ => 8 - (intOf i).toNat)
    case atStart => exact ⟨0, by omega, rfl, by simpa using hown, (Fr.of_below hb1 _).alloc _⟩
    case round =>
      obtain ⟨k, hk, rfl, hown1, hfr⟩ := hrel
      by_cases hlt8 : k < 8
      · have hidx := run_index_arr (P := Tryz.prog) wr 271 78 8 .u64 .i64 i64 (ys.map u64v).toArray k (.int .u64 (ys.getD k 0 : Nat)) Tryz.underlying271 Tryz.underlying78 hi64 hz641 hlt8 (by simp [show k < ys.length by omega, u64v])
        have hxe : ys.getD k 0 = ys[k]'(by omega) := by simp [show k < ys.length by omega]
        obtain ⟨x, hx⟩ : ∃ x, x = ys.getD k 0 := ⟨_, rfl⟩
        rw [← hx] at hidx
        have HX := hide hx
        have HE := hide hxe
        clear hx hxe
        have hlen : (((ys.take k).flatMap (encW 8)).map u8v).length = 8 * k := hown1.1.trans (by omega)
        obtain ⟨pre, hpre⟩ : ∃ pre, pre = (ys.take k).flatMap (encW 8) := ⟨_, rfl⟩
        rw [← hpre] at hown1 hlen
        have HP := hide hpre
        clear hpre
        have hpl : pre.length = 8 * k := by simpa using hlen
        have HPL := hide hpl
        clear hpl hlen
        clear hown hrow1 hrow2
        have hdk : decide ((k : Int) < 8) = true := by simp; omega
        go_wp2
        go_loopw [5, 8] (fun v i wq => ∃ (m : Nat) (bs : List UInt8), m ≤ 8 ∧ i = .int .i64 ((m : Int) - 1) ∧ wq.ownsRow w.heap.size 5 1 v (8 * k + (8 - m)) (bs.map u8v) ∧ Hid (bs ++ encW m x = pre ++ encW 8 x) ∧ Fr (fun _ => False) w wq) (fun _ i _ => (intOf i + 1).toNat)
        case atStart => exact ⟨8, pre, by omega, by simp, by simpa using hown1, hide rfl, hfr⟩
        case round =>
          obtain ⟨m, bs, hm, rfl, hown2, HB, hfr2⟩ := hrel
          clear hown1 hfr
          by_cases hm0 : 0 < m
          · go_wp2_with (at_builtin; refine wpList_append_box wr _ _ rfl (.tmp 24) (.tmp 30) _ rfl w.heap.size 5 i8 _ 1 1 Tryz.underlying22 hi8' hz80 hz81 hz82 rfl (by decide) _ _ _ rfl hown2 rfl rfl ?c1 ?c2 ?c3 ?c4 ?c5)
            case c1 => rfl
            case c2 => unfold maxLen; omega
            case c3 => omega
            case c4 => exact hfr2.size
            case c5 =>
              intro v' w2 hown3 hg _
              have R := enc_step hm0 HB.out
              have hfr3 := hfr2.grown hg (fun k hk => .inr ((hown2.lt k hk).1))
              have hown4 : w2.ownsRow w.heap.size 5 1 v' (8 * k + (8 - (m - 1))) ((bs ++ [UInt8.ofNat (x / 256 ^ (m - 1))]).map u8v) := by
                rw [show 8 * k + (8 - (m - 1)) = 8 * k + (8 - m) + 1 by omega, List.map_append, List.map_singleton, enc_digit x (m - 1)]
                exact hown3
              have R' := hide R
              clear R hown3 hg hown2 hfr2
              go_wp2
              go_roundw
              case rel => exact ⟨m - 1, _, by omega, by rw [show ((m - 1 : Nat) : Int) = (m : Int) - 1 by omega], hown4, R', hfr3⟩
              case measure => simp [intOf]; omega
          · obtain rfl : m = 0 := by omega
            have hown3 : wr.ownsRow w.heap.size 5 1 u5 (8 * (k + 1)) (((ys.take (k + 1)).flatMap (encW 8)).map u8v) := by
              have h := HB.out
              rw [show encW 0 x = [] from rfl, List.append_nil] at h
              have e : (ys.take (k + 1)).flatMap (encW 8) = pre ++ encW 8 x := by
                rw [List.take_succ_eq_append_getElem (by omega), List.flatMap_append, ← HP.out, HX.out, HE.out]
                simp
              rw [e, ← h]
              exact hown2
            go_wp2
            go_roundw
            case rel => exact ⟨k + 1, by omega, by go_num, hown3, hfr2⟩
            case measure => simp [intOf]; omega
      · obtain rfl : k = 8 := by omega
        have hys8 : ys.take 8 = ys := List.take_of_length_le (by omega)
        rw [hys8] at hown1
        obtain ⟨g, cap, rfl, hgc⟩ := own_bytes hown1 (by omega)
        have hlen := hown1.1
        rw [List.length_map, Nat.mul_one] at hlen
        have hcv := run_convert_bytes_back (P := Tryz.prog) wr 22 9 5 ⟨g, 0, none⟩ cap (ys.flatMap (encW 8)) Tryz.underlying22 Tryz.underlying5 Tryz.underlying9 hgc
        rw [hlen] at hcv
        have HF := hide hfr
        clear hown1 hys8 hlen hfr hgc
        go_wp2
        go_ret2
        exact ⟨rfl, HF.out⟩
theorem or_byte (x c : Nat) (hx : x < 72057594037927936) (hc : c < 256) :
    bits .or .u64 (IntKind.u64.wrap ((x : Int) * 256)) (IntKind.u64.wrap (c : Int)) = ((x * 256 + c : Nat) : Int) := by
  have e1 : IntKind.u64.wrap ((x : Int) * 256) = ((x * 256 : Nat) : Int) := by rw [IntKind.wrap_u64]; omega
  have e2 : IntKind.u64.wrap (c : Int) = ((c : Nat) : Int) := by rw [IntKind.wrap_u64]; omega
  rw [e1, e2, u64_or_nat _ _ (by omega) (by omega)]
  congr 1
  have h := Nat.two_pow_add_eq_or_of_lt (i := 8) (b := c) (by omega) x
  rw [Nat.mul_comm x 256]
  exact h.symm
theorem dec_zero : madeCells #[.int .u64 0] 8 = ((decs []).map u64v).toArray := by rw [madeCells_one]; rfl
theorem dec_row {w : World} {g k x : Nat} {s : ByteArray} {L : List Nat} {v : Value} (hk : k < s.size) (h64 : s.size ≤ 64) (hrow : Blk w g 78 (L.map u64v).toArray) (hL : L = decs (s.data.toList.take k))
    (hx : x = L.getD (k / 8) 0) (hv : v = .int .u64 ((x * 256 + s[k].toNat : Nat) : Int)) :
    Blk (w.setCell ⟨g, k / 8, none⟩ v) g 78 ((decs (s.data.toList.take (k + 1))).map u64v).toArray := by
  have hk' : k < s.data.toList.length := by rw [Array.length_toList]; exact hk
  have h := hrow.set_ (k / 8) v
  have e : s.data.toList.take (k + 1) = s.data.toList.take k ++ [s[k]] := by
    rw [List.take_succ_eq_append_getElem hk']; rfl
  have hl : (s.data.toList.take k).length = k := by rw [List.length_take]; omega
  have h2 := decs_snoc (s.data.toList.take k) s[k] (by omega)
  rw [hl] at h2
  rw [e, h2, ← hL, ← hx, List.map_set]
  simpa [hv, u64v] using h
theorem dec_part {k x : Nat} {s : ByteArray} {L : List Nat} (hk : k < s.size) (h64 : s.size ≤ 64) (hL : L = decs (s.data.toList.take k)) (hx : x = L.getD (k / 8) 0) : x < 72057594037927936 := by
  have hk' : k < s.data.toList.length := by rw [Array.length_toList]; exact hk
  have hl : (s.data.toList.take k).length = k := by rw [List.length_take]; omega
  have h := decs_part_lt (s.data.toList.take k) (by omega)
  rw [hl, ← hL, ← hx] at h
  exact h

theorem decode_any (s : ByteArray) (w : World) (hs : s.size = 64) :
    Calls Tryz.prog 173 #[.string s] w fun e w' => ∃ g, e = .returned (.tuple #[.slice (some ⟨g, 0, none⟩) 8 8, .int .i64 0]) ∧ w.heap.size ≤ g ∧ Blk w' g 78 ((decs s.data.toList).map u64v).toArray ∧ Fr (fun _ => False) w w' := by
  have hmk : ∀ w, (Instr.makeSlice 152 (.int .i64 8) (.int .i64 8)).run Tryz.prog w = .ok (.slice (some ⟨w.heap.size, 0, none⟩) 8 8) (w.alloc (.cells (madeCells #[.int .u64 0] 8) 78)) := fun _ => by kernel_rfl
  have hbs : ((s.size : Int) != 64) = false := by simp [hs]
  have HS := hide hs
  have hs1 : s.size ≤ 64 := by omega
  have hs2 : 64 ≤ s.size := by omega
  clear hs
  go_enter Tryz.func173, Tryz.ntmps173
  go_wp2
  go_loopw [12] (fun i wr => ∃ (k : Nat) (L : List Nat), k ≤ 64 ∧ i = .int .i64 k ∧ Blk wr w.heap.size 78 (L.map u64v).toArray ∧ Hid (L = decs (s.data.toList.take k)) ∧ Fr (fun _ => False) w wr) (fun i _ => 64 - (intOf i).toNat)
  case atStart => exact ⟨0, decs [], by omega, rfl, by have h := Blk.new w 78 (madeCells #[.int .u64 0] 8); rw [dec_zero] at h; rw [dec_zero]; exact h, hide (by simp), (Fr.refl _ _).alloc _⟩
  case round =>
    obtain ⟨k, L, hk, rfl, hrow, HL, hfr⟩ := hrel
    by_cases hk64 : k < 64
    · have hl8 : L.length = 8 := by rw [HL.out]; simp [decs]
      obtain ⟨x, hx⟩ : ∃ x, x = L.getD (k / 8) 0 := ⟨_, rfl⟩
      have hc : wr.cell? ⟨w.heap.size, k / 8, none⟩ = some (.int .u64 x) := by
        rw [hrow.cell]; simp [show k / 8 < L.length by omega, hx, u64v]
      have hf := hrow.frozen (k / 8)
      have HX := hide hx
      have HL8 := hide hl8
      clear hx hl8
      go_wp2
      go_region
      go_wp2
      go_roundw
      case rel =>
        have hks : k < s.size := by omega
        refine ⟨k + 1, _, by omega, by go_num, (dec_row hks hs1 hrow HL.out HX.out ?_).drew, hide rfl, (hfr.setCell (p := ⟨w.heap.size, k / 8, none⟩) (.inr (Nat.le_refl _)) _).drew⟩
        rw [or_byte x s[k].toNat (dec_part hks hs1 HL.out HX.out) (by have := s[k].toNat_lt; omega)]
      case measure => simp [intOf]; omega
    · have e : s.data.toList.take k = s.data.toList := List.take_of_length_le (by have := HS.out; rw [Array.length_toList]; show s.size ≤ k; omega)
      have h := HL.out
      rw [e] at h
      rw [h] at hrow
      have HR := hide hrow
      clear hrow h e
      go_wp2
      go_ret2
      exact ⟨_, rfl, Nat.le_refl _, HR.out, hfr⟩
theorem decode_out (s : ByteArray) (w : World) (hs : s.size ≠ 64) :
    Calls Tryz.prog 173 #[.string s] w fun e w' => e = .returned (.tuple #[.slice none 0 0, .int .i64 10]) ∧ w = w' := by
  have hbs : ((s.size : Int) != 64) = true := by simp; omega
  go_enter Tryz.func173, Tryz.ntmps173
  go_wp2
  go_ret2
  exact ⟨rfl, rfl⟩
end Go.Proofs.YtkhbemmcegmdaaaGreatDoor
end
