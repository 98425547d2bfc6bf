/- Parts of the proof of SpillTwo: no conditions of their own. -/
import Derived.Test.YtkhbemmcegmdaaaGreatDoorWhPk18
import Derived.Test.YtkhbemmcegmdaaaGreatDoorWhPk16
import Derived.Test.YtkhbemmcegmdaaaGreatDoorWhPk19
import Derived.OpenShut
import Derived.Handy
section
set_option linter.all false
set_option linter.unusedVariables false
set_option maxRecDepth 100000
namespace Go.Proofs.YtkhbemmcegmdaaaGreatDoor
open Go.RowKit

structure SAct where
  kind : Nat
  i : Int
  v : Nat
  c : CAct
structure SActWf (a : SAct) : Prop where
  kind : a.kind < 256
  lo : -9223372036854775808 ≤ a.i
  hi : a.i ≤ 9223372036854775807
  v : a.v < 18446744073709551616
  c : ActWf a.c
def sactc (a : SAct) : Array Value := #[.int .u8 (a.kind : Int), .int .i64 a.i, .int .u64 (a.v : Int), .int .u8 (a.c.kind : Int), .string ⟨a.c.name.toArray⟩, .int .i64 a.c.i, .string ⟨a.c.data.toArray⟩, .int .u8 (a.c.x.toNat : Int)]
structure SActsR (w : World) (B : Nat) (A : Option Addr) (n : Nat) (l : List SAct) : Prop where
  len : l.length = n
  wf : ∀ a ∈ l, SActWf a
  cells : ∀ (i : Nat) (a : SAct), l[i]? = some a → ∃ b o, A = some ⟨b, o, none⟩ ∧ b < B ∧ ∀ (j : Nat) (v : Value), (sactc a)[j]? = some v → w.cell? ⟨b, o + i * 8 + j, none⟩ = some v
section
variable {w w' : World} {B : Nat} {A : Option Addr} {n : Nat} {l : List SAct} {S : Nat → Prop}
theorem SActsR.fr (h : SActsR w B A n l) (hf : Fr S w w') (hB : B ≤ w.heap.size) (hs : ∀ k, S k → B ≤ k) : SActsR w' B A n l :=
  ⟨h.len, h.wf, fun i a ha => by
    obtain ⟨b, o, e, hb, hc⟩ := h.cells i a ha
    exact ⟨b, o, e, hb, fun j v hv => hf.cell (hc j v hv) (fun hS => Nat.lt_irrefl _ (Nat.lt_of_lt_of_le hb (hs b hS)))⟩⟩
theorem SActsR.at (h : SActsR w B A n l) {k : Nat} (hk : k < n) : ∃ (a : SAct) (b o : Nat), l[k]? = some a ∧ a ∈ l ∧ A = some ⟨b, o, none⟩ ∧ b < B ∧ w.cell? ⟨b, o + k * 8, none⟩ = some (.int .u8 (a.kind : Int)) ∧ w.cell? ⟨b, o + k * 8 + 1, none⟩ = some (.int .i64 a.i) ∧ w.cell? ⟨b, o + k * 8 + 2, none⟩ = some (.int .u64 (a.v : Int)) ∧
    w.cell? ⟨b, o + k * 8 + 3, none⟩ = some (.int .u8 (a.c.kind : Int)) ∧ w.cell? ⟨b, o + k * 8 + 4, none⟩ = some (.string ⟨a.c.name.toArray⟩) ∧ w.cell? ⟨b, o + k * 8 + 5, none⟩ = some (.int .i64 a.c.i) ∧ w.cell? ⟨b, o + k * 8 + 6, none⟩ = some (.string ⟨a.c.data.toArray⟩) ∧ w.cell? ⟨b, o + k * 8 + 7, none⟩ = some (.int .u8 (a.c.x.toNat : Int)) := by
  have hk2 : k < l.length := by rw [h.len]; exact hk
  obtain ⟨b, o, e, hb, hc⟩ := h.cells k l[k] (List.getElem?_eq_getElem hk2)
  exact ⟨l[k], b, o, List.getElem?_eq_getElem hk2, List.getElem_mem hk2, e, hb, hc 0 _ rfl, hc 1 _ rfl, hc 2 _ rfl, hc 3 _ rfl, hc 4 _ rfl, hc 5 _ rfl, hc 6 _ rfl, hc 7 _ rfl⟩
theorem great_one (w : World) (a : CAct) (ha : ActWf a) (W : World) (hW : W = w.alloc (.cells (actc a) 52)) : Calls Tryz.prog 23 #[.slice (some ⟨w.heap.size, 0, none⟩) 1 1, .int .i64 1] W fun e w' => (e = .returned (.bool true) ∨ e = .returned (.bool false)) ∧ W = w' := by
  have hr : ActsR W W.heap.size (some ⟨w.heap.size, 0, none⟩) 1 [a] := ⟨rfl, fun x hx => by rw [List.mem_singleton] at hx; rw [hx]; exact ha, fun i x hx => by
    have hi : i = 0 := by
      have := (List.getElem?_eq_some_iff.1 hx).1
      simp at this
      exact this
    subst hi
    simp at hx
    subst hx
    refine ⟨w.heap.size, 0, rfl, by rw [hW]; simp, fun j v hv => ?_⟩
    rw [hW]
    have := (Blk.new w 52 (actc a)).cell j
    simpa using this.trans hv⟩
  refine (great_ok hr 1 1 (by omega) (by omega)).mono ?_
  rintro e w' ⟨h, rfl⟩
  exact ⟨h.imp id (fun h => h.1), rfl⟩
theorem sgreat_ok (h : SActsR w B A n l) (hB : B ≤ w.heap.size) (many : Nat) (c : Nat) (hm : many ≤ 1000) (hn : n ≤ 9223372036854775807) : Calls Tryz.prog 46 #[.slice A n c, .int .i64 (many : Int)] w fun e w' => (e = .returned (.bool true) ∨ (e = .returned (.bool false) ∧ n ≤ many)) ∧ Fr (fun _ => False) w w' := by
  by_cases hmn : many < n
  · have b0 : (n : Int) > (many : Int) := by omega
    have b1 : (many : Int) < (n : Int) := by omega
    clear h hmn hm
    go_enter Tryz.func46, Tryz.ntmps46
    go_wp2
    go_ret
    exact ⟨.inl rfl, Fr.refl _ _⟩
  · have b0 : ¬ (n : Int) > (many : Int) := by omega
    have b1 : ¬ (many : Int) < (n : Int) := by omega
    have HH := hide h
    have HM := hide hmn
    clear h hmn
    go_enter Tryz.func46, Tryz.ntmps46
    go_wp2
    go_loopw [5] (fun i wr => ∃ k : Nat, i = .int .i64 (k : Int) ∧ k ≤ n ∧ Fr (fun _ => False) w wr) (fun i _ => n - (intOf i).toNat)
    case atStart => exact ⟨0, rfl, by omega, Fr.refl _ _⟩
    case round =>
      obtain ⟨k, rfl, hk, hfr⟩ := hrel
      have HFR := hide hfr
      by_cases hlt : k < n
      · obtain ⟨a, b, o, hka, hal, rfl, hb, s0, s1, s2, s3, s4, s5, s6, s7⟩ := (HH.out.fr hfr hB (fun _ h => h.elim)).at hlt
        have hwf := HH.out.wf a hal
        have g0 : (0 : Int) ≤ (k : Int) := by omega
        have g1 : (k : Int) < (n : Int) := by omega
        have HG := hide (great_one wr a.c hwf.c _ rfl)
        have HF5 := hide (hfr.alloc (.cells (actc a.c) 52))
        unfold actc at HG HF5
        clear hka hal hwf hfr s0 s1 s2
        go_wp2_with fail
        go_at_call 23
        refine HG.out.mono ?_
        rintro e w9 ⟨rfl | rfl, rfl⟩
        · go_wp2
          go_ret
          exact ⟨.inl rfl, HF5.out⟩
        · go_wp2
          go_roundw
          case rel => exact ⟨k + 1, by go_num, by omega, HF5.out⟩
          case measure => simp [intOf]; omega
      · obtain rfl : k = n := by omega
        clear hfr
        go_wp2
        go_ret
        exact ⟨.inr ⟨rfl, by have := HM.out; omega⟩, HFR.out⟩
end
section
variable {w : World} {R : Value → Value → World → Prop} {sv : Value}
theorem sdone_get4 (a : SAct) (ha : a.kind < 256) (hk : a.kind % 9 = 4) (h : ∀ W, Fr (fun _ => False) w W → Calls Tryz.prog 50 #[sv, .int .i64 a.i] W fun e W' => ∃ x y, e = .returned (.tuple #[x, y]) ∧ R x y W') :
    Calls Tryz.prog 47 #[sv, .agg #[.int .u8 (a.kind : Int), .int .i64 a.i, .int .u64 (a.v : Int), .int .u8 (a.c.kind : Int), .string ⟨a.c.name.toArray⟩, .int .i64 a.c.i, .string ⟨a.c.data.toArray⟩, .int .u8 (a.c.x.toNat : Int)]] w fun e W' => ∃ x y, e = .returned (.tuple #[x, y]) ∧ R x y W' := by
  obtain ⟨W3, hW3⟩ : ∃ W3, W3 = w.alloc (.cells #[.int .u8 (a.kind : Int), .int .i64 a.i, .int .u64 (a.v : Int), .int .u8 (a.c.kind : Int), .string ⟨a.c.name.toArray⟩, .int .i64 a.c.i, .string ⟨a.c.data.toArray⟩, .int .u8 (a.c.x.toNat : Int)] 82) := ⟨_, rfl⟩
  have F3 : Fr (fun _ => False) w W3 := by rw [hW3]; exact (Fr.refl _ _).alloc _
  have hab : Blk W3 w.heap.size 82 (sactc a) := by rw [hW3]; exact Blk.new w 82 _
  have s0 : W3.cell? ⟨w.heap.size, 0, none⟩ = some (.int .u8 (a.kind : Int)) := (hab.cell 0).trans rfl
  have s1 : W3.cell? ⟨w.heap.size, 1, none⟩ = some (.int .i64 a.i) := (hab.cell 1).trans rfl
  have s2 : W3.cell? ⟨w.heap.size, 2, none⟩ = some (.int .u64 (a.v : Int)) := (hab.cell 2).trans rfl
  have hk1 : ((a.kind : Nat) : Int) % 9 = (4 : Int) := by omega
  have hk2 : Int.tmod ((a.kind : Nat) : Int) 9 = (4 : Int) := by rw [Int.tmod_eq_emod_of_nonneg (by omega)]; exact hk1
  have HC := hide (h W3 F3)
  have HW3 := hide hW3
  clear h hab hW3 F3 hk ha hk1
  go_enter Tryz.func47, Tryz.ntmps47
  go_wp2_with fail
  rw [← HW3.out]
  go_wp2_with fail
  go_at_call 50
  refine HC.out.mono ?_
  rintro e W5 ⟨x, y, rfl, hr⟩
  have HR := hide hr
  clear hr
  go_wp2
  go_ret2
  exact ⟨_, _, rfl, HR.out⟩
theorem sdone_get5 (a : SAct) (ha : a.kind < 256) (hk : a.kind % 9 = 5) (h : ∀ W, Fr (fun _ => False) w W → Calls Tryz.prog 50 #[sv, .int .i64 a.i] W fun e W' => ∃ x y, e = .returned (.tuple #[x, y]) ∧ R x y W') :
    Calls Tryz.prog 47 #[sv, .agg #[.int .u8 (a.kind : Int), .int .i64 a.i, .int .u64 (a.v : Int), .int .u8 (a.c.kind : Int), .string ⟨a.c.name.toArray⟩, .int .i64 a.c.i, .string ⟨a.c.data.toArray⟩, .int .u8 (a.c.x.toNat : Int)]] w fun e W' => ∃ x y, e = .returned (.tuple #[x, y]) ∧ R x y W' := by
  obtain ⟨W3, hW3⟩ : ∃ W3, W3 = w.alloc (.cells #[.int .u8 (a.kind : Int), .int .i64 a.i, .int .u64 (a.v : Int), .int .u8 (a.c.kind : Int), .string ⟨a.c.name.toArray⟩, .int .i64 a.c.i, .string ⟨a.c.data.toArray⟩, .int .u8 (a.c.x.toNat : Int)] 82) := ⟨_, rfl⟩
  have F3 : Fr (fun _ => False) w W3 := by rw [hW3]; exact (Fr.refl _ _).alloc _
  have hab : Blk W3 w.heap.size 82 (sactc a) := by rw [hW3]; exact Blk.new w 82 _
  have s0 : W3.cell? ⟨w.heap.size, 0, none⟩ = some (.int .u8 (a.kind : Int)) := (hab.cell 0).trans rfl
  have s1 : W3.cell? ⟨w.heap.size, 1, none⟩ = some (.int .i64 a.i) := (hab.cell 1).trans rfl
  have s2 : W3.cell? ⟨w.heap.size, 2, none⟩ = some (.int .u64 (a.v : Int)) := (hab.cell 2).trans rfl
  have hk1 : ((a.kind : Nat) : Int) % 9 = (5 : Int) := by omega
  have hk2 : Int.tmod ((a.kind : Nat) : Int) 9 = (5 : Int) := by rw [Int.tmod_eq_emod_of_nonneg (by omega)]; exact hk1
  have HC := hide (h W3 F3)
  have HW3 := hide hW3
  clear h hab hW3 F3 hk ha hk1
  go_enter Tryz.func47, Tryz.ntmps47
  go_wp2_with fail
  rw [← HW3.out]
  go_wp2_with fail
  go_at_call 50
  refine HC.out.mono ?_
  rintro e W5 ⟨x, y, rfl, hr⟩
  have HR := hide hr
  clear hr
  go_wp2
  go_ret2
  exact ⟨_, _, rfl, HR.out⟩
theorem sdone_get6 (a : SAct) (ha : a.kind < 256) (hk : a.kind % 9 = 6) (h : ∀ W, Fr (fun _ => False) w W → Calls Tryz.prog 50 #[sv, .int .i64 a.i] W fun e W' => ∃ x y, e = .returned (.tuple #[x, y]) ∧ R x y W') :
    Calls Tryz.prog 47 #[sv, .agg #[.int .u8 (a.kind : Int), .int .i64 a.i, .int .u64 (a.v : Int), .int .u8 (a.c.kind : Int), .string ⟨a.c.name.toArray⟩, .int .i64 a.c.i, .string ⟨a.c.data.toArray⟩, .int .u8 (a.c.x.toNat : Int)]] w fun e W' => ∃ x y, e = .returned (.tuple #[x, y]) ∧ R x y W' := by
  obtain ⟨W3, hW3⟩ : ∃ W3, W3 = w.alloc (.cells #[.int .u8 (a.kind : Int), .int .i64 a.i, .int .u64 (a.v : Int), .int .u8 (a.c.kind : Int), .string ⟨a.c.name.toArray⟩, .int .i64 a.c.i, .string ⟨a.c.data.toArray⟩, .int .u8 (a.c.x.toNat : Int)] 82) := ⟨_, rfl⟩
  have F3 : Fr (fun _ => False) w W3 := by rw [hW3]; exact (Fr.refl _ _).alloc _
  have hab : Blk W3 w.heap.size 82 (sactc a) := by rw [hW3]; exact Blk.new w 82 _
  have s0 : W3.cell? ⟨w.heap.size, 0, none⟩ = some (.int .u8 (a.kind : Int)) := (hab.cell 0).trans rfl
  have s1 : W3.cell? ⟨w.heap.size, 1, none⟩ = some (.int .i64 a.i) := (hab.cell 1).trans rfl
  have s2 : W3.cell? ⟨w.heap.size, 2, none⟩ = some (.int .u64 (a.v : Int)) := (hab.cell 2).trans rfl
  have hk1 : ((a.kind : Nat) : Int) % 9 = (6 : Int) := by omega
  have hk2 : Int.tmod ((a.kind : Nat) : Int) 9 = (6 : Int) := by rw [Int.tmod_eq_emod_of_nonneg (by omega)]; exact hk1
  have HC := hide (h W3 F3)
  have HW3 := hide hW3
  clear h hab hW3 F3 hk ha hk1
  go_enter Tryz.func47, Tryz.ntmps47
  go_wp2_with fail
  rw [← HW3.out]
  go_wp2_with fail
  go_at_call 50
  refine HC.out.mono ?_
  rintro e W5 ⟨x, y, rfl, hr⟩
  have HR := hide hr
  clear hr
  go_wp2
  go_ret2
  exact ⟨_, _, rfl, HR.out⟩
theorem sdone_fill7 (a : SAct) (ha : a.kind < 256) (hk : a.kind % 9 = 7) (h : ∀ W, Fr (fun _ => False) w W → Calls Tryz.prog 88 #[sv, .int .u64 (a.v : Int)] W fun e W' => ∃ y, e = .returned y ∧ R (.int .u64 0) y W') :
    Calls Tryz.prog 47 #[sv, .agg #[.int .u8 (a.kind : Int), .int .i64 a.i, .int .u64 (a.v : Int), .int .u8 (a.c.kind : Int), .string ⟨a.c.name.toArray⟩, .int .i64 a.c.i, .string ⟨a.c.data.toArray⟩, .int .u8 (a.c.x.toNat : Int)]] w fun e W' => ∃ x y, e = .returned (.tuple #[x, y]) ∧ R x y W' := by
  obtain ⟨W3, hW3⟩ : ∃ W3, W3 = w.alloc (.cells #[.int .u8 (a.kind : Int), .int .i64 a.i, .int .u64 (a.v : Int), .int .u8 (a.c.kind : Int), .string ⟨a.c.name.toArray⟩, .int .i64 a.c.i, .string ⟨a.c.data.toArray⟩, .int .u8 (a.c.x.toNat : Int)] 82) := ⟨_, rfl⟩
  have F3 : Fr (fun _ => False) w W3 := by rw [hW3]; exact (Fr.refl _ _).alloc _
  have hab : Blk W3 w.heap.size 82 (sactc a) := by rw [hW3]; exact Blk.new w 82 _
  have s0 : W3.cell? ⟨w.heap.size, 0, none⟩ = some (.int .u8 (a.kind : Int)) := (hab.cell 0).trans rfl
  have s1 : W3.cell? ⟨w.heap.size, 1, none⟩ = some (.int .i64 a.i) := (hab.cell 1).trans rfl
  have s2 : W3.cell? ⟨w.heap.size, 2, none⟩ = some (.int .u64 (a.v : Int)) := (hab.cell 2).trans rfl
  have hk1 : ((a.kind : Nat) : Int) % 9 = (7 : Int) := by omega
  have hk2 : Int.tmod ((a.kind : Nat) : Int) 9 = (7 : Int) := by rw [Int.tmod_eq_emod_of_nonneg (by omega)]; exact hk1
  have HC := hide (h W3 F3)
  have HW3 := hide hW3
  clear h hab hW3 F3 hk ha hk1
  go_enter Tryz.func47, Tryz.ntmps47
  go_wp2_with fail
  rw [← HW3.out]
  go_wp2_with fail
  go_at_call 88
  refine HC.out.mono ?_
  rintro e W5 ⟨y, rfl, hr⟩
  have HR := hide hr
  clear hr
  go_wp2
  go_ret2
  exact ⟨_, _, rfl, HR.out⟩
theorem sdone_set0 (a : SAct) (ha : a.kind < 256) (hk : a.kind % 9 = 0) (h : ∀ W, Fr (fun _ => False) w W → Calls Tryz.prog 42 #[sv, .int .i64 a.i, .int .u64 (a.v : Int)] W fun e W' => ∃ y, e = .returned y ∧ R (.int .u64 0) y W') :
    Calls Tryz.prog 47 #[sv, .agg #[.int .u8 (a.kind : Int), .int .i64 a.i, .int .u64 (a.v : Int), .int .u8 (a.c.kind : Int), .string ⟨a.c.name.toArray⟩, .int .i64 a.c.i, .string ⟨a.c.data.toArray⟩, .int .u8 (a.c.x.toNat : Int)]] w fun e W' => ∃ x y, e = .returned (.tuple #[x, y]) ∧ R x y W' := by
  obtain ⟨W3, hW3⟩ : ∃ W3, W3 = w.alloc (.cells #[.int .u8 (a.kind : Int), .int .i64 a.i, .int .u64 (a.v : Int), .int .u8 (a.c.kind : Int), .string ⟨a.c.name.toArray⟩, .int .i64 a.c.i, .string ⟨a.c.data.toArray⟩, .int .u8 (a.c.x.toNat : Int)] 82) := ⟨_, rfl⟩
  have F3 : Fr (fun _ => False) w W3 := by rw [hW3]; exact (Fr.refl _ _).alloc _
  have hab : Blk W3 w.heap.size 82 (sactc a) := by rw [hW3]; exact Blk.new w 82 _
  have s0 : W3.cell? ⟨w.heap.size, 0, none⟩ = some (.int .u8 (a.kind : Int)) := (hab.cell 0).trans rfl
  have s1 : W3.cell? ⟨w.heap.size, 1, none⟩ = some (.int .i64 a.i) := (hab.cell 1).trans rfl
  have s2 : W3.cell? ⟨w.heap.size, 2, none⟩ = some (.int .u64 (a.v : Int)) := (hab.cell 2).trans rfl
  have hk1 : ((a.kind : Nat) : Int) % 9 = (0 : Int) := by omega
  have hk2 : Int.tmod ((a.kind : Nat) : Int) 9 = (0 : Int) := by rw [Int.tmod_eq_emod_of_nonneg (by omega)]; exact hk1
  have HC := hide (h W3 F3)
  have HW3 := hide hW3
  clear h hab hW3 F3 hk ha hk1
  go_enter Tryz.func47, Tryz.ntmps47
  go_wp2_with fail
  rw [← HW3.out]
  go_wp2_with fail
  go_at_call 42
  refine HC.out.mono ?_
  rintro e W5 ⟨y, rfl, hr⟩
  have HR := hide hr
  clear hr
  go_wp2
  go_ret2
  exact ⟨_, _, rfl, HR.out⟩
theorem sdone_set1 (a : SAct) (ha : a.kind < 256) (hk : a.kind % 9 = 1) (h : ∀ W, Fr (fun _ => False) w W → Calls Tryz.prog 42 #[sv, .int .i64 a.i, .int .u64 (a.v : Int)] W fun e W' => ∃ y, e = .returned y ∧ R (.int .u64 0) y W') :
    Calls Tryz.prog 47 #[sv, .agg #[.int .u8 (a.kind : Int), .int .i64 a.i, .int .u64 (a.v : Int), .int .u8 (a.c.kind : Int), .string ⟨a.c.name.toArray⟩, .int .i64 a.c.i, .string ⟨a.c.data.toArray⟩, .int .u8 (a.c.x.toNat : Int)]] w fun e W' => ∃ x y, e = .returned (.tuple #[x, y]) ∧ R x y W' := by
  obtain ⟨W3, hW3⟩ : ∃ W3, W3 = w.alloc (.cells #[.int .u8 (a.kind : Int), .int .i64 a.i, .int .u64 (a.v : Int), .int .u8 (a.c.kind : Int), .string ⟨a.c.name.toArray⟩, .int .i64 a.c.i, .string ⟨a.c.data.toArray⟩, .int .u8 (a.c.x.toNat : Int)] 82) := ⟨_, rfl⟩
  have F3 : Fr (fun _ => False) w W3 := by rw [hW3]; exact (Fr.refl _ _).alloc _
  have hab : Blk W3 w.heap.size 82 (sactc a) := by rw [hW3]; exact Blk.new w 82 _
  have s0 : W3.cell? ⟨w.heap.size, 0, none⟩ = some (.int .u8 (a.kind : Int)) := (hab.cell 0).trans rfl
  have s1 : W3.cell? ⟨w.heap.size, 1, none⟩ = some (.int .i64 a.i) := (hab.cell 1).trans rfl
  have s2 : W3.cell? ⟨w.heap.size, 2, none⟩ = some (.int .u64 (a.v : Int)) := (hab.cell 2).trans rfl
  have hk1 : ((a.kind : Nat) : Int) % 9 = (1 : Int) := by omega
  have hk2 : Int.tmod ((a.kind : Nat) : Int) 9 = (1 : Int) := by rw [Int.tmod_eq_emod_of_nonneg (by omega)]; exact hk1
  have HC := hide (h W3 F3)
  have HW3 := hide hW3
  clear h hab hW3 F3 hk ha hk1
  go_enter Tryz.func47, Tryz.ntmps47
  go_wp2_with fail
  rw [← HW3.out]
  go_wp2_with fail
  go_at_call 42
  refine HC.out.mono ?_
  rintro e W5 ⟨y, rfl, hr⟩
  have HR := hide hr
  clear hr
  go_wp2
  go_ret2
  exact ⟨_, _, rfl, HR.out⟩
theorem sdone_set2 (a : SAct) (ha : a.kind < 256) (hk : a.kind % 9 = 2) (h : ∀ W, Fr (fun _ => False) w W → Calls Tryz.prog 42 #[sv, .int .i64 a.i, .int .u64 (a.v : Int)] W fun e W' => ∃ y, e = .returned y ∧ R (.int .u64 0) y W') :
    Calls Tryz.prog 47 #[sv, .agg #[.int .u8 (a.kind : Int), .int .i64 a.i, .int .u64 (a.v : Int), .int .u8 (a.c.kind : Int), .string ⟨a.c.name.toArray⟩, .int .i64 a.c.i, .string ⟨a.c.data.toArray⟩, .int .u8 (a.c.x.toNat : Int)]] w fun e W' => ∃ x y, e = .returned (.tuple #[x, y]) ∧ R x y W' := by
  obtain ⟨W3, hW3⟩ : ∃ W3, W3 = w.alloc (.cells #[.int .u8 (a.kind : Int), .int .i64 a.i, .int .u64 (a.v : Int), .int .u8 (a.c.kind : Int), .string ⟨a.c.name.toArray⟩, .int .i64 a.c.i, .string ⟨a.c.data.toArray⟩, .int .u8 (a.c.x.toNat : Int)] 82) := ⟨_, rfl⟩
  have F3 : Fr (fun _ => False) w W3 := by rw [hW3]; exact (Fr.refl _ _).alloc _
  have hab : Blk W3 w.heap.size 82 (sactc a) := by rw [hW3]; exact Blk.new w 82 _
  have s0 : W3.cell? ⟨w.heap.size, 0, none⟩ = some (.int .u8 (a.kind : Int)) := (hab.cell 0).trans rfl
  have s1 : W3.cell? ⟨w.heap.size, 1, none⟩ = some (.int .i64 a.i) := (hab.cell 1).trans rfl
  have s2 : W3.cell? ⟨w.heap.size, 2, none⟩ = some (.int .u64 (a.v : Int)) := (hab.cell 2).trans rfl
  have hk1 : ((a.kind : Nat) : Int) % 9 = (2 : Int) := by omega
  have hk2 : Int.tmod ((a.kind : Nat) : Int) 9 = (2 : Int) := by rw [Int.tmod_eq_emod_of_nonneg (by omega)]; exact hk1
  have HC := hide (h W3 F3)
  have HW3 := hide hW3
  clear h hab hW3 F3 hk ha hk1
  go_enter Tryz.func47, Tryz.ntmps47
  go_wp2_with fail
  rw [← HW3.out]
  go_wp2_with fail
  go_at_call 42
  refine HC.out.mono ?_
  rintro e W5 ⟨y, rfl, hr⟩
  have HR := hide hr
  clear hr
  go_wp2
  go_ret2
  exact ⟨_, _, rfl, HR.out⟩
theorem sdone_set3 (a : SAct) (ha : a.kind < 256) (hk : a.kind % 9 = 3) (h : ∀ W, Fr (fun _ => False) w W → Calls Tryz.prog 42 #[sv, .int .i64 a.i, .int .u64 (a.v : Int)] W fun e W' => ∃ y, e = .returned y ∧ R (.int .u64 0) y W') :
    Calls Tryz.prog 47 #[sv, .agg #[.int .u8 (a.kind : Int), .int .i64 a.i, .int .u64 (a.v : Int), .int .u8 (a.c.kind : Int), .string ⟨a.c.name.toArray⟩, .int .i64 a.c.i, .string ⟨a.c.data.toArray⟩, .int .u8 (a.c.x.toNat : Int)]] w fun e W' => ∃ x y, e = .returned (.tuple #[x, y]) ∧ R x y W' := by
  obtain ⟨W3, hW3⟩ : ∃ W3, W3 = w.alloc (.cells #[.int .u8 (a.kind : Int), .int .i64 a.i, .int .u64 (a.v : Int), .int .u8 (a.c.kind : Int), .string ⟨a.c.name.toArray⟩, .int .i64 a.c.i, .string ⟨a.c.data.toArray⟩, .int .u8 (a.c.x.toNat : Int)] 82) := ⟨_, rfl⟩
  have F3 : Fr (fun _ => False) w W3 := by rw [hW3]; exact (Fr.refl _ _).alloc _
  have hab : Blk W3 w.heap.size 82 (sactc a) := by rw [hW3]; exact Blk.new w 82 _
  have s0 : W3.cell? ⟨w.heap.size, 0, none⟩ = some (.int .u8 (a.kind : Int)) := (hab.cell 0).trans rfl
  have s1 : W3.cell? ⟨w.heap.size, 1, none⟩ = some (.int .i64 a.i) := (hab.cell 1).trans rfl
  have s2 : W3.cell? ⟨w.heap.size, 2, none⟩ = some (.int .u64 (a.v : Int)) := (hab.cell 2).trans rfl
  have hk1 : ((a.kind : Nat) : Int) % 9 = (3 : Int) := by omega
  have hk2 : Int.tmod ((a.kind : Nat) : Int) 9 = (3 : Int) := by rw [Int.tmod_eq_emod_of_nonneg (by omega)]; exact hk1
  have HC := hide (h W3 F3)
  have HW3 := hide hW3
  clear h hab hW3 F3 hk ha hk1
  go_enter Tryz.func47, Tryz.ntmps47
  go_wp2_with fail
  rw [← HW3.out]
  go_wp2_with fail
  go_at_call 42
  refine HC.out.mono ?_
  rintro e W5 ⟨y, rfl, hr⟩
  have HR := hide hr
  clear hr
  go_wp2
  go_ret2
  exact ⟨_, _, rfl, HR.out⟩
theorem sdone_set8 (a : SAct) (ha : a.kind < 256) (hk : a.kind % 9 = 8) (h : ∀ W, Fr (fun _ => False) w W → Calls Tryz.prog 42 #[sv, .int .i64 a.i, .int .u64 (a.v : Int)] W fun e W' => ∃ y, e = .returned y ∧ R (.int .u64 0) y W') :
    Calls Tryz.prog 47 #[sv, .agg #[.int .u8 (a.kind : Int), .int .i64 a.i, .int .u64 (a.v : Int), .int .u8 (a.c.kind : Int), .string ⟨a.c.name.toArray⟩, .int .i64 a.c.i, .string ⟨a.c.data.toArray⟩, .int .u8 (a.c.x.toNat : Int)]] w fun e W' => ∃ x y, e = .returned (.tuple #[x, y]) ∧ R x y W' := by
  obtain ⟨W3, hW3⟩ : ∃ W3, W3 = w.alloc (.cells #[.int .u8 (a.kind : Int), .int .i64 a.i, .int .u64 (a.v : Int), .int .u8 (a.c.kind : Int), .string ⟨a.c.name.toArray⟩, .int .i64 a.c.i, .string ⟨a.c.data.toArray⟩, .int .u8 (a.c.x.toNat : Int)] 82) := ⟨_, rfl⟩
  have F3 : Fr (fun _ => False) w W3 := by rw [hW3]; exact (Fr.refl _ _).alloc _
  have hab : Blk W3 w.heap.size 82 (sactc a) := by rw [hW3]; exact Blk.new w 82 _
  have s0 : W3.cell? ⟨w.heap.size, 0, none⟩ = some (.int .u8 (a.kind : Int)) := (hab.cell 0).trans rfl
  have s1 : W3.cell? ⟨w.heap.size, 1, none⟩ = some (.int .i64 a.i) := (hab.cell 1).trans rfl
  have s2 : W3.cell? ⟨w.heap.size, 2, none⟩ = some (.int .u64 (a.v : Int)) := (hab.cell 2).trans rfl
  have hk1 : ((a.kind : Nat) : Int) % 9 = (8 : Int) := by omega
  have hk2 : Int.tmod ((a.kind : Nat) : Int) 9 = (8 : Int) := by rw [Int.tmod_eq_emod_of_nonneg (by omega)]; exact hk1
  have HC := hide (h W3 F3)
  have HW3 := hide hW3
  clear h hab hW3 F3 hk ha hk1
  go_enter Tryz.func47, Tryz.ntmps47
  go_wp2_with fail
  rw [← HW3.out]
  go_wp2_with fail
  go_at_call 42
  refine HC.out.mono ?_
  rintro e W5 ⟨y, rfl, hr⟩
  have HR := hide hr
  clear hr
  go_wp2
  go_ret2
  exact ⟨_, _, rfl, HR.out⟩
theorem sdone_any (a : SAct) (ha : a.kind < 256) (hg : ∀ W, Fr (fun _ => False) w W → Calls Tryz.prog 50 #[sv, .int .i64 a.i] W fun e W' => ∃ x y, e = .returned (.tuple #[x, y]) ∧ (a.kind % 9 = 4 ∨ a.kind % 9 = 5 ∨ a.kind % 9 = 6 → R x y W'))
    (hf : ∀ W, Fr (fun _ => False) w W → Calls Tryz.prog 88 #[sv, .int .u64 (a.v : Int)] W fun e W' => ∃ y, e = .returned y ∧ (a.kind % 9 = 7 → R (.int .u64 0) y W'))
    (hs : ∀ W, Fr (fun _ => False) w W → Calls Tryz.prog 42 #[sv, .int .i64 a.i, .int .u64 (a.v : Int)] W fun e W' => ∃ y, e = .returned y ∧ (¬ (a.kind % 9 = 4 ∨ a.kind % 9 = 5 ∨ a.kind % 9 = 6) → ¬ a.kind % 9 = 7 → R (.int .u64 0) y W')) :
    Calls Tryz.prog 47 #[sv, .agg #[.int .u8 (a.kind : Int), .int .i64 a.i, .int .u64 (a.v : Int), .int .u8 (a.c.kind : Int), .string ⟨a.c.name.toArray⟩, .int .i64 a.c.i, .string ⟨a.c.data.toArray⟩, .int .u8 (a.c.x.toNat : Int)]] w fun e W' => ∃ x y, e = .returned (.tuple #[x, y]) ∧ R x y W' := by
  have hc : a.kind % 9 = 0 ∨ a.kind % 9 = 1 ∨ a.kind % 9 = 2 ∨ a.kind % 9 = 3 ∨ a.kind % 9 = 4 ∨ a.kind % 9 = 5 ∨ a.kind % 9 = 6 ∨ a.kind % 9 = 7 ∨ a.kind % 9 = 8 := by omega
  have hg' : ∀ (h : a.kind % 9 = 4 ∨ a.kind % 9 = 5 ∨ a.kind % 9 = 6) W, Fr (fun _ => False) w W → Calls Tryz.prog 50 #[sv, .int .i64 a.i] W fun e W' => ∃ x y, e = .returned (.tuple #[x, y]) ∧ R x y W' := fun h W hW => (hg W hW).mono (fun e W' ⟨x, y, h1, h2⟩ => ⟨x, y, h1, h2 h⟩)
  have hf' : ∀ (h : a.kind % 9 = 7) W, Fr (fun _ => False) w W → Calls Tryz.prog 88 #[sv, .int .u64 (a.v : Int)] W fun e W' => ∃ y, e = .returned y ∧ R (.int .u64 0) y W' := fun h W hW => (hf W hW).mono (fun e W' ⟨y, h1, h2⟩ => ⟨y, h1, h2 h⟩)
  have hs' : ∀ (h : ¬ (a.kind % 9 = 4 ∨ a.kind % 9 = 5 ∨ a.kind % 9 = 6)) (h7 : ¬ a.kind % 9 = 7) W, Fr (fun _ => False) w W → Calls Tryz.prog 42 #[sv, .int .i64 a.i, .int .u64 (a.v : Int)] W fun e W' => ∃ y, e = .returned y ∧ R (.int .u64 0) y W' := fun h h7 W hW => (hs W hW).mono (fun e W' ⟨y, h1, h2⟩ => ⟨y, h1, h2 h h7⟩)
  rcases hc with h | h | h | h | h | h | h | h | h
  · exact sdone_set0 a ha h (hs' (by omega) (by omega))
  · exact sdone_set1 a ha h (hs' (by omega) (by omega))
  · exact sdone_set2 a ha h (hs' (by omega) (by omega))
  · exact sdone_set3 a ha h (hs' (by omega) (by omega))
  · exact sdone_get4 a ha h (hg' (by omega))
  · exact sdone_get5 a ha h (hg' (by omega))
  · exact sdone_get6 a ha h (hg' (by omega))
  · exact sdone_fill7 a ha h (hf' h)
  · exact sdone_set8 a ha h (hs' (by omega) (by omega))
end
end Go.Proofs.YtkhbemmcegmdaaaGreatDoor
end
section
set_option linter.all false
set_option linter.unusedVariables false
set_option maxRecDepth 100000
namespace Go.Proofs.YtkhbemmcegmdaaaGreatDoor.frame
open Go.ChangeShapes Go.WideShapes Go.ChangeAt Go.RowKit
open Go.ChangeMaps (open_string shut_string)

section
variable {H : Type} {enc : TypeId × Value → H} {W : World} {base : Nat} {v : Value} {d : DataW H} {ps : List MemPlace}
theorem cells_act {fuel : Nat} {l : List Value} {x : DataW H × List MemPlace} (hf : DataW.trod enc Tryz.prog W 0 (fun _ => true) true fuel 52 l = some x) : ∃ a : CAct, l = (actc a).toList ∧ ActWf a := by
  obtain ⟨ys, n', hn', hy, hlen, hyl, hff⟩ := DataW.trod_struct Tryz.underlying52 hf
  have hl5 : l.length = 5 := hlen.trans (by kernel_rfl)
  obtain ⟨v0, v1, v2, v3, v4, rfl⟩ : ∃ v0 v1 v2 v3 v4, l = [v0, v1, v2, v3, v4] := by
    match l, hl5 with
    | [a, b, c, d, e], _ => exact ⟨a, b, c, d, e, rfl⟩
  have h0 := hff 0 _ rfl
  have h1 := hff 1 _ rfl
  have h2 := hff 2 _ rfl
  have h3 := hff 3 _ rfl
  have h4 := hff 4 _ rfl
  have c8 : Tryz.prog.cellsOf 5 = 1 := by kernel_rfl
  have cS : Tryz.prog.cellsOf 9 = 1 := by kernel_rfl
  have cI : Tryz.prog.cellsOf 3 = 1 := by kernel_rfl
  change DataW.trod enc Tryz.prog W 0 (fun _ => true) true n' 5 (([v0, v1, v2, v3, v4].drop 0).take (Tryz.prog.cellsOf 5)) = _ at h0
  change DataW.trod enc Tryz.prog W 0 (fun _ => true) true n' 9 (([v0, v1, v2, v3, v4].drop 1).take (Tryz.prog.cellsOf 9)) = _ at h1
  change DataW.trod enc Tryz.prog W 0 (fun _ => true) true n' 3 (([v0, v1, v2, v3, v4].drop 2).take (Tryz.prog.cellsOf 3)) = _ at h2
  change DataW.trod enc Tryz.prog W 0 (fun _ => true) true n' 9 (([v0, v1, v2, v3, v4].drop 3).take (Tryz.prog.cellsOf 9)) = _ at h3
  change DataW.trod enc Tryz.prog W 0 (fun _ => true) true n' 5 (([v0, v1, v2, v3, v4].drop 4).take (Tryz.prog.cellsOf 5)) = _ at h4
  rw [c8] at h0 h4
  rw [cS] at h1 h3
  rw [cI] at h2
  have hy5 : ys.length = 5 := hyl
  have hys : ∀ j, j < 5 → ∃ y, ys[j]? = some y := fun j hj => ⟨ys[j]'(by omega), List.getElem?_eq_getElem (by omega)⟩
  obtain ⟨y0, e0⟩ := hys 0 (by omega)
  obtain ⟨y1, e1⟩ := hys 1 (by omega)
  obtain ⟨y2, e2⟩ := hys 2 (by omega)
  obtain ⟨y3, e3⟩ := hys 3 (by omega)
  obtain ⟨y4, e4⟩ := hys 4 (by omega)
  rw [e0] at h0
  rw [e1] at h1
  rw [e2] at h2
  rw [e3] at h3
  rw [e4] at h4
  obtain ⟨K, k0, _, wK⟩ := DataW.trod_int Tryz.underlying5 h0
  obtain ⟨N, k1, _, wN⟩ := DataW.trod_string Tryz.underlying9 h1
  obtain ⟨I, k2, _, wI⟩ := DataW.trod_int Tryz.underlying3 h2
  obtain ⟨T, k3, _, wT⟩ := DataW.trod_string Tryz.underlying9 h3
  obtain ⟨Z, k4, _, wZ⟩ := DataW.trod_int Tryz.underlying5 h4
  simp only [List.drop_zero, List.drop_succ_cons, List.take_succ_cons, List.take_zero, List.cons.injEq, and_true] at k0 k1 k2 k3 k4
  subst k0 k1 k2 k3 k4
  have b0 : 0 ≤ K ∧ K < 256 := by simp [Lit.wf, IntKind.min, IntKind.max, IntKind.signed, IntKind.bits] at wK; omega
  have b2 : -9223372036854775808 ≤ I ∧ I ≤ 9223372036854775807 := by simp [Lit.wf, IntKind.min, IntKind.max, IntKind.signed, IntKind.bits] at wI; omega
  have b4 : 0 ≤ Z ∧ Z < 256 := by simp [Lit.wf, IntKind.min, IntKind.max, IntKind.signed, IntKind.bits] at wZ; omega
  have hz : (UInt8.ofNat Z.toNat).toNat = Z.toNat := by simp; omega
  refine ⟨⟨K.toNat, N.data.toList, I, T.data.toList, UInt8.ofNat Z.toNat⟩, ?_, ⟨by simp only; omega, b2.1, b2.2, ?_, ?_⟩⟩
  · simp only [actc, hz, Int.toNat_of_nonneg b0.1, Int.toNat_of_nonneg b4.1]
  · have : N.size ≤ maxLen := by assumption
    simp only
    have e : N.data.toList.length = N.size := by simp
    rw [e]; unfold maxLen at this; omega
  · have : T.size ≤ maxLen := by assumption
    simp only
    have e : T.data.toList.length = T.size := by simp
    rw [e]; unfold maxLen at this; omega
theorem cells_sact {fuel : Nat} {l : List Value} {x : DataW H × List MemPlace} (hf : DataW.trod enc Tryz.prog W 0 (fun _ => true) true fuel 82 l = some x) : ∃ a : SAct, l = (sactc a).toList ∧ SActWf a := by
  obtain ⟨ys, n', hn', hy, hlen, hyl, hff⟩ := DataW.trod_struct Tryz.underlying82 hf
  have hl8 : l.length = 8 := hlen.trans (by kernel_rfl)
  obtain ⟨v0, v1, v2, r, rfl⟩ : ∃ v0 v1 v2 r, l = v0 :: v1 :: v2 :: r := by
    match l, hl8 with
    | a :: b :: c :: r, _ => exact ⟨a, b, c, r, rfl⟩
  have hr5 : r.length = 5 := by simp only [List.length_cons] at hl8; omega
  have h0 := hff 0 _ rfl
  have h1 := hff 1 _ rfl
  have h2 := hff 2 _ rfl
  have h3 := hff 3 _ rfl
  have c8 : Tryz.prog.cellsOf 5 = 1 := by kernel_rfl
  have c64 : Tryz.prog.cellsOf 78 = 1 := by kernel_rfl
  have cI : Tryz.prog.cellsOf 3 = 1 := by kernel_rfl
  have cA : Tryz.prog.cellsOf 52 = 5 := by kernel_rfl
  change DataW.trod enc Tryz.prog W 0 (fun _ => true) true n' 5 (((v0 :: v1 :: v2 :: r).drop 0).take (Tryz.prog.cellsOf 5)) = _ at h0
  change DataW.trod enc Tryz.prog W 0 (fun _ => true) true n' 3 (((v0 :: v1 :: v2 :: r).drop 1).take (Tryz.prog.cellsOf 3)) = _ at h1
  change DataW.trod enc Tryz.prog W 0 (fun _ => true) true n' 78 (((v0 :: v1 :: v2 :: r).drop 2).take (Tryz.prog.cellsOf 78)) = _ at h2
  change DataW.trod enc Tryz.prog W 0 (fun _ => true) true n' 52 (((v0 :: v1 :: v2 :: r).drop 3).take (Tryz.prog.cellsOf 52)) = _ at h3
  rw [c8] at h0
  rw [cI] at h1
  rw [c64] at h2
  rw [cA] at h3
  have hy4 : ys.length = 4 := hyl
  have hys : ∀ j, j < 4 → ∃ y, ys[j]? = some y := fun j hj => ⟨ys[j]'(by omega), List.getElem?_eq_getElem (by omega)⟩
  obtain ⟨y0, e0⟩ := hys 0 (by omega)
  obtain ⟨y1, e1⟩ := hys 1 (by omega)
  obtain ⟨y2, e2⟩ := hys 2 (by omega)
  obtain ⟨y3, e3⟩ := hys 3 (by omega)
  rw [e0] at h0
  rw [e1] at h1
  rw [e2] at h2
  rw [e3] at h3
  have h3' : DataW.trod enc Tryz.prog W 0 (fun _ => true) true n' 52 r = some y3 := by
    have e : ((v0 :: v1 :: v2 :: r).drop 3).take 5 = r := by
      show r.take 5 = r
      exact List.take_of_length_le (by omega)
    rw [e] at h3
    exact h3
  obtain ⟨K, k0, _, wK⟩ := DataW.trod_int Tryz.underlying5 h0
  obtain ⟨I, k1, _, wI⟩ := DataW.trod_int Tryz.underlying3 h1
  obtain ⟨V, k2, _, wV⟩ := DataW.trod_int Tryz.underlying78 h2
  obtain ⟨a, rfl, wa⟩ := cells_act h3'
  simp only [List.drop_zero, List.drop_succ_cons, List.take_succ_cons, List.take_zero, List.cons.injEq, and_true] at k0 k1 k2
  subst k0 k1 k2
  have b0 : 0 ≤ K ∧ K < 256 := by simp [Lit.wf, IntKind.min, IntKind.max, IntKind.signed, IntKind.bits] at wK; omega
  have b1 : -9223372036854775808 ≤ I ∧ I ≤ 9223372036854775807 := by simp [Lit.wf, IntKind.min, IntKind.max, IntKind.signed, IntKind.bits] at wI; omega
  have b2 : 0 ≤ V ∧ V < 18446744073709551616 := by simp [Lit.wf, IntKind.min, IntKind.max, IntKind.signed, IntKind.bits] at wV; omega
  refine ⟨⟨K.toNat, I, V.toNat, a⟩, ?_, ⟨by simp only; omega, b1.1, b1.2, by simp only; omega, wa⟩⟩
  simp only [sactc, actc, Int.toNat_of_nonneg b0.1, Int.toNat_of_nonneg b2.1]
theorem open_sact (hv : Value.okWide Tryz.prog W .any base 82 v) (h : DataW.Trod enc Tryz.prog W 0 (fun _ => true) true 82 v d ps) : ∃ a : SAct, v = .agg (sactc a) ∧ SActWf a := by
  obtain ⟨cs, rfl, hsz⟩ := okWide_struct Tryz.underlying82 hv
  obtain ⟨fuel, hf⟩ := h
  obtain ⟨a, ha, wa⟩ := cells_sact hf
  refine ⟨a, ?_, wa⟩
  obtain ⟨l⟩ := cs
  have : l = (sactc a).toList := ha
  rw [this]
theorem each_sact {Q : Nat → SAct → Prop} : ∀ (n : Nat), (∀ i, i < n → ∃ a, Q i a) → ∃ l : List SAct, l.length = n ∧ ∀ i a, l[i]? = some a → Q i a
  | 0, _ => ⟨[], rfl, fun i a h => by simp at h⟩
  | n + 1, h => by
    obtain ⟨l, hl, hq⟩ := each_sact n (fun i hi => h i (by omega))
    obtain ⟨a, ha⟩ := h n (by omega)
    refine ⟨l ++ [a], by simp [hl], fun i b hb => ?_⟩
    by_cases hi : i < n
    · rw [List.getElem?_append_left (by omega)] at hb
      exact hq i b hb
    · rw [List.getElem?_append_right (by omega)] at hb
      have : i = n := by
        have := (List.getElem?_eq_some_iff.1 hb).1
        simp at this
        omega
      subst this
      rw [hl, Nat.sub_self] at hb
      simp at hb
      subst hb
      exact ha
open Go.Deep in
theorem trod_sacts {fuel : Nat} {x : DataW H × List MemPlace} (hf : DataW.trod enc Tryz.prog W 0 (fun _ => true) true fuel 87 [v] = some x) :
    ∃ A n c, ∃ l : List SAct, v = .slice A n c ∧ n ≤ c ∧ c ≤ maxLen ∧ SActsR W W.heap.size A n l := by
  rcases open_slice Tryz.underlying87 hf with ⟨hcs, _⟩ | ⟨a, n, c, m, nf, D, Pl, hcs, hb, hl, hm, hmm, hx, hi⟩
  · injection hcs with hcs _
    exact ⟨_, _, _, [], hcs, Nat.le_refl _, by unfold maxLen; omega, rfl, by simp, fun i a h => by simp at h⟩
  · injection hcs with hcs _
    subst hcs
    have c8 : Tryz.prog.cellsOf 82 = 8 := by kernel_rfl
    have hone : ∀ i, i < n → ∃ s : SAct, SActWf s ∧ ∀ (j : Nat) (u : Value), (sactc s)[j]? = some u → W.cell? ((a.add (i * 8)).add j) = some u := fun i hin => by
      obtain ⟨cs', hc, ht'⟩ := hi i (by rw [hmm]; simp; omega)
      obtain ⟨s, rfl, ws⟩ := cells_sact ht'
      rw [c8] at hc
      obtain ⟨_, hcl, hat⟩ := World.cells?_some hc
      refine ⟨s, ws, fun j u hu => ?_⟩
      have hj : j < 8 := by
        have := (Array.getElem?_eq_some_iff.1 hu).1
        simpa [sactc] using this
      rw [hat j hj, Array.getElem?_toList]
      exact hu
    have hs0 : 0 < n → a.spot = none := fun h0 => by
      obtain ⟨s, _, hc⟩ := hone 0 h0
      have := hc 0 _ rfl
      simpa [Addr.add] using World.cell?_spot this
    obtain ⟨l, hlen, hq⟩ := each_sact (Q := fun i x => SActWf x ∧ ∃ b o, some a = some (⟨b, o, none⟩ : Addr) ∧ b < W.heap.size ∧ ∀ (j : Nat) (u : Value), (sactc x)[j]? = some u → W.cell? ⟨b, o + i * 8 + j, none⟩ = some u) n (fun i hin => by
      obtain ⟨s, ws, hc⟩ := hone i hin
      have hs := hs0 (by omega)
      obtain ⟨b, o, sp⟩ := a
      simp only at hs
      subst hs
      have hc' : ∀ (j : Nat) (u : Value), (sactc s)[j]? = some u → W.cell? ⟨b, o + i * 8 + j, none⟩ = some u := fun j u hu => by
        have := hc j u hu
        rw [Addr.add_lit, Addr.add_lit] at this
        exact this
      exact ⟨s, ws, b, o, rfl, World.block_lt_of_cell? W _ (hc' 0 _ rfl), hc'⟩)
    exact ⟨_, _, _, l, rfl, hl, hm, hlen, fun x hx => by
      obtain ⟨i, hil, rfl⟩ := List.mem_iff_getElem.1 hx
      exact (hq i _ (List.getElem?_eq_getElem hil)).1, fun i x hx => (hq i x hx).2⟩
theorem open_sacts (hv : Value.okWide Tryz.prog W .any base 87 v) (h : DataW.Trod enc Tryz.prog W 0 (fun _ => true) true 87 v d ps) :
    ∃ A n c, ∃ l : List SAct, v = .slice A n c ∧ n ≤ c ∧ c ≤ maxLen ∧ SActsR W W.heap.size A n l := by
  obtain ⟨A, n, c, rfl⟩ := okWide_slice Tryz.underlying87 hv
  obtain ⟨fuel, hf⟩ := h
  obtain ⟨A', n', c', l, e, h1, h2, h3⟩ := trod_sacts (v := .slice A n c) hf
  injection e with e1 e2 e3
  subst e1 e2 e3
  exact ⟨_, _, _, l, rfl, h1, h2, h3⟩
theorem okWide_arr {P : Program} {n : Nat} {t e : TypeId} (ht : P.underlying t = some (.array n e)) (h : Value.okWide P W .any base t v) : ∃ cs, v = .agg cs ∧ cs.size = P.cellsOf t := by
  simp only [Value.okWide, ht] at h
  obtain ⟨cs, h1, h2, _⟩ := h
  exact ⟨cs, h1, h2⟩
theorem open_sacts2 (hv : Value.okWide Tryz.prog W .any base 114 v) (h : DataW.Trod enc Tryz.prog W 0 (fun _ => true) true 114 v d ps) :
    ∃ A0 n0 c0 A1 n1 c1, ∃ l0 l1 : List SAct, v = .agg #[.slice A0 n0 c0, .slice A1 n1 c1] ∧ n0 ≤ c0 ∧ c0 ≤ maxLen ∧ n1 ≤ c1 ∧ c1 ≤ maxLen ∧ SActsR W W.heap.size A0 n0 l0 ∧ SActsR W W.heap.size A1 n1 l1 := by
  obtain ⟨cs, rfl, hsz⟩ := okWide_arr Tryz.underlying114 hv
  obtain ⟨fuel, hf⟩ := h
  obtain ⟨xs, m, _, _, hl, hxl, hi⟩ := DataW.trod_array Tryz.underlying114 hf
  obtain ⟨l⟩ := cs
  have hl2 : l.length = 2 := hsz
  obtain ⟨v0, v1, rfl⟩ : ∃ v0 v1, l = [v0, v1] := by
    match l, hl2 with
    | [a, b], _ => exact ⟨a, b, rfl⟩
  have hcell : Tryz.prog.cellsOf 87 = 1 := by kernel_rfl
  have h0 := hi 0 (by omega)
  have h1 := hi 1 (by omega)
  rw [hcell] at h0 h1
  have g0 : DataW.trod enc Tryz.prog W 0 (fun _ => true) true m 87 [v0] = xs[0]? := h0
  have g1 : DataW.trod enc Tryz.prog W 0 (fun _ => true) true m 87 [v1] = xs[1]? := h1
  rw [List.getElem?_eq_getElem (by omega)] at g0 g1
  obtain ⟨A0, n0, c0, l0, rfl, a1, a2, a3⟩ := trod_sacts g0
  obtain ⟨A1, n1, c1, l1, rfl, b1, b2, b3⟩ := trod_sacts g1
  exact ⟨A0, n0, c0, A1, n1, c1, l0, l1, rfl, a1, a2, b1, b2, a3, b3⟩
theorem open_ask (hv : Value.okWide Tryz.prog W .any base 85 v) (h : DataW.Trod enc Tryz.prog W 0 (fun _ => true) true 85 v d ps) :
    ∃ (nm : List UInt8) (yn ym z0 z1 : Int), v = .agg #[.string ⟨nm.toArray⟩, .int .i64 yn, .int .i64 ym, .int .u8 z0, .int .u8 z1] ∧ nm.length ≤ 9223372036854775807 ∧ (-9223372036854775808 ≤ yn ∧ yn ≤ 9223372036854775807) ∧ (-9223372036854775808 ≤ ym ∧ ym ≤ 9223372036854775807) ∧ (0 ≤ z0 ∧ z0 < 256) ∧ (0 ≤ z1 ∧ z1 < 256) := by
  obtain ⟨cs, rfl, hsz⟩ := okWide_struct Tryz.underlying85 hv
  obtain ⟨fuel, hf⟩ := h
  obtain ⟨ys, n', hn', hy, hlen, hyl, hff⟩ := DataW.trod_struct Tryz.underlying85 hf
  obtain ⟨l⟩ := cs
  have hl5 : l.length = 5 := hsz.trans (by kernel_rfl)
  obtain ⟨v0, v1, v2, v3, v4, rfl⟩ : ∃ v0 v1 v2 v3 v4, l = [v0, v1, v2, v3, v4] := by
    match l, hl5 with
    | [a, b, c, d, e], _ => exact ⟨a, b, c, d, e, rfl⟩
  have h0 := hff 0 _ rfl
  have h1 := hff 1 _ rfl
  have h2 := hff 2 _ rfl
  have h3 := hff 3 _ rfl
  have c8 : Tryz.prog.cellsOf 5 = 1 := by kernel_rfl
  have cS : Tryz.prog.cellsOf 9 = 1 := by kernel_rfl
  have cI : Tryz.prog.cellsOf 3 = 1 := by kernel_rfl
  have cZ : Tryz.prog.cellsOf 83 = 2 := by kernel_rfl
  change DataW.trod enc Tryz.prog W 0 (fun _ => true) true n' 9 (([v0, v1, v2, v3, v4].drop 0).take (Tryz.prog.cellsOf 9)) = _ at h0
  change DataW.trod enc Tryz.prog W 0 (fun _ => true) true n' 3 (([v0, v1, v2, v3, v4].drop 1).take (Tryz.prog.cellsOf 3)) = _ at h1
  change DataW.trod enc Tryz.prog W 0 (fun _ => true) true n' 3 (([v0, v1, v2, v3, v4].drop 2).take (Tryz.prog.cellsOf 3)) = _ at h2
  change DataW.trod enc Tryz.prog W 0 (fun _ => true) true n' 83 (([v0, v1, v2, v3, v4].drop 3).take (Tryz.prog.cellsOf 83)) = _ at h3
  rw [cS] at h0
  rw [cI] at h1 h2
  rw [cZ] at h3
  have hy4 : ys.length = 4 := hyl
  have hys : ∀ j, j < 4 → ∃ y, ys[j]? = some y := fun j hj => ⟨ys[j]'(by omega), List.getElem?_eq_getElem (by omega)⟩
  obtain ⟨y0, e0⟩ := hys 0 (by omega)
  obtain ⟨y1, e1⟩ := hys 1 (by omega)
  obtain ⟨y2, e2⟩ := hys 2 (by omega)
  obtain ⟨y3, e3⟩ := hys 3 (by omega)
  rw [e0] at h0
  rw [e1] at h1
  rw [e2] at h2
  rw [e3] at h3
  obtain ⟨xs, m, _, _, hl, hxl, hi⟩ := DataW.trod_array Tryz.underlying83 h3
  have i0 := hi 0 (by omega)
  have i1 := hi 1 (by omega)
  rw [c8] at i0 i1
  have g0 : DataW.trod enc Tryz.prog W 0 (fun _ => true) true m 5 [v3] = xs[0]? := i0
  have g1 : DataW.trod enc Tryz.prog W 0 (fun _ => true) true m 5 [v4] = xs[1]? := i1
  rw [List.getElem?_eq_getElem (by omega)] at g0 g1
  obtain ⟨N, k0, _, wN⟩ := DataW.trod_string Tryz.underlying9 h0
  obtain ⟨I, k1, _, wI⟩ := DataW.trod_int Tryz.underlying3 h1
  obtain ⟨J, k2, _, wJ⟩ := DataW.trod_int Tryz.underlying3 h2
  obtain ⟨K, k3, _, wK⟩ := DataW.trod_int Tryz.underlying5 g0
  obtain ⟨L, k4, _, wL⟩ := DataW.trod_int Tryz.underlying5 g1
  simp only [List.drop_zero, List.drop_succ_cons, List.take_succ_cons, List.take_zero, List.cons.injEq, and_true] at k0 k1 k2 k3 k4
  subst k0 k1 k2 k3 k4
  have b1 : -9223372036854775808 ≤ I ∧ I ≤ 9223372036854775807 := by simp [Lit.wf, IntKind.min, IntKind.max, IntKind.signed, IntKind.bits] at wI; omega
  have b2 : -9223372036854775808 ≤ J ∧ J ≤ 9223372036854775807 := by simp [Lit.wf, IntKind.min, IntKind.max, IntKind.signed, IntKind.bits] at wJ; omega
  have b3 : 0 ≤ K ∧ K < 256 := by simp [Lit.wf, IntKind.min, IntKind.max, IntKind.signed, IntKind.bits] at wK; omega
  have b4 : 0 ≤ L ∧ L < 256 := by simp [Lit.wf, IntKind.min, IntKind.max, IntKind.signed, IntKind.bits] at wL; omega
  refine ⟨N.data.toList, I, J, K, L, rfl, ?_, b1, b2, b3, b4⟩
  have : N.size ≤ maxLen := by assumption
  have e : N.data.toList.length = N.size := by simp
  rw [e]; unfold maxLen at this; omega
end
end Go.Proofs.YtkhbemmcegmdaaaGreatDoor.frame
end
section
set_option linter.all false
set_option linter.unusedVariables false
set_option maxRecDepth 100000
namespace Go.Proofs.YtkhbemmcegmdaaaGreatDoor
open Go.RowKit

section
variable {w W W' : World} {Z S : Nat → Prop} {sb cb fb N most cm segs K : Nat} {room : Int} {n : Name} {t : SSt} {s : CSt} {d : Int}
theorem sfill_none {v : Value} (h : SNone w v) (y : Int) : Calls Tryz.prog 88 #[v, .int .u64 y] w fun e w' => e = .returned (.int .i64 1) ∧ w = w' := by
  have HS := hide (sstate_none h)
  clear h
  go_enter Tryz.func88, Tryz.ntmps88
  go_wp2_with fail
  go_at_call 132
  refine HS.out.mono ?_
  rintro e w2 ⟨rfl, rfl⟩
  go_wp2
  go_ret
  exact ⟨rfl, rfl⟩
theorem sfill_over (h : SEnd w sb cb n N most d) (y : Int) : Calls Tryz.prog 88 #[.pointer (some ⟨sb, 0, none⟩), .int .u64 y] w fun e w' => e = .returned (.int .i64 150) ∧ w = w' := by
  have HS := hide (sstate_over h)
  clear h
  go_enter Tryz.func88, Tryz.ntmps88
  go_wp2_with fail
  go_at_call 132
  refine HS.out.mono ?_
  rintro e w2 ⟨rfl, rfl⟩
  go_wp2
  go_ret
  exact ⟨rfl, rfl⟩
/-- a number of a store -/
def vget (F : FileL) (n : Name) (t : SSt) (i : Nat) : Nat := (sval F n t (i / 8)).getD (i % 8) 0
theorem sval_len {F : FileL} (h : SInv n segs most t F) (k : Nat) : (sval F n t k).length = 8 := by
  unfold sval
  cases hf : t.T.find? fun g => decide (g.key = k) with
  | some g => exact (h.tv g (List.mem_of_find?_eq_some hf)).1
  | none =>
    simp only
    unfold sbase
    split
    · exact decs_len _
    · simp [zeros8]
theorem vget_set {F F' : FileL} {t' : SSt} (h : SInv n segs most t F) {k y : Nat} (hs : ∀ j, sval F' n t' j = if j = k / 8 then (sval F n t j).set (k % 8) y else sval F n t j) (i : Nat) : vget F' n t' i = if i = k then y else vget F n t i := by
  unfold vget
  rw [hs]
  have hl := sval_len h (i / 8)
  by_cases e : i / 8 = k / 8
  · rw [if_pos e, List.getD_eq_getElem?_getD]
    by_cases e2 : i = k
    · subst e2
      rw [if_pos rfl, List.getElem?_set_self (by rw [hl]; omega)]
      rfl
    · rw [if_neg e2, List.getElem?_set_ne (by omega), List.getD_eq_getElem?_getD]
  · rw [if_neg e, if_neg (fun h => e (by rw [h]))]
theorem vget_same {F F' : FileL} {t' : SSt} (hs : ∀ j, sval F' n t' j = sval F n t j) (i : Nat) : vget F' n t' i = vget F n t i := by unfold vget; rw [hs]
theorem sfill_ok (h : SLaw Z W sb cb fb n N most segs room cm K t s) (hp : SPar N most segs) (hK : K + N ≤ 1000000) (y : Nat) (hy : y < 18446744073709551616) : Calls Tryz.prog 88 #[.pointer (some ⟨sb, 0, none⟩), .int .u64 (y : Int)] W fun e W' =>
      (e = .returned (.int .i64 0) ∧ ∃ t' s', SLaw Z W' sb cb fb n N most segs room cm (K + N) t' s' ∧ SKeep n (2 * N) t s t' s' ∧ (∀ i, i < N → vget s'.F n t' i = y) ∧ Fr (fun j => ¬ Z j) W W') ∨
      (e = .returned (.int .i64 60) ∧ s.left ≠ -1 ∧ ∃ s', SDead Z W' sb cb fb n N most room cm 0 s' ∧ (∀ m, m ≠ n → fpg m s'.F = fpg m s.F) ∧ Fr (fun j => ¬ Z j) W W') := by
  have HL := hide h.len
  have HP := hide hp
  have HKN := hide hK
  have HY := hide hy
  have HH := hide h
  have hN0 := hp.n256
  obtain ⟨tb, pb, ask, X, Y, Q, clock, hm, _⟩ := h.mem
  have HS := hide (sstate_open hm.rep)
  clear h hm hp hK hy
  go_enter Tryz.func88, Tryz.ntmps88
  go_wp2_with fail
  go_at_call 132
  refine HS.out.mono ?_
  rintro e w2 ⟨rfl, rfl⟩
  go_wp2_with fail
  have HF : Hid (Calls Tryz.prog 134 #[.iface 73 (.pointer (some ⟨sb, 0, none⟩)), .int .u64 (y : Int)] W fun e W' =>
      (e = .returned (.int .i64 0) ∧ ∃ t' s', SLaw Z W' sb cb fb n N most segs room cm (K + N) t' s' ∧ SKeep n (2 * N) t s t' s' ∧ (∀ i, i < N → vget s'.F n t' i = y) ∧ Fr (fun j => ¬ Z j) W W') ∨
      (e = .returned (.int .i64 60) ∧ s.left ≠ -1 ∧ ∃ s', SDead Z W' sb cb fb n N most room cm 0 s' ∧ (∀ m, m ≠ n → fpg m s'.F = fpg m s.F) ∧ Fr (fun j => ¬ Z j) W W')) := by
    show Calls _ _ _ _ _
    go_enter Tryz.func134, Tryz.ntmps134
    go_wp2_with fail
    go_at_call 49
    refine HL.out.mono ?_
    rintro e w2 ⟨rfl, rfl⟩
    go_wp2
    go_loopw [9] (fun i wr => ∃ (k : Nat) (t' : SSt) (s' : CSt), i = .int .i64 (k : Int) ∧ k ≤ N ∧ SLaw Z wr sb cb fb n N most segs room cm (K + k) t' s' ∧ SKeep n (2 * k) t s t' s' ∧ (∀ i, i < k → vget s'.F n t' i = y) ∧ Fr (fun j => ¬ Z j) W wr) (fun i _ => N - (intOf i).toNat)
    case atStart => exact ⟨0, t, s, rfl, by omega, HH.out, SKeep.refl _ _ _ _ _ rfl, fun i hi => absurd hi (Nat.not_lt_zero _), Fr.refl _ _⟩
    case round =>
      obtain ⟨k, t1, s1, rfl, hk, hst, hkp, hvs, hff⟩ := hrel
      have H1 := hide (And.intro hst (And.intro hkp (And.intro hvs hff)))
      clear hst hkp hvs hff
      by_cases hlt : k < N
      · have u0 : (k : Int) < (N : Int) := by omega
        have hK2 : K + k ≤ 1000000 := by have := HKN.out; omega
        have HG := hide (H1.out.1.set HP.out hK2 k y hlt HY.out)
        have u1 : wrap64 ((k : Int) + 1) = (k : Int) + 1 := by clear hK2; unfold wrap64; omega
        have u2 : IntKind.i64.wrap ((k : Int) + 1) = (k : Int) + 1 := by clear hK2 u1; exact i64_same (by omega) (by omega)
        go_wp2_with fail
        go_at_call 42
        refine HG.out.mono ?_
        rintro e W5 (⟨rfl, t2, s2, _, hl, hkp, hv, hff⟩ | ⟨rfl, h0, s2, hd, ho, hff⟩)
        · have hvg := vget_set H1.out.1.ok.inv hv
          have H2 := hide (And.intro hl (And.intro (H1.out.2.1.trans hkp) (And.intro hvg (H1.out.2.2.2.trans hff (fun j h => .inl h)))))
          clear hl hkp hv hff hvg
          go_wp2
          go_roundw
          case rel =>
            refine ⟨k + 1, _, s2, by go_num, hlt, H2.out.1, H2.out.2.1, fun i hi => ?_, H2.out.2.2.2⟩
            rw [H2.out.2.2.1]
            by_cases e : i = k
            · rw [if_pos e]
            · rw [if_neg e]; exact H1.out.2.2.1 i (by omega)
          case measure => clear u1 u2; simp [intOf]; omega
        · have H2 := hide (show s.left ≠ -1 ∧ ∃ s', SDead Z W5 sb cb fb n N most room cm 0 s' ∧ (∀ m, m ≠ n → fpg m s'.F = fpg m s.F) ∧ Fr (fun j => ¬ Z j) W W5 from ⟨fun e => by have := H1.out.2.1.lft e; omega, s2, hd, fun m hm => (ho m hm).trans (H1.out.2.1.oth m hm), H1.out.2.2.2.trans hff (fun j h => .inl h)⟩)
          clear h0 hd ho hff
          go_wp2
          go_ret
          exact .inr ⟨rfl, H2.out⟩
      · obtain rfl : k = N := by omega
        go_wp2
        go_ret
        exact .inl ⟨rfl, t1, s1, H1.out⟩
  go_at_call 134
  refine HF.out.mono ?_
  rintro e W' (⟨rfl, hr⟩ | ⟨rfl, hr⟩)
  · have HR := hide hr
    clear hr
    go_wp2
    go_ret
    exact .inl ⟨rfl, HR.out⟩
  · have HR := hide hr
    clear hr
    go_wp2
    go_ret
    exact .inr ⟨rfl, HR.out⟩
end
end Go.Proofs.YtkhbemmcegmdaaaGreatDoor
end
