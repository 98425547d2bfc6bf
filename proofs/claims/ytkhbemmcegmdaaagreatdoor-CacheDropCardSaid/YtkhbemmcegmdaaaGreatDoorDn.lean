/- carousellaw07.Done, Made, by contract. -/
import Derived.Test.YtkhbemmcegmdaaaGreatDoorFv
import Derived.Test.YtkhbemmcegmdaaaGreatDoorCj
import Derived.Test.YtkhbemmcegmdaaaGreatDoorCd
import Derived.Test.YtkhbemmcegmdaaaGreatDoorCp
set_option linter.all false
set_option linter.unusedVariables false
set_option maxRecDepth 100000
namespace Go.Proofs.YtkhbemmcegmdaaaGreatDoor
open Go.RowKit
open Go.ChangeMaps (setBlock)

def actc (a : CAct) : Array Value := #[.int .u8 (a.kind : Int), .string ⟨a.name.toArray⟩, .int .i64 a.i, .string ⟨a.data.toArray⟩, .int .u8 (a.x.toNat : Int)]
/-- an act that is gone through -/
structure ActOk (a : CAct) : Prop where
  kind : a.kind < 256
  name : a.name.length ≤ 40
  data : a.data.length ≤ 400
  lo : -9223372036854775808 ≤ a.i
  hi : a.i ≤ 9223372036854775807
section
variable {w : World} {fb cb most : Nat} {X : Nat → Prop} {room left : Int} {F : FileL} {s : CSt}
theorem done_get0 (h : CAt w cb fb X room most s) (hI : CInv room most s) (a : CAct) (ha : ActOk a) (hc : s.clk + 1 ≤ 9223372036854775806) (hk : a.kind % 10 = 0) : Calls Tryz.prog 27 #[.pointer (some ⟨cb, 0, none⟩), .agg #[.int .u8 (a.kind : Int), .string ⟨a.name.toArray⟩, .int .i64 a.i, .string ⟨a.data.toArray⟩, .int .u8 (a.x.toNat : Int)]] w fun e w' =>
    e = .returned (.tuple #[.string ⟨(cstep room most a s).1.toArray⟩, .int .i64 (cstep room most a s).2.1]) ∧ (∃ X', CAt w' cb fb X' room most (cstep room most a s).2.2 ∧ ∀ j, X' j → X j ∨ w.heap.size ≤ j) ∧ Fr X w w' := by
  obtain ⟨W3, hW3⟩ : ∃ W3, W3 = w.alloc (.cells #[.int .u8 (a.kind : Int), .string ⟨a.name.toArray⟩, .int .i64 a.i, .string ⟨a.data.toArray⟩, .int .u8 (a.x.toNat : Int)] 52) := ⟨_, rfl⟩
  have F3 : Fr (fun _ => False) w W3 := by rw [hW3]; exact (Fr.refl _ _).alloc _
  have HF3 := hide F3
  have HAB : Hid (Blk W3 w.heap.size 52 (actc a)) := by rw [hW3]; exact Blk.new w 52 _
  have HNX : Hid (¬ X w.heap.size) := fun hx => by have := h.lt _ hx; omega
  have HH := hide h
  have HS := hide (fun W (hS : Fr X W3 W) => (⟨((HAB.out.fr hS HNX.out).cell 0).trans rfl, ((HAB.out.fr hS HNX.out).cell 1).trans rfl, ((HAB.out.fr hS HNX.out).cell 2).trans rfl, ((HAB.out.fr hS HNX.out).cell 3).trans rfl, ((HAB.out.fr hS HNX.out).cell 4).trans rfl⟩ : W.cell? ⟨w.heap.size, 0, none⟩ = some (.int .u8 (a.kind : Int)) ∧ W.cell? ⟨w.heap.size, 1, none⟩ = some (.string ⟨a.name.toArray⟩) ∧ W.cell? ⟨w.heap.size, 2, none⟩ = some (.int .i64 a.i) ∧ W.cell? ⟨w.heap.size, 3, none⟩ = some (.string ⟨a.data.toArray⟩) ∧ W.cell? ⟨w.heap.size, 4, none⟩ = some (.int .u8 (a.x.toNat : Int))))
  obtain ⟨s0, s1, s2, s3, s4⟩ := HS.out W3 (Fr.refl _ _)
  have HCS : Hid (cstep room most a s = cget most a.key s) := by
    show cstep room most a s = _
    unfold cstep
    rw [hk]
    try rfl
  rw [HCS.out]
  have hk1 : ((a.kind : Nat) : Int) % 10 = (0 : Int) := by omega
  have hk2 : Int.tmod ((a.kind : Nat) : Int) 10 = (0 : Int) := by rw [Int.tmod_eq_emod_of_nonneg (by omega)]; exact hk1
  have h2 := h.up F3
  have HC := hide (cget_ok h2 hI a.key hc)
  have hkey : a.key = (a.name, a.i) := rfl
  rw [hkey] at HC ⊢
  clear hkey
  have HW3 := hide hW3
  clear h h2 hW3 F3 hI ha hk hk1
  go_enter Tryz.func27, Tryz.ntmps27
  go_wp2_with fail
  rw [← HW3.out]
  go_wp2_with fail
  go_at_call 20
  refine HC.out.mono ?_
  rintro e W5 ⟨rfl, ⟨X', h5, hx5⟩, hf5⟩
  have H5 := hide (And.intro h5 (And.intro hx5 hf5))
  clear h5 hx5 hf5
  go_wp2
  go_ret2
  have hsz := HF3.out.size
  refine ⟨rfl, ⟨X', H5.out.1, fun j hj => ?_⟩, (HF3.out.mono (S' := X) (fun _ h => h.elim)).trans H5.out.2.2 (fun _ h => .inl h)⟩
  rcases H5.out.2.1 j hj with h | h
  · exact .inl h
  · exact .inr (by omega)
theorem done_get1 (h : CAt w cb fb X room most s) (hI : CInv room most s) (a : CAct) (ha : ActOk a) (hc : s.clk + 1 ≤ 9223372036854775806) (hk : a.kind % 10 = 1) : Calls Tryz.prog 27 #[.pointer (some ⟨cb, 0, none⟩), .agg #[.int .u8 (a.kind : Int), .string ⟨a.name.toArray⟩, .int .i64 a.i, .string ⟨a.data.toArray⟩, .int .u8 (a.x.toNat : Int)]] w fun e w' =>
    e = .returned (.tuple #[.string ⟨(cstep room most a s).1.toArray⟩, .int .i64 (cstep room most a s).2.1]) ∧ (∃ X', CAt w' cb fb X' room most (cstep room most a s).2.2 ∧ ∀ j, X' j → X j ∨ w.heap.size ≤ j) ∧ Fr X w w' := by
  obtain ⟨W3, hW3⟩ : ∃ W3, W3 = w.alloc (.cells #[.int .u8 (a.kind : Int), .string ⟨a.name.toArray⟩, .int .i64 a.i, .string ⟨a.data.toArray⟩, .int .u8 (a.x.toNat : Int)] 52) := ⟨_, rfl⟩
  have F3 : Fr (fun _ => False) w W3 := by rw [hW3]; exact (Fr.refl _ _).alloc _
  have HF3 := hide F3
  have HAB : Hid (Blk W3 w.heap.size 52 (actc a)) := by rw [hW3]; exact Blk.new w 52 _
  have HNX : Hid (¬ X w.heap.size) := fun hx => by have := h.lt _ hx; omega
  have HH := hide h
  have HS := hide (fun W (hS : Fr X W3 W) => (⟨((HAB.out.fr hS HNX.out).cell 0).trans rfl, ((HAB.out.fr hS HNX.out).cell 1).trans rfl, ((HAB.out.fr hS HNX.out).cell 2).trans rfl, ((HAB.out.fr hS HNX.out).cell 3).trans rfl, ((HAB.out.fr hS HNX.out).cell 4).trans rfl⟩ : W.cell? ⟨w.heap.size, 0, none⟩ = some (.int .u8 (a.kind : Int)) ∧ W.cell? ⟨w.heap.size, 1, none⟩ = some (.string ⟨a.name.toArray⟩) ∧ W.cell? ⟨w.heap.size, 2, none⟩ = some (.int .i64 a.i) ∧ W.cell? ⟨w.heap.size, 3, none⟩ = some (.string ⟨a.data.toArray⟩) ∧ W.cell? ⟨w.heap.size, 4, none⟩ = some (.int .u8 (a.x.toNat : Int))))
  obtain ⟨s0, s1, s2, s3, s4⟩ := HS.out W3 (Fr.refl _ _)
  have HCS : Hid (cstep room most a s = cget most a.key s) := by
    show cstep room most a s = _
    unfold cstep
    rw [hk]
    try rfl
  rw [HCS.out]
  have hk1 : ((a.kind : Nat) : Int) % 10 = (1 : Int) := by omega
  have hk2 : Int.tmod ((a.kind : Nat) : Int) 10 = (1 : Int) := by rw [Int.tmod_eq_emod_of_nonneg (by omega)]; exact hk1
  have h2 := h.up F3
  have HC := hide (cget_ok h2 hI a.key hc)
  have hkey : a.key = (a.name, a.i) := rfl
  rw [hkey] at HC ⊢
  clear hkey
  have HW3 := hide hW3
  clear h h2 hW3 F3 hI ha hk hk1
  go_enter Tryz.func27, Tryz.ntmps27
  go_wp2_with fail
  rw [← HW3.out]
  go_wp2_with fail
  go_at_call 20
  refine HC.out.mono ?_
  rintro e W5 ⟨rfl, ⟨X', h5, hx5⟩, hf5⟩
  have H5 := hide (And.intro h5 (And.intro hx5 hf5))
  clear h5 hx5 hf5
  go_wp2
  go_ret2
  have hsz := HF3.out.size
  refine ⟨rfl, ⟨X', H5.out.1, fun j hj => ?_⟩, (HF3.out.mono (S' := X) (fun _ h => h.elim)).trans H5.out.2.2 (fun _ h => .inl h)⟩
  rcases H5.out.2.1 j hj with h | h
  · exact .inl h
  · exact .inr (by omega)
theorem done_pin (h : CAt w cb fb X room most s) (hI : CInv room most s) (a : CAct) (ha : ActOk a) (hc : s.clk + 1 ≤ 9223372036854775806) (hk : a.kind % 10 = 2) : Calls Tryz.prog 27 #[.pointer (some ⟨cb, 0, none⟩), .agg #[.int .u8 (a.kind : Int), .string ⟨a.name.toArray⟩, .int .i64 a.i, .string ⟨a.data.toArray⟩, .int .u8 (a.x.toNat : Int)]] w fun e w' =>
    e = .returned (.tuple #[.string ⟨(cstep room most a s).1.toArray⟩, .int .i64 (cstep room most a s).2.1]) ∧ (∃ X', CAt w' cb fb X' room most (cstep room most a s).2.2 ∧ ∀ j, X' j → X j ∨ w.heap.size ≤ j) ∧ Fr X w w' := by
  obtain ⟨W3, hW3⟩ : ∃ W3, W3 = w.alloc (.cells #[.int .u8 (a.kind : Int), .string ⟨a.name.toArray⟩, .int .i64 a.i, .string ⟨a.data.toArray⟩, .int .u8 (a.x.toNat : Int)] 52) := ⟨_, rfl⟩
  have F3 : Fr (fun _ => False) w W3 := by rw [hW3]; exact (Fr.refl _ _).alloc _
  have HF3 := hide F3
  have HAB : Hid (Blk W3 w.heap.size 52 (actc a)) := by rw [hW3]; exact Blk.new w 52 _
  have HNX : Hid (¬ X w.heap.size) := fun hx => by have := h.lt _ hx; omega
  have HH := hide h
  have HS := hide (fun W (hS : Fr X W3 W) => (⟨((HAB.out.fr hS HNX.out).cell 0).trans rfl, ((HAB.out.fr hS HNX.out).cell 1).trans rfl, ((HAB.out.fr hS HNX.out).cell 2).trans rfl, ((HAB.out.fr hS HNX.out).cell 3).trans rfl, ((HAB.out.fr hS HNX.out).cell 4).trans rfl⟩ : W.cell? ⟨w.heap.size, 0, none⟩ = some (.int .u8 (a.kind : Int)) ∧ W.cell? ⟨w.heap.size, 1, none⟩ = some (.string ⟨a.name.toArray⟩) ∧ W.cell? ⟨w.heap.size, 2, none⟩ = some (.int .i64 a.i) ∧ W.cell? ⟨w.heap.size, 3, none⟩ = some (.string ⟨a.data.toArray⟩) ∧ W.cell? ⟨w.heap.size, 4, none⟩ = some (.int .u8 (a.x.toNat : Int))))
  obtain ⟨s0, s1, s2, s3, s4⟩ := HS.out W3 (Fr.refl _ _)
  have HCS : Hid (cstep room most a s = cpin most a.key s) := by
    show cstep room most a s = _
    unfold cstep
    rw [hk]
    try rfl
  rw [HCS.out]
  have hk1 : ((a.kind : Nat) : Int) % 10 = (2 : Int) := by omega
  have hk2 : Int.tmod ((a.kind : Nat) : Int) 10 = (2 : Int) := by rw [Int.tmod_eq_emod_of_nonneg (by omega)]; exact hk1
  have h2 := h.up F3
  have HC := hide (cpin_ok h2 hI a.key hc)
  have hkey : a.key = (a.name, a.i) := rfl
  rw [hkey] at HC ⊢
  clear hkey
  have HW3 := hide hW3
  clear h h2 hW3 F3 hI ha hk hk1
  go_enter Tryz.func27, Tryz.ntmps27
  go_wp2_with fail
  rw [← HW3.out]
  go_wp2_with fail
  go_at_call 39
  refine HC.out.mono ?_
  rintro e W5 ⟨rfl, ⟨X', h5, hx5⟩, hf5⟩
  have H5 := hide (And.intro h5 (And.intro hx5 hf5))
  clear h5 hx5 hf5
  go_wp2
  go_ret2
  have hsz := HF3.out.size
  refine ⟨rfl, ⟨X', H5.out.1, fun j hj => ?_⟩, (HF3.out.mono (S' := X) (fun _ h => h.elim)).trans H5.out.2.2 (fun _ h => .inl h)⟩
  rcases H5.out.2.1 j hj with h | h
  · exact .inl h
  · exact .inr (by omega)
theorem done_unpin (h : CAt w cb fb X room most s) (hI : CInv room most s) (a : CAct) (ha : ActOk a) (hc : s.clk + 1 ≤ 9223372036854775806) (hk : a.kind % 10 = 3) : Calls Tryz.prog 27 #[.pointer (some ⟨cb, 0, none⟩), .agg #[.int .u8 (a.kind : Int), .string ⟨a.name.toArray⟩, .int .i64 a.i, .string ⟨a.data.toArray⟩, .int .u8 (a.x.toNat : Int)]] w fun e w' =>
    e = .returned (.tuple #[.string ⟨(cstep room most a s).1.toArray⟩, .int .i64 (cstep room most a s).2.1]) ∧ (∃ X', CAt w' cb fb X' room most (cstep room most a s).2.2 ∧ ∀ j, X' j → X j ∨ w.heap.size ≤ j) ∧ Fr X w w' := by
  obtain ⟨W3, hW3⟩ : ∃ W3, W3 = w.alloc (.cells #[.int .u8 (a.kind : Int), .string ⟨a.name.toArray⟩, .int .i64 a.i, .string ⟨a.data.toArray⟩, .int .u8 (a.x.toNat : Int)] 52) := ⟨_, rfl⟩
  have F3 : Fr (fun _ => False) w W3 := by rw [hW3]; exact (Fr.refl _ _).alloc _
  have HF3 := hide F3
  have HAB : Hid (Blk W3 w.heap.size 52 (actc a)) := by rw [hW3]; exact Blk.new w 52 _
  have HNX : Hid (¬ X w.heap.size) := fun hx => by have := h.lt _ hx; omega
  have HH := hide h
  have HS := hide (fun W (hS : Fr X W3 W) => (⟨((HAB.out.fr hS HNX.out).cell 0).trans rfl, ((HAB.out.fr hS HNX.out).cell 1).trans rfl, ((HAB.out.fr hS HNX.out).cell 2).trans rfl, ((HAB.out.fr hS HNX.out).cell 3).trans rfl, ((HAB.out.fr hS HNX.out).cell 4).trans rfl⟩ : W.cell? ⟨w.heap.size, 0, none⟩ = some (.int .u8 (a.kind : Int)) ∧ W.cell? ⟨w.heap.size, 1, none⟩ = some (.string ⟨a.name.toArray⟩) ∧ W.cell? ⟨w.heap.size, 2, none⟩ = some (.int .i64 a.i) ∧ W.cell? ⟨w.heap.size, 3, none⟩ = some (.string ⟨a.data.toArray⟩) ∧ W.cell? ⟨w.heap.size, 4, none⟩ = some (.int .u8 (a.x.toNat : Int))))
  obtain ⟨s0, s1, s2, s3, s4⟩ := HS.out W3 (Fr.refl _ _)
  have HCS : Hid (cstep room most a s = ([], cunpin a.key s)) := by
    show cstep room most a s = _
    unfold cstep
    rw [hk]
    try rfl
  rw [HCS.out]
  have hk1 : ((a.kind : Nat) : Int) % 10 = (3 : Int) := by omega
  have hk2 : Int.tmod ((a.kind : Nat) : Int) 10 = (3 : Int) := by rw [Int.tmod_eq_emod_of_nonneg (by omega)]; exact hk1
  have h2 := h.up F3
  have HC := hide (cunpin_ok h2 hI a.key (by omega))
  have hkey : a.key = (a.name, a.i) := rfl
  rw [hkey] at HC ⊢
  clear hkey
  have HW3 := hide hW3
  clear h h2 hW3 F3 hI ha hk hk1
  go_enter Tryz.func27, Tryz.ntmps27
  go_wp2_with fail
  rw [← HW3.out]
  go_wp2_with fail
  go_at_call 40
  refine HC.out.mono ?_
  rintro e W5 ⟨rfl, h5, hf5⟩
  have H5 := hide (And.intro h5 hf5)
  clear h5 hf5
  go_wp2
  go_ret2
  exact ⟨rfl, ⟨X, H5.out.1, fun j hj => .inl hj⟩, (HF3.out.mono (S' := X) (fun _ h => h.elim)).trans H5.out.2 (fun _ h => .inl h)⟩
theorem done_put (h : CAt w cb fb X room most s) (hI : CInv room most s) (a : CAct) (ha : ActOk a) (hc : s.clk + 1 ≤ 9223372036854775806) (hk : a.kind % 10 = 4) : Calls Tryz.prog 27 #[.pointer (some ⟨cb, 0, none⟩), .agg #[.int .u8 (a.kind : Int), .string ⟨a.name.toArray⟩, .int .i64 a.i, .string ⟨a.data.toArray⟩, .int .u8 (a.x.toNat : Int)]] w fun e w' =>
    e = .returned (.tuple #[.string ⟨(cstep room most a s).1.toArray⟩, .int .i64 (cstep room most a s).2.1]) ∧ (∃ X', CAt w' cb fb X' room most (cstep room most a s).2.2 ∧ ∀ j, X' j → X j ∨ w.heap.size ≤ j) ∧ Fr X w w' := by
  obtain ⟨W3, hW3⟩ : ∃ W3, W3 = w.alloc (.cells #[.int .u8 (a.kind : Int), .string ⟨a.name.toArray⟩, .int .i64 a.i, .string ⟨a.data.toArray⟩, .int .u8 (a.x.toNat : Int)] 52) := ⟨_, rfl⟩
  have F3 : Fr (fun _ => False) w W3 := by rw [hW3]; exact (Fr.refl _ _).alloc _
  have HF3 := hide F3
  have HAB : Hid (Blk W3 w.heap.size 52 (actc a)) := by rw [hW3]; exact Blk.new w 52 _
  have HNX : Hid (¬ X w.heap.size) := fun hx => by have := h.lt _ hx; omega
  have HH := hide h
  have HS := hide (fun W (hS : Fr X W3 W) => (⟨((HAB.out.fr hS HNX.out).cell 0).trans rfl, ((HAB.out.fr hS HNX.out).cell 1).trans rfl, ((HAB.out.fr hS HNX.out).cell 2).trans rfl, ((HAB.out.fr hS HNX.out).cell 3).trans rfl, ((HAB.out.fr hS HNX.out).cell 4).trans rfl⟩ : W.cell? ⟨w.heap.size, 0, none⟩ = some (.int .u8 (a.kind : Int)) ∧ W.cell? ⟨w.heap.size, 1, none⟩ = some (.string ⟨a.name.toArray⟩) ∧ W.cell? ⟨w.heap.size, 2, none⟩ = some (.int .i64 a.i) ∧ W.cell? ⟨w.heap.size, 3, none⟩ = some (.string ⟨a.data.toArray⟩) ∧ W.cell? ⟨w.heap.size, 4, none⟩ = some (.int .u8 (a.x.toNat : Int))))
  obtain ⟨s0, s1, s2, s3, s4⟩ := HS.out W3 (Fr.refl _ _)
  have HCS : Hid (cstep room most a s = ([], cput room most a.key a.data s)) := by
    show cstep room most a s = _
    unfold cstep
    rw [hk]
    try rfl
  rw [HCS.out]
  have hk1 : ((a.kind : Nat) : Int) % 10 = (4 : Int) := by omega
  have hk2 : Int.tmod ((a.kind : Nat) : Int) 10 = (4 : Int) := by rw [Int.tmod_eq_emod_of_nonneg (by omega)]; exact hk1
  have h2 := h.up F3
  have HC := hide (cput_ok h2 hI a.key a.data hc (by have := ha.name; simp only [CAct.key]; omega) (by have := ha.data; omega))
  have hkey : a.key = (a.name, a.i) := rfl
  rw [hkey] at HC ⊢
  clear hkey
  have HW3 := hide hW3
  clear h h2 hW3 F3 hI ha hk hk1
  go_enter Tryz.func27, Tryz.ntmps27
  go_wp2_with fail
  rw [← HW3.out]
  go_wp2_with fail
  go_at_call 38
  refine HC.out.mono ?_
  rintro e W5 ⟨rfl, ⟨X', h5, hx5⟩, hf5⟩
  have H5 := hide (And.intro h5 (And.intro hx5 hf5))
  clear h5 hx5 hf5
  go_wp2
  go_ret2
  have hsz := HF3.out.size
  refine ⟨rfl, ⟨X', H5.out.1, fun j hj => ?_⟩, (HF3.out.mono (S' := X) (fun _ h => h.elim)).trans H5.out.2.2 (fun _ h => .inl h)⟩
  rcases H5.out.2.1 j hj with h | h
  · exact .inl h
  · exact .inr (by omega)
theorem done_drop (h : CAt w cb fb X room most s) (hI : CInv room most s) (a : CAct) (ha : ActOk a) (hc : s.clk + 1 ≤ 9223372036854775806) (hk : a.kind % 10 = 5) : Calls Tryz.prog 27 #[.pointer (some ⟨cb, 0, none⟩), .agg #[.int .u8 (a.kind : Int), .string ⟨a.name.toArray⟩, .int .i64 a.i, .string ⟨a.data.toArray⟩, .int .u8 (a.x.toNat : Int)]] w fun e w' =>
    e = .returned (.tuple #[.string ⟨(cstep room most a s).1.toArray⟩, .int .i64 (cstep room most a s).2.1]) ∧ (∃ X', CAt w' cb fb X' room most (cstep room most a s).2.2 ∧ ∀ j, X' j → X j ∨ w.heap.size ≤ j) ∧ Fr X w w' := by
  obtain ⟨W3, hW3⟩ : ∃ W3, W3 = w.alloc (.cells #[.int .u8 (a.kind : Int), .string ⟨a.name.toArray⟩, .int .i64 a.i, .string ⟨a.data.toArray⟩, .int .u8 (a.x.toNat : Int)] 52) := ⟨_, rfl⟩
  have F3 : Fr (fun _ => False) w W3 := by rw [hW3]; exact (Fr.refl _ _).alloc _
  have HF3 := hide F3
  have HAB : Hid (Blk W3 w.heap.size 52 (actc a)) := by rw [hW3]; exact Blk.new w 52 _
  have HNX : Hid (¬ X w.heap.size) := fun hx => by have := h.lt _ hx; omega
  have HH := hide h
  have HS := hide (fun W (hS : Fr X W3 W) => (⟨((HAB.out.fr hS HNX.out).cell 0).trans rfl, ((HAB.out.fr hS HNX.out).cell 1).trans rfl, ((HAB.out.fr hS HNX.out).cell 2).trans rfl, ((HAB.out.fr hS HNX.out).cell 3).trans rfl, ((HAB.out.fr hS HNX.out).cell 4).trans rfl⟩ : W.cell? ⟨w.heap.size, 0, none⟩ = some (.int .u8 (a.kind : Int)) ∧ W.cell? ⟨w.heap.size, 1, none⟩ = some (.string ⟨a.name.toArray⟩) ∧ W.cell? ⟨w.heap.size, 2, none⟩ = some (.int .i64 a.i) ∧ W.cell? ⟨w.heap.size, 3, none⟩ = some (.string ⟨a.data.toArray⟩) ∧ W.cell? ⟨w.heap.size, 4, none⟩ = some (.int .u8 (a.x.toNat : Int))))
  obtain ⟨s0, s1, s2, s3, s4⟩ := HS.out W3 (Fr.refl _ _)
  have HCS : Hid (cstep room most a s = ([], 0, cdrop a.name s)) := by
    show cstep room most a s = _
    unfold cstep
    rw [hk]
    try rfl
  rw [HCS.out]
  have hk1 : ((a.kind : Nat) : Int) % 10 = (5 : Int) := by omega
  have hk2 : Int.tmod ((a.kind : Nat) : Int) 10 = (5 : Int) := by rw [Int.tmod_eq_emod_of_nonneg (by omega)]; exact hk1
  have h2 := h.up F3
  have HC := hide (cdrop_ok h2 a.name)
  have HW3 := hide hW3
  clear h h2 hW3 F3 hI ha hk hk1
  go_enter Tryz.func27, Tryz.ntmps27
  go_wp2_with fail
  rw [← HW3.out]
  go_wp2_with fail
  go_at_call 35
  refine HC.out.mono ?_
  rintro e W5 ⟨rfl, h5, hf5⟩
  have H5 := hide (And.intro h5 hf5)
  clear h5 hf5
  go_wp2
  go_ret2
  exact ⟨rfl, ⟨X, H5.out.1, fun j hj => .inl hj⟩, (HF3.out.mono (S' := X) (fun _ h => h.elim)).trans H5.out.2 (fun _ h => .inl h)⟩
theorem done_write (h : CAt w cb fb X room most s) (hI : CInv room most s) (a : CAct) (ha : ActOk a) (hc : s.clk + 1 ≤ 9223372036854775806) (hk : a.kind % 10 = 6) : Calls Tryz.prog 27 #[.pointer (some ⟨cb, 0, none⟩), .agg #[.int .u8 (a.kind : Int), .string ⟨a.name.toArray⟩, .int .i64 a.i, .string ⟨a.data.toArray⟩, .int .u8 (a.x.toNat : Int)]] w fun e w' =>
    e = .returned (.tuple #[.string ⟨(cstep room most a s).1.toArray⟩, .int .i64 (cstep room most a s).2.1]) ∧ (∃ X', CAt w' cb fb X' room most (cstep room most a s).2.2 ∧ ∀ j, X' j → X j ∨ w.heap.size ≤ j) ∧ Fr X w w' := by
  obtain ⟨W3, hW3⟩ : ∃ W3, W3 = w.alloc (.cells #[.int .u8 (a.kind : Int), .string ⟨a.name.toArray⟩, .int .i64 a.i, .string ⟨a.data.toArray⟩, .int .u8 (a.x.toNat : Int)] 52) := ⟨_, rfl⟩
  have F3 : Fr (fun _ => False) w W3 := by rw [hW3]; exact (Fr.refl _ _).alloc _
  have HF3 := hide F3
  have HAB : Hid (Blk W3 w.heap.size 52 (actc a)) := by rw [hW3]; exact Blk.new w 52 _
  have HNX : Hid (¬ X w.heap.size) := fun hx => by have := h.lt _ hx; omega
  have HH := hide h
  have HS := hide (fun W (hS : Fr X W3 W) => (⟨((HAB.out.fr hS HNX.out).cell 0).trans rfl, ((HAB.out.fr hS HNX.out).cell 1).trans rfl, ((HAB.out.fr hS HNX.out).cell 2).trans rfl, ((HAB.out.fr hS HNX.out).cell 3).trans rfl, ((HAB.out.fr hS HNX.out).cell 4).trans rfl⟩ : W.cell? ⟨w.heap.size, 0, none⟩ = some (.int .u8 (a.kind : Int)) ∧ W.cell? ⟨w.heap.size, 1, none⟩ = some (.string ⟨a.name.toArray⟩) ∧ W.cell? ⟨w.heap.size, 2, none⟩ = some (.int .i64 a.i) ∧ W.cell? ⟨w.heap.size, 3, none⟩ = some (.string ⟨a.data.toArray⟩) ∧ W.cell? ⟨w.heap.size, 4, none⟩ = some (.int .u8 (a.x.toNat : Int))))
  obtain ⟨s0, s1, s2, s3, s4⟩ := HS.out W3 (Fr.refl _ _)
  have HCS : Hid (cstep room most a s = ([], (fswrite room s.F a.name (splitB a.data)).1, { s with F := (fswrite room s.F a.name (splitB a.data)).2 })) := by
    show cstep room most a s = _
    unfold cstep
    rw [hk]
    try rfl
  rw [HCS.out]
  have hk1 : ((a.kind : Nat) : Int) % 10 = (6 : Int) := by omega
  have hk2 : Int.tmod ((a.kind : Nat) : Int) 10 = (6 : Int) := by rw [Int.tmod_eq_emod_of_nonneg (by omega)]; exact hk1
  have h2 := h.up F3
  have HI := hide hI
  have HA := hide ha
  have HW3 := hide hW3
  clear h h2 hW3 F3 hI ha hk hk1
  go_enter Tryz.func27, Tryz.ntmps27
  go_wp2_with fail
  rw [← HW3.out]
  go_wp2_with fail
  refine wp_region_ord [(0, true), (2, true), (3, true), (4, true), (5, true), (1, false), (6, false), (7, false), (8, true), (9, true)] (fun W => W.cell? ⟨w.heap.size, 0, none⟩ = some (.int .u8 (a.kind : Int)) ∧ W.cell? ⟨w.heap.size, 1, none⟩ = some (.string ⟨a.name.toArray⟩) ∧ W.cell? ⟨w.heap.size, 2, none⟩ = some (.int .i64 a.i) ∧ W.cell? ⟨w.heap.size, 3, none⟩ = some (.string ⟨a.data.toArray⟩) ∧ W.cell? ⟨w.heap.size, 4, none⟩ = some (.int .u8 (a.x.toNat : Int))) (by kernel_rfl) (by kernel_rfl) (HS.out _ (Fr.refl _ _).drew) ?_
  iterate 5
    refine ord_read rfl ?_ ?_ (fun W hS => ?_) ?_
    · rfl
    rotate_left
    · (obtain ⟨z0, z1, z2, z3, z4⟩ := hS; go_simp; try with_reducible rfl)
    simp only [List.getElem_toArray, List.getElem_cons_zero, List.getElem_cons_succ, Act.put, List.setIfInBounds_toArray, List.set_cons_zero, List.set_cons_succ]
  refine ord_act rfl ?_
  have HCF := hide (cfs_ok (HH.out.up HF3.out.drew))
  go_wp2_with fail
  go_at_call 18
  refine HCF.out.mono ?_
  rintro e W4 ⟨rfl, rfl⟩
  go_wp2
  refine midQ_ok (HS.out _ (Fr.refl _ _).drew) ?_
  refine ord_act rfl ?_
  have e0 : ((⟨a.data.toArray⟩ : ByteArray)).data.toList = a.data := by simp
  have HSP := hide (pg_split ⟨a.data.toArray⟩ W3.drew (by show a.data.toArray.size ≤ 12000; have := HA.out.data; simp; omega))
  rw [e0] at HSP
  clear e0
  go_wp2_with fail
  go_at_call 56
  refine HSP.out.mono ?_
  rintro e W5 ⟨A, c, rfl, _, _, hrd, hf5⟩
  have HF5 := hide (HF3.out.drew.then_ hf5)
  have HF35 : Hid (Fr (fun _ => False) W3 W5) := (Fr.refl _ _).drew.then_ hf5
  have HS5 := HS.out W5 (HF35.out.mono (fun _ h => h.elim))
  have hlen : (splitB a.data).length ≤ 100000 := by
    have h1 := chunks_count _ a.data (Nat.le_refl _)
    have h2 := HA.out.data
    unfold splitB
    rw [List.length_map]
    omega
  have HWR := hide ((HH.out.up HF5.out).lift (fun XF hat => fwrite_any hat HI.out.fs a.name (by have := HA.out.name; omega) A c _ (splitB a.data) hrd (Nat.le_refl _) (split_pages _).2 hlen (split_pages _).1))
  clear hrd hf5 hlen
  generalize hsp : (splitB a.data) = sp at *
  have HSPE := hide hsp
  clear hsp
  go_wp2
  refine midQ_ok HS5 ?_
  clear HS5
  refine ord_act rfl ?_
  go_wp2_with fail
  go_at_call 55
  refine (HWR.out).mono ?_
  rintro e W6 ⟨rfl, ⟨X', h6, hx6⟩, hf6⟩
  have HS6 := HS.out W6 ((HF35.out.mono (S' := X) (fun _ h => h.elim)).trans hf6 (fun _ h => .inl h))
  have H6 := hide (And.intro h6 (And.intro hx6 hf6))
  clear h6 hx6 hf6
  go_wp2
  refine midQ_ok HS6 ?_
  iterate 2
    refine ord_read rfl ?_ ?_ (fun W hS => ?_) ?_
    · rfl
    rotate_left
    · (skip; go_simp; try with_reducible rfl)
    simp only [List.getElem_toArray, List.getElem_cons_zero, List.getElem_cons_succ, Act.put, List.setIfInBounds_toArray, List.set_cons_zero, List.set_cons_succ]
  refine ord_done ?_
  refine NoPanic.normal ?_
  clear HS6
  go_wp2
  go_ret2
  have hsz := HF5.out.size
  rw [HSPE.out]
  refine ⟨rfl, ⟨X', H6.out.1, fun j hj => ?_⟩, (HF5.out.mono (S' := X) (fun _ h => h.elim)).trans H6.out.2.2 (fun _ h => .inl h)⟩
  rcases H6.out.2.1 j hj with h | h
  · exact .inl h
  · exact .inr (by omega)
theorem done_fail (h : CAt w cb fb X room most s) (hI : CInv room most s) (a : CAct) (ha : ActOk a) (hc : s.clk + 1 ≤ 9223372036854775806) (hk : a.kind % 10 = 7) : Calls Tryz.prog 27 #[.pointer (some ⟨cb, 0, none⟩), .agg #[.int .u8 (a.kind : Int), .string ⟨a.name.toArray⟩, .int .i64 a.i, .string ⟨a.data.toArray⟩, .int .u8 (a.x.toNat : Int)]] w fun e w' =>
    e = .returned (.tuple #[.string ⟨(cstep room most a s).1.toArray⟩, .int .i64 (cstep room most a s).2.1]) ∧ (∃ X', CAt w' cb fb X' room most (cstep room most a s).2.2 ∧ ∀ j, X' j → X j ∨ w.heap.size ≤ j) ∧ Fr X w w' := by
  obtain ⟨W3, hW3⟩ : ∃ W3, W3 = w.alloc (.cells #[.int .u8 (a.kind : Int), .string ⟨a.name.toArray⟩, .int .i64 a.i, .string ⟨a.data.toArray⟩, .int .u8 (a.x.toNat : Int)] 52) := ⟨_, rfl⟩
  have F3 : Fr (fun _ => False) w W3 := by rw [hW3]; exact (Fr.refl _ _).alloc _
  have HF3 := hide F3
  have HAB : Hid (Blk W3 w.heap.size 52 (actc a)) := by rw [hW3]; exact Blk.new w 52 _
  have HNX : Hid (¬ X w.heap.size) := fun hx => by have := h.lt _ hx; omega
  have HH := hide h
  have HS := hide (fun W (hS : Fr X W3 W) => (⟨((HAB.out.fr hS HNX.out).cell 0).trans rfl, ((HAB.out.fr hS HNX.out).cell 1).trans rfl, ((HAB.out.fr hS HNX.out).cell 2).trans rfl, ((HAB.out.fr hS HNX.out).cell 3).trans rfl, ((HAB.out.fr hS HNX.out).cell 4).trans rfl⟩ : W.cell? ⟨w.heap.size, 0, none⟩ = some (.int .u8 (a.kind : Int)) ∧ W.cell? ⟨w.heap.size, 1, none⟩ = some (.string ⟨a.name.toArray⟩) ∧ W.cell? ⟨w.heap.size, 2, none⟩ = some (.int .i64 a.i) ∧ W.cell? ⟨w.heap.size, 3, none⟩ = some (.string ⟨a.data.toArray⟩) ∧ W.cell? ⟨w.heap.size, 4, none⟩ = some (.int .u8 (a.x.toNat : Int))))
  obtain ⟨s0, s1, s2, s3, s4⟩ := HS.out W3 (Fr.refl _ _)
  have HCS : Hid (cstep room most a s = ([], (fsfail s.left a.i).1, { s with left := (fsfail s.left a.i).2 })) := by
    show cstep room most a s = _
    unfold cstep
    rw [hk]
    try rfl
  rw [HCS.out]
  have hk1 : ((a.kind : Nat) : Int) % 10 = (7 : Int) := by omega
  have hk2 : Int.tmod ((a.kind : Nat) : Int) 10 = (7 : Int) := by rw [Int.tmod_eq_emod_of_nonneg (by omega)]; exact hk1
  have h2 := h.up F3
  skip
  have HW3 := hide hW3
  clear h h2 hW3 F3 hI ha hk hk1
  go_enter Tryz.func27, Tryz.ntmps27
  go_wp2_with fail
  rw [← HW3.out]
  go_wp2_with fail
  refine wp_region_ord [(0, true), (2, true), (3, true), (1, false), (4, false), (5, true), (6, true)] (fun W => W.cell? ⟨w.heap.size, 0, none⟩ = some (.int .u8 (a.kind : Int)) ∧ W.cell? ⟨w.heap.size, 1, none⟩ = some (.string ⟨a.name.toArray⟩) ∧ W.cell? ⟨w.heap.size, 2, none⟩ = some (.int .i64 a.i) ∧ W.cell? ⟨w.heap.size, 3, none⟩ = some (.string ⟨a.data.toArray⟩) ∧ W.cell? ⟨w.heap.size, 4, none⟩ = some (.int .u8 (a.x.toNat : Int))) (by kernel_rfl) (by kernel_rfl) (HS.out _ (Fr.refl _ _).drew) ?_
  iterate 3
    refine ord_read rfl ?_ ?_ (fun W hS => ?_) ?_
    · rfl
    rotate_left
    · (obtain ⟨z0, z1, z2, z3, z4⟩ := hS; go_simp; try with_reducible rfl)
    simp only [List.getElem_toArray, List.getElem_cons_zero, List.getElem_cons_succ, Act.put, List.setIfInBounds_toArray, List.set_cons_zero, List.set_cons_succ]
  refine ord_act rfl ?_
  have HCF := hide (cfs_ok (HH.out.up HF3.out.drew))
  go_wp2_with fail
  go_at_call 18
  refine HCF.out.mono ?_
  rintro e W4 ⟨rfl, rfl⟩
  go_wp2
  refine midQ_ok (HS.out _ (Fr.refl _ _).drew) ?_
  have HF5 := hide HF3.out.drew
  have HF35 : Hid (Fr (fun _ => False) W3 W3.drew) := (Fr.refl _ _).drew
  have HWR := hide ((HH.out.up HF5.out).lift (fun XF hat => ffail_any hat a.i))
  refine ord_act rfl ?_
  go_wp2_with fail
  go_at_call 22
  refine (HWR.out).mono ?_
  rintro e W6 ⟨rfl, ⟨X', h6, hx6⟩, hf6⟩
  have HS6 := HS.out W6 ((HF35.out.mono (S' := X) (fun _ h => h.elim)).trans hf6 (fun _ h => .inl h))
  have H6 := hide (And.intro h6 (And.intro hx6 hf6))
  clear h6 hx6 hf6
  go_wp2
  refine midQ_ok HS6 ?_
  iterate 2
    refine ord_read rfl ?_ ?_ (fun W hS => ?_) ?_
    · rfl
    rotate_left
    · (skip; go_simp; try with_reducible rfl)
    simp only [List.getElem_toArray, List.getElem_cons_zero, List.getElem_cons_succ, Act.put, List.setIfInBounds_toArray, List.set_cons_zero, List.set_cons_succ]
  refine ord_done ?_
  refine NoPanic.normal ?_
  clear HS6
  go_wp2
  go_ret2
  have hsz := HF5.out.size
  refine ⟨rfl, ⟨X', H6.out.1, fun j hj => ?_⟩, (HF5.out.mono (S' := X) (fun _ h => h.elim)).trans H6.out.2.2 (fun _ h => .inl h)⟩
  rcases H6.out.2.1 j hj with h | h
  · exact .inl h
  · exact .inr (by omega)
theorem done_flip (h : CAt w cb fb X room most s) (hI : CInv room most s) (a : CAct) (ha : ActOk a) (hc : s.clk + 1 ≤ 9223372036854775806) (hk : a.kind % 10 = 8) : Calls Tryz.prog 27 #[.pointer (some ⟨cb, 0, none⟩), .agg #[.int .u8 (a.kind : Int), .string ⟨a.name.toArray⟩, .int .i64 a.i, .string ⟨a.data.toArray⟩, .int .u8 (a.x.toNat : Int)]] w fun e w' =>
    e = .returned (.tuple #[.string ⟨(cstep room most a s).1.toArray⟩, .int .i64 (cstep room most a s).2.1]) ∧ (∃ X', CAt w' cb fb X' room most (cstep room most a s).2.2 ∧ ∀ j, X' j → X j ∨ w.heap.size ≤ j) ∧ Fr X w w' := by
  obtain ⟨W3, hW3⟩ : ∃ W3, W3 = w.alloc (.cells #[.int .u8 (a.kind : Int), .string ⟨a.name.toArray⟩, .int .i64 a.i, .string ⟨a.data.toArray⟩, .int .u8 (a.x.toNat : Int)] 52) := ⟨_, rfl⟩
  have F3 : Fr (fun _ => False) w W3 := by rw [hW3]; exact (Fr.refl _ _).alloc _
  have HF3 := hide F3
  have HAB : Hid (Blk W3 w.heap.size 52 (actc a)) := by rw [hW3]; exact Blk.new w 52 _
  have HNX : Hid (¬ X w.heap.size) := fun hx => by have := h.lt _ hx; omega
  have HH := hide h
  have HS := hide (fun W (hS : Fr X W3 W) => (⟨((HAB.out.fr hS HNX.out).cell 0).trans rfl, ((HAB.out.fr hS HNX.out).cell 1).trans rfl, ((HAB.out.fr hS HNX.out).cell 2).trans rfl, ((HAB.out.fr hS HNX.out).cell 3).trans rfl, ((HAB.out.fr hS HNX.out).cell 4).trans rfl⟩ : W.cell? ⟨w.heap.size, 0, none⟩ = some (.int .u8 (a.kind : Int)) ∧ W.cell? ⟨w.heap.size, 1, none⟩ = some (.string ⟨a.name.toArray⟩) ∧ W.cell? ⟨w.heap.size, 2, none⟩ = some (.int .i64 a.i) ∧ W.cell? ⟨w.heap.size, 3, none⟩ = some (.string ⟨a.data.toArray⟩) ∧ W.cell? ⟨w.heap.size, 4, none⟩ = some (.int .u8 (a.x.toNat : Int))))
  obtain ⟨s0, s1, s2, s3, s4⟩ := HS.out W3 (Fr.refl _ _)
  have HCS : Hid (cstep room most a s = ([], (fsflip s.F a.name a.i a.x).1, { s with F := (fsflip s.F a.name a.i a.x).2 })) := by
    show cstep room most a s = _
    unfold cstep
    rw [hk]
    try rfl
  rw [HCS.out]
  have hk1 : ((a.kind : Nat) : Int) % 10 = (8 : Int) := by omega
  have hk2 : Int.tmod ((a.kind : Nat) : Int) 10 = (8 : Int) := by rw [Int.tmod_eq_emod_of_nonneg (by omega)]; exact hk1
  have h2 := h.up F3
  have HI := hide hI
  have HW3 := hide hW3
  clear h h2 hW3 F3 hI ha hk hk1
  go_enter Tryz.func27, Tryz.ntmps27
  go_wp2_with fail
  rw [← HW3.out]
  go_wp2_with fail
  refine wp_region_ord [(0, true), (2, true), (3, true), (4, true), (5, true), (6, true), (7, true), (1, false), (8, false), (9, true), (10, true)] (fun W => W.cell? ⟨w.heap.size, 0, none⟩ = some (.int .u8 (a.kind : Int)) ∧ W.cell? ⟨w.heap.size, 1, none⟩ = some (.string ⟨a.name.toArray⟩) ∧ W.cell? ⟨w.heap.size, 2, none⟩ = some (.int .i64 a.i) ∧ W.cell? ⟨w.heap.size, 3, none⟩ = some (.string ⟨a.data.toArray⟩) ∧ W.cell? ⟨w.heap.size, 4, none⟩ = some (.int .u8 (a.x.toNat : Int))) (by kernel_rfl) (by kernel_rfl) (HS.out _ (Fr.refl _ _).drew) ?_
  iterate 7
    refine ord_read rfl ?_ ?_ (fun W hS => ?_) ?_
    · rfl
    rotate_left
    · (obtain ⟨z0, z1, z2, z3, z4⟩ := hS; go_simp; try with_reducible rfl)
    simp only [List.getElem_toArray, List.getElem_cons_zero, List.getElem_cons_succ, Act.put, List.setIfInBounds_toArray, List.set_cons_zero, List.set_cons_succ]
  refine ord_act rfl ?_
  have HCF := hide (cfs_ok (HH.out.up HF3.out.drew))
  go_wp2_with fail
  go_at_call 18
  refine HCF.out.mono ?_
  rintro e W4 ⟨rfl, rfl⟩
  go_wp2
  refine midQ_ok (HS.out _ (Fr.refl _ _).drew) ?_
  have HF5 := hide HF3.out.drew
  have HF35 : Hid (Fr (fun _ => False) W3 W3.drew) := (Fr.refl _ _).drew
  have HWR := hide ((HH.out.up HF5.out).lift (fun XF hat => fflip_any hat HI.out.fs a.name a.i a.x))
  refine ord_act rfl ?_
  go_wp2_with fail
  go_at_call 67
  refine (HWR.out).mono ?_
  rintro e W6 ⟨rfl, ⟨X', h6, hx6⟩, hf6⟩
  have HS6 := HS.out W6 ((HF35.out.mono (S' := X) (fun _ h => h.elim)).trans hf6 (fun _ h => .inl h))
  have H6 := hide (And.intro h6 (And.intro hx6 hf6))
  clear h6 hx6 hf6
  go_wp2
  refine midQ_ok HS6 ?_
  iterate 2
    refine ord_read rfl ?_ ?_ (fun W hS => ?_) ?_
    · rfl
    rotate_left
    · (skip; go_simp; try with_reducible rfl)
    simp only [List.getElem_toArray, List.getElem_cons_zero, List.getElem_cons_succ, Act.put, List.setIfInBounds_toArray, List.set_cons_zero, List.set_cons_succ]
  refine ord_done ?_
  refine NoPanic.normal ?_
  clear HS6
  go_wp2
  go_ret2
  have hsz := HF5.out.size
  refine ⟨rfl, ⟨X', H6.out.1, fun j hj => ?_⟩, (HF5.out.mono (S' := X) (fun _ h => h.elim)).trans H6.out.2.2 (fun _ h => .inl h)⟩
  rcases H6.out.2.1 j hj with h | h
  · exact .inl h
  · exact .inr (by omega)
theorem done_remove (h : CAt w cb fb X room most s) (hI : CInv room most s) (a : CAct) (ha : ActOk a) (hc : s.clk + 1 ≤ 9223372036854775806) (hk : a.kind % 10 = 9) : Calls Tryz.prog 27 #[.pointer (some ⟨cb, 0, none⟩), .agg #[.int .u8 (a.kind : Int), .string ⟨a.name.toArray⟩, .int .i64 a.i, .string ⟨a.data.toArray⟩, .int .u8 (a.x.toNat : Int)]] w fun e w' =>
    e = .returned (.tuple #[.string ⟨(cstep room most a s).1.toArray⟩, .int .i64 (cstep room most a s).2.1]) ∧ (∃ X', CAt w' cb fb X' room most (cstep room most a s).2.2 ∧ ∀ j, X' j → X j ∨ w.heap.size ≤ j) ∧ Fr X w w' := by
  obtain ⟨W3, hW3⟩ : ∃ W3, W3 = w.alloc (.cells #[.int .u8 (a.kind : Int), .string ⟨a.name.toArray⟩, .int .i64 a.i, .string ⟨a.data.toArray⟩, .int .u8 (a.x.toNat : Int)] 52) := ⟨_, rfl⟩
  have F3 : Fr (fun _ => False) w W3 := by rw [hW3]; exact (Fr.refl _ _).alloc _
  have HF3 := hide F3
  have HAB : Hid (Blk W3 w.heap.size 52 (actc a)) := by rw [hW3]; exact Blk.new w 52 _
  have HNX : Hid (¬ X w.heap.size) := fun hx => by have := h.lt _ hx; omega
  have HH := hide h
  have HS := hide (fun W (hS : Fr X W3 W) => (⟨((HAB.out.fr hS HNX.out).cell 0).trans rfl, ((HAB.out.fr hS HNX.out).cell 1).trans rfl, ((HAB.out.fr hS HNX.out).cell 2).trans rfl, ((HAB.out.fr hS HNX.out).cell 3).trans rfl, ((HAB.out.fr hS HNX.out).cell 4).trans rfl⟩ : W.cell? ⟨w.heap.size, 0, none⟩ = some (.int .u8 (a.kind : Int)) ∧ W.cell? ⟨w.heap.size, 1, none⟩ = some (.string ⟨a.name.toArray⟩) ∧ W.cell? ⟨w.heap.size, 2, none⟩ = some (.int .i64 a.i) ∧ W.cell? ⟨w.heap.size, 3, none⟩ = some (.string ⟨a.data.toArray⟩) ∧ W.cell? ⟨w.heap.size, 4, none⟩ = some (.int .u8 (a.x.toNat : Int))))
  obtain ⟨s0, s1, s2, s3, s4⟩ := HS.out W3 (Fr.refl _ _)
  have HCS : Hid (cstep room most a s = ([], (fsremove s.F a.name).1, { s with F := (fsremove s.F a.name).2 })) := by
    show cstep room most a s = _
    unfold cstep
    rw [hk]
    try rfl
  rw [HCS.out]
  have hk1 : ((a.kind : Nat) : Int) % 10 = (9 : Int) := by omega
  have hk2 : Int.tmod ((a.kind : Nat) : Int) 10 = (9 : Int) := by rw [Int.tmod_eq_emod_of_nonneg (by omega)]; exact hk1
  have h2 := h.up F3
  skip
  have HW3 := hide hW3
  clear h h2 hW3 F3 hI ha hk hk1
  go_enter Tryz.func27, Tryz.ntmps27
  go_wp2_with fail
  rw [← HW3.out]
  go_wp2_with fail
  refine wp_region_ord [(0, true), (2, true), (3, true), (1, false), (4, false), (5, true), (6, true)] (fun W => W.cell? ⟨w.heap.size, 0, none⟩ = some (.int .u8 (a.kind : Int)) ∧ W.cell? ⟨w.heap.size, 1, none⟩ = some (.string ⟨a.name.toArray⟩) ∧ W.cell? ⟨w.heap.size, 2, none⟩ = some (.int .i64 a.i) ∧ W.cell? ⟨w.heap.size, 3, none⟩ = some (.string ⟨a.data.toArray⟩) ∧ W.cell? ⟨w.heap.size, 4, none⟩ = some (.int .u8 (a.x.toNat : Int))) (by kernel_rfl) (by kernel_rfl) (HS.out _ (Fr.refl _ _).drew) ?_
  iterate 3
    refine ord_read rfl ?_ ?_ (fun W hS => ?_) ?_
    · rfl
    rotate_left
    · (obtain ⟨z0, z1, z2, z3, z4⟩ := hS; go_simp; try with_reducible rfl)
    simp only [List.getElem_toArray, List.getElem_cons_zero, List.getElem_cons_succ, Act.put, List.setIfInBounds_toArray, List.set_cons_zero, List.set_cons_succ]
  refine ord_act rfl ?_
  have HCF := hide (cfs_ok (HH.out.up HF3.out.drew))
  go_wp2_with fail
  go_at_call 18
  refine HCF.out.mono ?_
  rintro e W4 ⟨rfl, rfl⟩
  go_wp2
  refine midQ_ok (HS.out _ (Fr.refl _ _).drew) ?_
  have HF5 := hide HF3.out.drew
  have HF35 : Hid (Fr (fun _ => False) W3 W3.drew) := (Fr.refl _ _).drew
  have HWR := hide ((HH.out.up HF5.out).lift (fun XF hat => fremove_any hat a.name))
  refine ord_act rfl ?_
  go_wp2_with fail
  go_at_call 68
  refine (HWR.out).mono ?_
  rintro e W6 ⟨rfl, ⟨X', h6, hx6⟩, hf6⟩
  have HS6 := HS.out W6 ((HF35.out.mono (S' := X) (fun _ h => h.elim)).trans hf6 (fun _ h => .inl h))
  have H6 := hide (And.intro h6 (And.intro hx6 hf6))
  clear h6 hx6 hf6
  go_wp2
  refine midQ_ok HS6 ?_
  iterate 2
    refine ord_read rfl ?_ ?_ (fun W hS => ?_) ?_
    · rfl
    rotate_left
    · (skip; go_simp; try with_reducible rfl)
    simp only [List.getElem_toArray, List.getElem_cons_zero, List.getElem_cons_succ, Act.put, List.setIfInBounds_toArray, List.set_cons_zero, List.set_cons_succ]
  refine ord_done ?_
  refine NoPanic.normal ?_
  clear HS6
  go_wp2
  go_ret2
  have hsz := HF5.out.size
  refine ⟨rfl, ⟨X', H6.out.1, fun j hj => ?_⟩, (HF5.out.mono (S' := X) (fun _ h => h.elim)).trans H6.out.2.2 (fun _ h => .inl h)⟩
  rcases H6.out.2.1 j hj with h | h
  · exact .inl h
  · exact .inr (by omega)
theorem done_ok (h : CAt w cb fb X room most s) (hI : CInv room most s) (a : CAct) (ha : ActOk a) (hc : s.clk + 1 ≤ 9223372036854775806) : Calls Tryz.prog 27 #[.pointer (some ⟨cb, 0, none⟩), .agg #[.int .u8 (a.kind : Int), .string ⟨a.name.toArray⟩, .int .i64 a.i, .string ⟨a.data.toArray⟩, .int .u8 (a.x.toNat : Int)]] w fun e w' =>
    e = .returned (.tuple #[.string ⟨(cstep room most a s).1.toArray⟩, .int .i64 (cstep room most a s).2.1]) ∧ (∃ X', CAt w' cb fb X' room most (cstep room most a s).2.2 ∧ ∀ j, X' j → X j ∨ w.heap.size ≤ j) ∧ Fr X w w' := by
  rcases kind_cases a.kind with e | e | e | e | e | e | e | e | e | e
  · exact done_get0 h hI a ha hc e
  · exact done_get1 h hI a ha hc e
  · exact done_pin h hI a ha hc e
  · exact done_unpin h hI a ha hc e
  · exact done_put h hI a ha hc e
  · exact done_drop h hI a ha hc e
  · exact done_write h hI a ha hc e
  · exact done_fail h hI a ha hc e
  · exact done_flip h hI a ha hc e
  · exact done_remove h hI a ha hc e
theorem made_ok (y : Nat) (hy : y < 256) (w : World) : Calls Tryz.prog 16 #[.int .u8 (y : Int)] w fun e w' => ∃ cb fb X, e = .returned (.pointer (some ⟨cb, 0, none⟩)) ∧ CAt w' cb fb X 60 (1 + y % 9) ⟨-1, [], [], 0⟩ ∧ (∀ j, X j → w.heap.size ≤ j) ∧ w.heap.size ≤ cb ∧ Fr (fun _ => False) w w' := by
  have HN := hide (fnew_ok 60 (by omega) (by omega) w)
  have hm : ((1 + y % 9 : Nat) : Int) = 1 + (y : Int) % 9 := by omega
  have ht : Int.tmod ((y : Nat) : Int) 9 = (y : Int) % 9 := by rw [Int.tmod_eq_emod_of_nonneg (by omega)]
  go_enter Tryz.func16, Tryz.ntmps16
  go_wp2_with fail
  go_at_call 24
  refine HN.out.mono ?_
  rintro e W1 ⟨fb, XF, rfl, hat, hx1, hf1⟩
  have HC := hide (cnew_ok hat (1 + y % 9) (by omega) (by omega))
  have H1 := hide (And.intro hx1 hf1)
  clear hat hx1 hf1
  rw [hm] at HC
  go_wp2_with fail
  go_at_call 26
  refine HC.out.mono ?_
  rintro e W2 ⟨cb, X, rfl, hat, hx2, _, hcb, hf2⟩
  have H2 := hide (And.intro hat (And.intro hx2 (And.intro hcb hf2)))
  clear hat hx2 hcb hf2
  go_wp2
  go_ret
  have hsz := H1.out.2.size
  refine ⟨cb, fb, X, rfl, H2.out.1, fun j hj => ?_, by have := H2.out.2.2.1; omega, H1.out.2.then_ H2.out.2.2.2⟩
  rcases H2.out.2.1 j hj with h | h
  · exact H1.out.1 j h
  · omega
end
end Go.Proofs.YtkhbemmcegmdaaaGreatDoor
