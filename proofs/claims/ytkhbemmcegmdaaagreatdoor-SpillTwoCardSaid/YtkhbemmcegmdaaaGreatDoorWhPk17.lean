/- Parts of the proof of several laws: no conditions of their own. -/
import Derived.Test.YtkhbemmcegmdaaaGreatDoorWhPk16
import Derived.Test.YtkhbemmcegmdaaaGreatDoorWhPk13
import Derived.Defers
import Derived.Laws.LoneSync
import Derived.Laws.Pointers
import Derived.RegionTactic
import Derived.RegionCalls
import Derived.ChangeAlike
section
set_option linter.all false
set_option linter.unusedVariables false
set_option maxRecDepth 100000
namespace Go.Proofs.YtkhbemmcegmdaaaGreatDoor
open Go.RowKit

/-- a cache that is none -/
def NoC (w : World) (v : Value) : Prop := v = .pointer none ∨ ∃ p, v = .pointer (some ⟨p, 0, none⟩) ∧ w.cell? ⟨p, 0, none⟩ = some (.pointer none)
theorem NoC.fr {w w' : World} {v : Value} {S : Nat → Prop} (h : NoC w v) (hf : Fr S w w') (hs : ∀ p, v = .pointer (some ⟨p, 0, none⟩) → ¬ S p) : NoC w' v := by
  rcases h with h | ⟨p, h1, h2⟩
  · exact .inl h
  · exact .inr ⟨p, h1, hf.cell h2 (hs p h1)⟩
theorem NoC.up {w w' : World} {v : Value} (h : NoC w v) (hf : Fr (fun _ => False) w w') : NoC w' v := h.fr hf (fun _ _ h => h)
theorem cnone_n {v : Value} {w : World} (h : NoC w v) : Calls Tryz.prog 61 #[v] w fun e w' => e = .returned (.bool true) ∧ w = w' := by
  rcases h with rfl | ⟨p, rfl, h⟩
  · go_enter Tryz.func61, Tryz.ntmps61
    go_wp2
    go_ret
    exact ⟨rfl, rfl⟩
  · go_enter Tryz.func61, Tryz.ntmps61
    go_wp2
    go_ret
    exact ⟨rfl, rfl⟩
theorem cfs_n {v : Value} {w : World} (h : NoC w v) : Calls Tryz.prog 18 #[v] w fun e w' => e = .returned (.pointer none) ∧ w = w' := by
  have HN := hide (cnone_n h)
  clear h
  go_enter Tryz.func18, Tryz.ntmps18
  go_wp2_with fail
  go_at_call 61
  refine HN.out.mono ?_
  rintro e w1 ⟨rfl, rfl⟩
  go_wp2
  go_ret
  exact ⟨rfl, rfl⟩
theorem cfind_n {v : Value} {w : World} (h : NoC w v) (k : CKey) : Calls Tryz.prog 66 #[v, .string ⟨k.1.toArray⟩, .int .i64 k.2] w fun e w' => e = .returned (.tuple #[.pointer none, .int .i64 1]) ∧ w = w' := by
  have HN := hide (cnone_n h)
  clear h
  go_enter Tryz.func66, Tryz.ntmps66
  go_wp2_with fail
  go_at_call 61
  refine HN.out.mono ?_
  rintro e w1 ⟨rfl, rfl⟩
  go_wp2
  go_ret2
  exact ⟨rfl, rfl⟩
theorem cget_n {v : Value} {w : World} (h : NoC w v) (k : CKey) : Calls Tryz.prog 20 #[v, .string ⟨k.1.toArray⟩, .int .i64 k.2] w fun e w' => e = .returned (.tuple #[.string ⟨#[]⟩, .int .i64 1]) ∧ w = w' := by
  have HN := hide (cfind_n h k)
  clear h
  go_enter Tryz.func20, Tryz.ntmps20
  go_wp2_with fail
  go_at_call 66
  refine HN.out.mono ?_
  rintro e w1 ⟨rfl, rfl⟩
  go_wp2
  go_ret2
  exact ⟨rfl, rfl⟩
theorem cpin_n {v : Value} {w : World} (h : NoC w v) (k : CKey) : Calls Tryz.prog 39 #[v, .string ⟨k.1.toArray⟩, .int .i64 k.2] w fun e w' => e = .returned (.tuple #[.string ⟨#[]⟩, .int .i64 1]) ∧ w = w' := by
  have HN := hide (cfind_n h k)
  clear h
  go_enter Tryz.func39, Tryz.ntmps39
  go_wp2_with fail
  go_at_call 66
  refine HN.out.mono ?_
  rintro e w1 ⟨rfl, rfl⟩
  go_wp2
  go_ret2
  exact ⟨rfl, rfl⟩
theorem cunpin_n {v : Value} {w : World} (h : NoC w v) (k : CKey) : Calls Tryz.prog 40 #[v, .string ⟨k.1.toArray⟩, .int .i64 k.2] w fun e w' => e = .returned (.int .i64 1) ∧ w = w' := by
  have HN := hide (cnone_n h)
  clear h
  go_enter Tryz.func40, Tryz.ntmps40
  go_wp2_with fail
  go_at_call 61
  refine HN.out.mono ?_
  rintro e w1 ⟨rfl, rfl⟩
  go_wp2
  go_ret
  exact ⟨rfl, rfl⟩
theorem cput_n {v : Value} {w : World} (h : NoC w v) (k : CKey) (dt : List UInt8) : Calls Tryz.prog 38 #[v, .string ⟨k.1.toArray⟩, .int .i64 k.2, .string ⟨dt.toArray⟩] w fun e w' => e = .returned (.int .i64 1) ∧ w = w' := by
  have HN := hide (cnone_n h)
  clear h
  go_enter Tryz.func38, Tryz.ntmps38
  go_wp2_with fail
  go_at_call 61
  refine HN.out.mono ?_
  rintro e w1 ⟨rfl, rfl⟩
  go_wp2
  go_ret
  exact ⟨rfl, rfl⟩
theorem chas_n {v : Value} {w : World} (h : NoC w v) (k : CKey) : Calls Tryz.prog 31 #[v, .string ⟨k.1.toArray⟩, .int .i64 k.2] w fun e w' => e = .returned (.bool false) ∧ w = w' := by
  have HN := hide (cnone_n h)
  clear h
  go_enter Tryz.func31, Tryz.ntmps31
  go_wp2_with fail
  go_at_call 61
  refine HN.out.mono ?_
  rintro e w1 ⟨rfl, rfl⟩
  go_wp2
  go_ret
  exact ⟨rfl, rfl⟩
theorem clen_n {v : Value} {w : World} (h : NoC w v) : Calls Tryz.prog 21 #[v] w fun e w' => e = .returned (.int .i64 0) ∧ w = w' := by
  have HN := hide (cnone_n h)
  clear h
  go_enter Tryz.func21, Tryz.ntmps21
  go_wp2_with fail
  go_at_call 61
  refine HN.out.mono ?_
  rintro e w1 ⟨rfl, rfl⟩
  go_wp2
  go_ret
  exact ⟨rfl, rfl⟩
theorem cpinned_n {v : Value} {w : World} (h : NoC w v) : Calls Tryz.prog 29 #[v] w fun e w' => e = .returned (.int .i64 0) ∧ w = w' := by
  have HN := hide (cnone_n h)
  clear h
  go_enter Tryz.func29, Tryz.ntmps29
  go_wp2_with fail
  go_at_call 61
  refine HN.out.mono ?_
  rintro e w1 ⟨rfl, rfl⟩
  go_wp2
  go_ret
  exact ⟨rfl, rfl⟩
theorem cdrop_n {v : Value} {w : World} (h : NoC w v) (n : Name) : Calls Tryz.prog 35 #[v, .string ⟨n.toArray⟩] w fun e w' => e = .returned (.tuple #[]) ∧ Fr (fun _ => False) w w' := by
  have HF : Hid (Fr (fun _ => False) w (w.alloc (.cells #[.string ⟨n.toArray⟩] 9))) := (Fr.refl _ _).alloc _
  have HN := hide (cnone_n (h.up HF.out))
  clear h
  go_enter Tryz.func35, Tryz.ntmps35
  go_wp2_with fail
  go_at_call 61
  refine HN.out.mono ?_
  rintro e w1 ⟨rfl, rfl⟩
  go_wp2
  go_end0
  exact ⟨rfl, HF.out⟩
theorem cnew_n (most : Int) (w : World) : Calls Tryz.prog 26 #[.pointer none, .int .i64 most] w fun e w' => e = .returned (.tuple #[.pointer none, .int .i64 1]) ∧ w = w' := by
  go_enter Tryz.func26, Tryz.ntmps26
  go_wp2
  go_ret2
  exact ⟨rfl, rfl⟩
theorem done_n {v : Value} {w : World} (h : NoC w v) (a : CAct) (j : Nat) (hj : j < 5) : Calls Tryz.prog 27 #[v, .agg #[.int .u8 (j : Int), .string ⟨a.name.toArray⟩, .int .i64 a.i, .string ⟨a.data.toArray⟩, .int .u8 (a.x.toNat : Int)]] w fun e w' => e = .returned (.tuple #[.string ⟨#[]⟩, .int .i64 1]) ∧ Fr (fun _ => False) w w' := by
  have hcase : j = 0 ∨ j = 1 ∨ j = 2 ∨ j = 3 ∨ j = 4 := by omega
  obtain ⟨W3, hW3⟩ : ∃ W3, W3 = w.alloc (.cells #[.int .u8 (j : Int), .string ⟨a.name.toArray⟩, .int .i64 a.i, .string ⟨a.data.toArray⟩, .int .u8 (a.x.toNat : Int)] 52) := ⟨_, rfl⟩
  have HF : Hid (Fr (fun _ => False) w W3) := by rw [hW3]; exact (Fr.refl _ _).alloc _
  have HB : Blk W3 w.heap.size 52 #[.int .u8 (j : Int), .string ⟨a.name.toArray⟩, .int .i64 a.i, .string ⟨a.data.toArray⟩, .int .u8 (a.x.toNat : Int)] := by rw [hW3]; exact Blk.new w 52 _
  have s0 : W3.cell? ⟨w.heap.size, 0, none⟩ = some (.int .u8 (j : Int)) := (HB.cell 0).trans rfl
  have s1 : W3.cell? ⟨w.heap.size, 1, none⟩ = some (.string ⟨a.name.toArray⟩) := (HB.cell 1).trans rfl
  have s2 : W3.cell? ⟨w.heap.size, 2, none⟩ = some (.int .i64 a.i) := (HB.cell 2).trans rfl
  have s3 : W3.cell? ⟨w.heap.size, 3, none⟩ = some (.string ⟨a.data.toArray⟩) := (HB.cell 3).trans rfl
  have h3 := h.up HF.out
  have HW3 := hide hW3
  clear h HB hW3
  rcases hcase with rfl | rfl | rfl | rfl | rfl
  · have HC := hide (cget_n h3 (a.name, a.i))
    clear h3
    go_enter Tryz.func27, Tryz.ntmps27
    go_wp2_with fail
    rw [show w.alloc (.cells #[.int .u8 0, .string ⟨a.name.toArray⟩, .int .i64 a.i, .string ⟨a.data.toArray⟩, .int .u8 (a.x.toNat : Int)] 52) = W3 from HW3.out.symm]
    go_wp2_with fail
    go_at_call 20
    refine HC.out.mono ?_
    rintro e w1 ⟨rfl, rfl⟩
    go_wp2
    go_ret2
    exact ⟨rfl, HF.out⟩
  · have HC := hide (cget_n h3 (a.name, a.i))
    clear h3
    go_enter Tryz.func27, Tryz.ntmps27
    go_wp2_with fail
    rw [show w.alloc (.cells #[.int .u8 1, .string ⟨a.name.toArray⟩, .int .i64 a.i, .string ⟨a.data.toArray⟩, .int .u8 (a.x.toNat : Int)] 52) = W3 from HW3.out.symm]
    go_wp2_with fail
    go_at_call 20
    refine HC.out.mono ?_
    rintro e w1 ⟨rfl, rfl⟩
    go_wp2
    go_ret2
    exact ⟨rfl, HF.out⟩
  · have HC := hide (cpin_n h3 (a.name, a.i))
    clear h3
    go_enter Tryz.func27, Tryz.ntmps27
    go_wp2_with fail
    rw [show w.alloc (.cells #[.int .u8 2, .string ⟨a.name.toArray⟩, .int .i64 a.i, .string ⟨a.data.toArray⟩, .int .u8 (a.x.toNat : Int)] 52) = W3 from HW3.out.symm]
    go_wp2_with fail
    go_at_call 39
    refine HC.out.mono ?_
    rintro e w1 ⟨rfl, rfl⟩
    go_wp2
    go_ret2
    exact ⟨rfl, HF.out⟩
  · have HC := hide (cunpin_n h3 (a.name, a.i))
    clear h3
    go_enter Tryz.func27, Tryz.ntmps27
    go_wp2_with fail
    rw [show w.alloc (.cells #[.int .u8 3, .string ⟨a.name.toArray⟩, .int .i64 a.i, .string ⟨a.data.toArray⟩, .int .u8 (a.x.toNat : Int)] 52) = W3 from HW3.out.symm]
    go_wp2_with fail
    go_at_call 40
    refine HC.out.mono ?_
    rintro e w1 ⟨rfl, rfl⟩
    go_wp2
    go_ret2
    exact ⟨rfl, HF.out⟩
  · have HC := hide (cput_n h3 (a.name, a.i) a.data)
    clear h3
    go_enter Tryz.func27, Tryz.ntmps27
    go_wp2_with fail
    rw [show w.alloc (.cells #[.int .u8 4, .string ⟨a.name.toArray⟩, .int .i64 a.i, .string ⟨a.data.toArray⟩, .int .u8 (a.x.toNat : Int)] 52) = W3 from HW3.out.symm]
    go_wp2_with fail
    go_at_call 38
    refine HC.out.mono ?_
    rintro e w1 ⟨rfl, rfl⟩
    go_wp2
    go_ret2
    exact ⟨rfl, HF.out⟩
set_option maxHeartbeats 3200000 in
theorem law_none (a : CAct) (hwf : ActWf a) (most : Int) (w : World) : Calls Tryz.prog 5 #[.agg #[.int .u8 (a.kind : Int), .string ⟨a.name.toArray⟩, .int .i64 a.i, .string ⟨a.data.toArray⟩, .int .u8 (a.x.toNat : Int)], .int .i64 most] w fun e w' => e = .returned (.bool true) ∧ Fr (fun _ => False) w w' := by
  obtain ⟨W1, hW1⟩ : ∃ W1, W1 = w.alloc (.cells #[.int .u8 (a.kind : Int), .string ⟨a.name.toArray⟩, .int .i64 a.i, .string ⟨a.data.toArray⟩, .int .u8 (a.x.toNat : Int)] 52) := ⟨_, rfl⟩
  have HF1 : Hid (Fr (fun _ => False) w W1) := by rw [hW1]; exact (Fr.refl _ _).alloc _
  have HB1 : Hid (Blk W1 w.heap.size 52 (actc a)) := by rw [hW1]; exact Blk.new w 52 _
  have hz1 : W1.heap.size = w.heap.size + 1 := by rw [hW1]; simp
  obtain ⟨W2, hW2⟩ : ∃ W2, W2 = W1.alloc (.cells #[.int .u8 (a.kind : Int), .string ⟨a.name.toArray⟩, .int .i64 a.i, .string ⟨a.data.toArray⟩, .int .u8 (a.x.toNat : Int)] 52) := ⟨_, rfl⟩
  have HF2 : Hid (Fr (fun _ => False) W1 W2) := by rw [hW2]; exact (Fr.refl _ _).alloc _
  have HB2 : Hid (Blk W2 (w.heap.size + 1) 52 (actc a)) := by rw [hW2, ← hz1]; exact Blk.new W1 52 _
  have hz2 : W2.heap.size = w.heap.size + 1 + 1 := by rw [hW2]; simp [hz1]
  have har : ActsR W2 W2.heap.size (some ⟨w.heap.size + 1, 0, none⟩) 1 [a] := by
    refine ⟨rfl, fun x hx => by rw [List.mem_singleton] at hx; rw [hx]; exact hwf, fun i x hx => ?_⟩
    have hi : i = 0 := by
      have := (List.getElem?_eq_some_iff.1 hx).1
      simp at this
      exact this
    subst hi
    obtain rfl := Option.some.inj hx
    exact ⟨_, 0, rfl, by omega, fun j v hv => by rw [HB2.out.cell]; simpa using hv⟩
  have HG := hide (great_ok har 1 1 (by omega) (by omega))
  have HW1 := hide hW1
  have HW2 := hide hW2
  have s0 : W1.cell? ⟨w.heap.size, 0, none⟩ = some (.int .u8 (a.kind : Int)) := (HB1.out.cell 0).trans rfl
  have s1 : W1.cell? ⟨w.heap.size, 1, none⟩ = some (.string ⟨a.name.toArray⟩) := (HB1.out.cell 1).trans rfl
  have s2 : W1.cell? ⟨w.heap.size, 2, none⟩ = some (.int .i64 a.i) := (HB1.out.cell 2).trans rfl
  have s3 : W1.cell? ⟨w.heap.size, 3, none⟩ = some (.string ⟨a.data.toArray⟩) := (HB1.out.cell 3).trans rfl
  have s4 : W1.cell? ⟨w.heap.size, 4, none⟩ = some (.int .u8 (a.x.toNat : Int)) := (HB1.out.cell 4).trans rfl
  have HZ2 := hide hz2
  clear har hW1 hW2 hz2
  go_enter Tryz.func5, Tryz.ntmps5
  go_wp2_with fail
  rw [← HW1.out]
  go_wp2_with fail
  rw [← HW2.out]
  try rw [hz1]
  go_at_call 23
  refine HG.out.mono ?_
  rintro e w2 ⟨hg, rfl⟩
  clear s0 s1 s2 s3 s4
  rcases hg with rfl | ⟨rfl, _, _⟩
  · go_wp2
    go_ret
    exact ⟨rfl, HF1.out.then_ HF2.out⟩
  · go_wp2
    go_loopw [5, 6] (fun c i wr => ∃ (t q : Nat) (cv : Value), i = .int .i64 (t : Int) ∧ cv = c ∧ t ≤ 2 ∧ NoC wr cv ∧ (∀ p : Nat, cv = .pointer (some ⟨p, 0, none⟩) → p ≠ w.heap.size) ∧ Fr (fun _ => False) w wr ∧ Blk wr w.heap.size 52 (actc { a with kind := q })) (fun _ i _ => 2 - (intOf i).toNat)
    case atStart => exact ⟨0, a.kind, .pointer none, rfl, rfl, by omega, .inl rfl, (fun p h => by cases h), HF1.out.then_ HF2.out, HB1.out.fr HF2.out id⟩
    case round =>
      obtain ⟨t, q, cv, rfl, rfl, ht, hnc, hcp, hfr, hbl⟩ := hrel
      have HNC := hide hnc
      have HCP := hide hcp
      have HFR := hide hfr
      have HBL := hide hbl
      clear hnc hcp hfr hbl
      by_cases hlt : t < 2
      · have t0 : (t : Int) < 2 := by omega
        go_wp2
        go_loopw [7] (fun j wq => ∃ (u q : Nat) (WQ : World), j = .int .i64 (u : Int) ∧ WQ = wq ∧ u ≤ 5 ∧ NoC WQ cv ∧ Fr (fun _ => False) w WQ ∧ Blk WQ w.heap.size 52 (actc { a with kind := q })) (fun j _ => 5 - (intOf j).toNat)
        case atStart => exact ⟨0, q, _, rfl, rfl, by omega, HNC.out, HFR.out, HBL.out⟩
        case round =>
          obtain ⟨u, q2, WQ, rfl, rfl, hu, hnc2, hfr2, hbl2⟩ := hrel
          by_cases hul : u < 5
          · have u0 : (u : Int) < 5 := by omega
            have hwr : IntKind.u8.wrap (u : Int) = (u : Int) := by simp only [IntKind.wrap, IntKind.bits, IntKind.signed]; simp; omega
            have z0 : WQ.cell? ⟨w.heap.size, 0, none⟩ = some (.int .u8 (q2 : Int)) := (hbl2.cell 0).trans rfl
            have f0 : WQ.frozen? ⟨w.heap.size, 0, none⟩ = false := hbl2.frozen 0
            have hb3 : Blk (WQ.setCell ⟨w.heap.size, 0, none⟩ (.int .u8 (u : Int))) w.heap.size 52 (actc { a with kind := u }) := hbl2.set_ 0 (.int .u8 (u : Int))
            have hfr3 : Fr (fun _ => False) w (WQ.setCell ⟨w.heap.size, 0, none⟩ (.int .u8 (u : Int))) := hfr2.setCell (p := ⟨w.heap.size, 0, none⟩) (.inr (Nat.le_refl _)) _
            have hnc3 : NoC (WQ.setCell ⟨w.heap.size, 0, none⟩ (.int .u8 (u : Int))) cv := hnc2.fr (Fr.one WQ w.heap.size 0 _) (fun p hp => HCP.out p hp)
            have s0 : (WQ.setCell ⟨w.heap.size, 0, none⟩ (.int .u8 (u : Int))).cell? ⟨w.heap.size, 0, none⟩ = some (.int .u8 (u : Int)) := (hb3.cell 0).trans rfl
            have s1 : (WQ.setCell ⟨w.heap.size, 0, none⟩ (.int .u8 (u : Int))).cell? ⟨w.heap.size, 1, none⟩ = some (.string ⟨a.name.toArray⟩) := (hb3.cell 1).trans rfl
            have s2 : (WQ.setCell ⟨w.heap.size, 0, none⟩ (.int .u8 (u : Int))).cell? ⟨w.heap.size, 2, none⟩ = some (.int .i64 a.i) := (hb3.cell 2).trans rfl
            have s3 : (WQ.setCell ⟨w.heap.size, 0, none⟩ (.int .u8 (u : Int))).cell? ⟨w.heap.size, 3, none⟩ = some (.string ⟨a.data.toArray⟩) := (hb3.cell 3).trans rfl
            have s4 : (WQ.setCell ⟨w.heap.size, 0, none⟩ (.int .u8 (u : Int))).cell? ⟨w.heap.size, 4, none⟩ = some (.int .u8 (a.x.toNat : Int)) := (hb3.cell 4).trans rfl
            have HDN := hide (done_n hnc3 a u hul)
            have H3 := hide (And.intro hnc3 (And.intro hfr3 hb3))
            clear hnc3 hfr3 hb3 hnc2 hfr2 hbl2
            go_wp2_with fail
            go_at_call 27
            refine HDN.out.mono ?_
            rintro e W4 ⟨rfl, hf4⟩
            have HF4 := hide hf4
            clear hf4
            go_wp2
            go_roundw
            case rel => exact ⟨u + 1, u, _, by go_num, rfl, by omega, H3.out.1.up HF4.out, H3.out.2.1.then_ HF4.out, H3.out.2.2.fr HF4.out id⟩
            case measure => simp [intOf]; omega
          · obtain rfl : u = 5 := by omega
            have s1 : WQ.cell? ⟨w.heap.size, 1, none⟩ = some (.string ⟨a.name.toArray⟩) := (hbl2.cell 1).trans rfl
            have s2 : WQ.cell? ⟨w.heap.size, 2, none⟩ = some (.int .i64 a.i) := (hbl2.cell 2).trans rfl
            have HDR := hide (cdrop_n hnc2 a.name)
            have H2 := hide (And.intro hnc2 (And.intro hfr2 hbl2))
            clear hnc2 hfr2 hbl2
            go_wp2_with fail
            go_at_call 35
            refine HDR.out.mono ?_
            rintro e W4 ⟨rfl, hf4⟩
            have hnc4 := H2.out.1.up hf4
            have HC1 := hide (cfs_n hnc4)
            have HC2 := hide (chas_n hnc4 (a.name, a.i))
            have HC3 := hide (clen_n hnc4)
            have HC4 := hide (cpinned_n hnc4)
            have H4 := hide (And.intro (H2.out.2.1.then_ hf4) (H2.out.2.2.fr hf4 id))
            have s1' : W4.cell? ⟨w.heap.size, 1, none⟩ = some (.string ⟨a.name.toArray⟩) := hf4.cell s1 id
            have s2' : W4.cell? ⟨w.heap.size, 2, none⟩ = some (.int .i64 a.i) := hf4.cell s2 id
            clear hnc4 hf4 s1 s2
            go_wp2_with fail
            go_at_call 18
            refine HC1.out.mono ?_
            rintro e w9 ⟨rfl, rfl⟩
            go_wp2_with fail
            go_at_call 31
            refine HC2.out.mono ?_
            rintro e w9 ⟨rfl, rfl⟩
            go_wp2_with fail
            go_at_call 21
            refine HC3.out.mono ?_
            rintro e w9 ⟨rfl, rfl⟩
            go_wp2_with fail
            go_at_call 29
            refine HC4.out.mono ?_
            rintro e w9 ⟨rfl, rfl⟩
            go_wp2
            go_roundw
            case rel =>
              obtain ⟨f4, b4⟩ := H4.out
              have hsz := f4.size
              have hlt4 := b4.lt
              refine ⟨t + 1, q2, _, by go_num, rfl, by omega, .inr ⟨W4.heap.size, rfl, ?_⟩, fun p hp => ?_, f4.alloc _, b4.alloc _⟩
              · exact ((Blk.new W4 66 #[.pointer none, .int .i64 0, .map none, .int .i64 0]).cell 0).trans rfl
              · injection hp with hp
                injection hp with hp
                injection hp with hp
                omega
            case measure => simp [intOf]; omega
      · obtain rfl : t = 2 := by omega
        have HCN := hide (cnew_n most wr)
        go_wp2_with fail
        go_at_call 26
        refine HCN.out.mono ?_
        rintro e w9 ⟨rfl, rfl⟩
        have HDO := hide (does07_true wr)
        go_wp2_with fail
        go_at_call 15
        refine HDO.out.mono ?_
        rintro e W9 ⟨rfl, hf9⟩
        have HF9 := hide (HFR.out.then_ hf9)
        clear hf9
        go_wp2
        go_ret
        exact ⟨rfl, HF9.out⟩
end Go.Proofs.YtkhbemmcegmdaaaGreatDoor
end
section
set_option linter.all false
set_option linter.unusedVariables false
set_option maxRecDepth 100000
namespace Go.Proofs.YtkhbemmcegmdaaaGreatDoor
open Go.RowKit
open Go.ChangeMaps (setBlock)

section
variable {w w' : World} {cb fb cm : Nat} {X : Nat → Prop} {room : Int} {s : CSt}
theorem snew_none {v : Value} (h : NoC w v) (n : Name) (N most : Int) : Calls Tryz.prog 41 #[v, .string ⟨n.toArray⟩, .int .i64 N, .int .i64 most] w fun e w' => e = .returned (.tuple #[.pointer none, .int .i64 1]) ∧ w = w' := by
  have HF := hide (cfs_n h)
  clear h
  go_enter Tryz.func41, Tryz.ntmps41
  go_wp2_with fail
  go_at_call 18
  refine HF.out.mono ?_
  rintro e w9 ⟨rfl, rfl⟩
  go_wp2
  go_ret2
  exact ⟨rfl, rfl⟩
theorem eql_fs_nil (fb : Nat) (W : World) : (binOp .eql 29 (.pointer (some ⟨fb, 0, none⟩)) (.pointer none)).run Tryz.prog W = .ok (.bool false) W := by
  have h : ∀ d : Nat, (Op.equalIn (d + 1) 29 (.pointer (some ⟨fb, 0, none⟩)) (.pointer none)).run Tryz.prog W = .ok false W := fun d => by
    simp [Op.equalIn, run_underlying (Tryz.underlying29), Result.andThen]
  simp only [binOp]
  simp [Op.equal, Op.maxDepth, h 9999]
/-- a new store, of zeros -/
theorem snew_ok (h : CAt w cb fb X room cm s) (n : Name) (hn : nameB n = true) (N most : Nat) (hN : N ≤ 256) (hm : 1 ≤ most) (hmb : most ≤ 9223372036854775807) (hp : fpg n s.F = []) :
    Calls Tryz.prog 41 #[.pointer (some ⟨cb, 0, none⟩), .string ⟨n.toArray⟩, .int .i64 (N : Int), .int .i64 (most : Int)] w fun e w' => ∃ sb tb pb Y, e = .returned (.tuple #[.pointer (some ⟨sb, 0, none⟩), .int .i64 0]) ∧ SMem w' sb tb pb cb fb n N most room cm 0 X Y [] ⟨[], []⟩ s 0 ∧ (∀ j, Y j → w.heap.size ≤ j) ∧ Fr (fun _ => False) w w' := by
  have HF := hide (cfs_ok h)
  have HL : Hid (n.length ≤ 9223372036854775807) := by have := nameB_len hn; show _ ≤ _; omega
  have HN := hide (fun W => fname_ok n HL.out W)
  rw [hn] at HN
  have HC := hide h
  have HFP := hide (fun W (hS : Fr (fun _ => False) w W) => by
    obtain ⟨XF, hat, _, _⟩ := (h.up hS).fs
    have := fpages_ok hat n
    rw [hp] at this
    exact this)
  have HF2 := hide (fun W (hS : Fr (fun _ => False) w W) => cfs_ok (h.up hS))
  have hmm := @run_makeMap Tryz.prog
  have heq := eql_fs_nil fb
  have b0 : decide ((N : Int) < 0) = false := by simp
  have b1 : decide ((N : Int) > 256) = false := by simp; omega
  have b2 : decide ((256 : Int) < (N : Int)) = false := by simp; omega
  have b3 : decide ((most : Int) < 1) = false := by simp; omega
  clear h hn hN hm hmb hp
  go_enter Tryz.func41, Tryz.ntmps41
  go_wp2_with fail
  go_at_call 18
  refine HF.out.mono ?_
  rintro e w9 ⟨rfl, rfl⟩
  go_wp2_with fail
  go_at_call 63
  refine (HN.out _).mono ?_
  rintro e W1 ⟨rfl, hf1⟩
  have H1 := hide hf1
  clear hf1
  go_wp2_with fail
  go_at_call 18
  refine (HF2.out _ H1.out).mono ?_
  rintro e w9 ⟨rfl, rfl⟩
  go_wp2_with fail
  go_at_call 43
  refine (HFP.out _ H1.out).mono ?_
  rintro e w9 ⟨rfl, rfl⟩
  go_wp2
  go_ret2
  have F3 : Fr (fun _ => False) W1 (((W1.alloc (.map #[] 0)).alloc (.map #[] 0)).alloc (.cells #[.pointer (some ⟨cb, 0, none⟩), .string ⟨n.toArray⟩, .int .i64 (N : Int), .int .i64 (most : Int), .bool false, .map (some W1.heap.size), .map (some (W1.heap.size + 1)), .int .i64 0, .int .u32 0, .int .i32 0, .int .u32 0] 103)) := (((Fr.refl _ _).alloc _).alloc _).alloc _
  have FF := H1.out.then_ F3
  have hlt := HC.out.lt
  have hsz := H1.out.size
  have hb := Blk.new ((W1.alloc (.map #[] 0)).alloc (.map #[] 0)) 103 #[.pointer (some ⟨cb, 0, none⟩), .string ⟨n.toArray⟩, .int .i64 (N : Int), .int .i64 (most : Int), .bool false, .map (some W1.heap.size), .map (some (W1.heap.size + 1)), .int .i64 0, .int .u32 0, .int .i32 0, .int .u32 0]
  have hb2 : Blk (((W1.alloc (.map #[] 0)).alloc (.map #[] 0)).alloc (.cells #[.pointer (some ⟨cb, 0, none⟩), .string ⟨n.toArray⟩, .int .i64 (N : Int), .int .i64 (most : Int), .bool false, .map (some W1.heap.size), .map (some (W1.heap.size + 1)), .int .i64 0, .int .u32 0, .int .i32 0, .int .u32 0] 103)) (W1.heap.size + 1 + 1) 103 (scells cb n N most false (.map (some W1.heap.size)) (.map (some (W1.heap.size + 1))) 0 0) := by simpa [scells, ptr, strv] using hb
  have m1 : MBlk (((W1.alloc (.map #[] 0)).alloc (.map #[] 0)).alloc (.cells #[.pointer (some ⟨cb, 0, none⟩), .string ⟨n.toArray⟩, .int .i64 (N : Int), .int .i64 (most : Int), .bool false, .map (some W1.heap.size), .map (some (W1.heap.size + 1)), .int .i64 0, .int .u32 0, .int .i32 0, .int .u32 0] 103)) W1.heap.size ikey [] 0 := by
    unfold MBlk
    rw [heap_alloc_old _ _ (by simp <;> omega), heap_alloc_old _ _ (by simp <;> omega), heap_alloc_new]
    rfl
  have m2 : MBlk (((W1.alloc (.map #[] 0)).alloc (.map #[] 0)).alloc (.cells #[.pointer (some ⟨cb, 0, none⟩), .string ⟨n.toArray⟩, .int .i64 (N : Int), .int .i64 (most : Int), .bool false, .map (some W1.heap.size), .map (some (W1.heap.size + 1)), .int .i64 0, .int .u32 0, .int .i32 0, .int .u32 0] 103)) (W1.heap.size + 1) ikey [] 0 := by
    unfold MBlk
    have h0 : ((W1.alloc (.map #[] 0)).alloc (.map #[] 0)).heap[W1.heap.size + 1]? = some (.map #[] 0) := by have := heap_alloc_new (W1.alloc (.map #[] 0)) (.map #[] 0); simpa using this
    rw [heap_alloc_old _ _ (by simp), h0]
    rfl
  refine ⟨W1.heap.size + 1 + 1, W1.heap.size, W1.heap.size + 1, fun j => j = W1.heap.size ∨ j = W1.heap.size + 1 ∨ j = W1.heap.size + 1 + 1, rfl, ⟨⟨fun j hj => ?_, .inr (.inr rfl), .inl rfl, .inr (.inl rfl), by omega, hb2, m1, m2, by simp, by simp, by simp, by simp, by simp, by simp⟩, rfl, HC.out.up FF, fun j hj hy => ?_⟩, fun j hj => ?_, FF⟩
  · simp; omega
  · have := hlt j hj; omega
  · omega
end
end Go.Proofs.YtkhbemmcegmdaaaGreatDoor
end
section
set_option linter.all false
set_option linter.unusedVariables false
set_option maxRecDepth 100000
namespace Go.Proofs.YtkhbemmcegmdaaaGreatDoor
open Go.RowKit
open Go.ChangeMaps (setBlock)

theorem racd_ok (w : World) : (callFunc 195 #[]).run Tryz.prog w = .ok (.value (.tuple #[])) w := run_call_mark0 Tryz.func195 (by kernel_rfl) (by kernel_rfl) (by kernel_rfl) .disable (by kernel_rfl) w
theorem race_ok (w : World) : (callFunc 197 #[]).run Tryz.prog w = .ok (.value (.tuple #[])) w := run_call_mark0 Tryz.func197 (by kernel_rfl) (by kernel_rfl) (by kernel_rfl) .enable (by kernel_rfl) w
theorem raca_ok (a : Addr) (w : World) : (callFunc 198 #[.pointer (some a)]).run Tryz.prog w = .ok (.value (.tuple #[])) w := run_call_marked Tryz.func198 (by kernel_rfl) (by kernel_rfl) (by kernel_rfl) .acquire (by kernel_rfl) a w
theorem racr_ok (a : Addr) (w : World) : (callFunc 200 #[.pointer (some a)]).run Tryz.prog w = .ok (.value (.tuple #[])) w := run_call_marked Tryz.func200 (by kernel_rfl) (by kernel_rfl) (by kernel_rfl) .releaseMerge (by kernel_rfl) a w
theorem bload_ok (a : Addr) (x : Int) (w : World) (h0 : w.cell? a = some (.int .u32 x)) : Calls Tryz.prog 135 #[.pointer (some a)] w fun e w' => e = .returned (.bool (x != 0)) ∧ w = w' := by
  have hl := run_call_load (P := Tryz.prog) Tryz.func157 (by kernel_rfl) (by kernel_rfl) (by kernel_rfl) .u32 (by kernel_rfl) h0
  go_enter Tryz.func135, Tryz.ntmps135
  go_wp2
  go_ret
  exact ⟨rfl, rfl⟩
theorem bstore_d (a : Addr) (x : Value) (u : FrameMode) (w : World) (hc : w.cell? a = some x) (hz : w.frozen? a = false) :
    CallsD Tryz.prog 160 #[.pointer (some a), .bool true] u w fun e u' w' => u' = u ∧ (e = .returned (.tuple #[]) ∧ w' = w.drew.setCell a (.int .u32 1)) := by
  have hc' : w.drew.cell? a = some x := by go_simp
  have hz' : w.drew.frozen? a = false := by go_simp
  have hst := run_call_store (P := Tryz.prog) Tryz.func176 (by kernel_rfl) (by kernel_rfl) (by kernel_rfl) (by kernel_rfl) (k := .u32) (y := 1) hc' hz'
  go_enter_d Tryz.func160, Tryz.ntmps160
  go_wp2
  go_region_calls
  all_goals (go_end0; exact ⟨rfl, rfl⟩)
theorem ilock_ok (a : Addr) (w : World) (hc : w.cell? a = some (.int .i32 0)) (hz : w.frozen? a = false) :
    Calls Tryz.prog 174 #[.pointer (some a)] w fun e w' => e = .returned (.tuple #[]) ∧ w' = w.setCell a (.int .i32 1) := by
  have hd := racd_ok
  have he := race_ok
  have ha := raca_ok
  have hcas := run_call_cas_hit (P := Tryz.prog) Tryz.func196 (by kernel_rfl) (by kernel_rfl) (by kernel_rfl) .i32 (by kernel_rfl) (y := 1) hc hz
  have hc' : (w.setCell a (.int .i32 1)).cell? a = some (.int .i32 1) := World.cell?_setCell_same w a _ hc
  have hcv := run_convert_to_unsafe (P := Tryz.prog) (src := 259) (dst := 230) Tryz.underlying259 Tryz.underlying230 (by kernel_rfl) hc'
  go_enter Tryz.func174, Tryz.ntmps174
  go_wp2
  first | go_end0 | (simp only [Exit.inBlock, Exit.then]; refine bodyPost_ret (results_none rfl _ _ _) rfl ?_) | refine bodyPost_ret (results_none rfl _ _ _) rfl ?_
  go_wp2
theorem mlock_ok (a : Addr) (w : World) (hc : w.cell? a = some (.int .i32 0)) (hz : w.frozen? a = false) :
    Calls Tryz.prog 158 #[.pointer (some a)] w fun e w' => e = .returned (.tuple #[]) ∧ w' = w.setCell a (.int .i32 1) := by
  have HI := hide (ilock_ok a w hc hz)
  go_enter Tryz.func158, Tryz.ntmps158
  go_wp2_with fail
  go_at_call 174
  refine HI.out.mono ?_
  rintro e w2 ⟨rfl, rfl⟩
  go_wp2
  go_end0
  exact ⟨rfl, rfl⟩
theorem iunlock_ok (a : Addr) (w : World) (hc : w.cell? a = some (.int .i32 1)) (hz : w.frozen? a = false) :
    Calls Tryz.prog 175 #[.pointer (some a)] w fun e w' => e = .returned (.tuple #[]) ∧ w' = w.setCell a (.int .i32 0) := by
  have hd := racd_ok
  have he := race_ok
  have hr := racr_ok
  have hadd := run_call_add (P := Tryz.prog) Tryz.func201 (by kernel_rfl) (by kernel_rfl) (by kernel_rfl) .i32 (by kernel_rfl) (y := -1) (s := 0) hc hz (by simp [go_sem]; rfl)
  have hcv := run_convert_to_unsafe (P := Tryz.prog) (src := 259) (dst := 230) Tryz.underlying259 Tryz.underlying230 (by kernel_rfl) hc
  go_enter Tryz.func175, Tryz.ntmps175
  go_wp2
  first | go_end0 | skip
  go_wp2
theorem munlock_d (a : Addr) (u : FrameMode) (w : World) (hc : w.cell? a = some (.int .i32 1)) (hz : w.frozen? a = false) :
    CallsD Tryz.prog 159 #[.pointer (some a)] u w fun e u' w' => u' = u ∧ (e = .returned (.tuple #[]) ∧ w' = w.setCell a (.int .i32 0)) := by
  have HI := hide (iunlock_ok a w hc hz)
  go_enter_d Tryz.func159, Tryz.ntmps159
  go_wp2_with fail
  go_at_call 175
  refine HI.out.mono ?_
  rintro e w2 ⟨rfl, rfl⟩
  go_wp2
  go_end0
  exact ⟨rfl, rfl⟩
/-- a store's cells, its lock held or not -/
def xcells (cb : Nat) (n : Name) (N : Nat) (most : Nat) (over : Bool) (there pages : Value) (ask : Int) (done lk : Int) : Array Value :=
  #[ptr cb, strv n, .int .i64 (N : Int), .int .i64 (most : Int), .bool over, there, pages, .int .i64 ask, .int .u32 done, .int .i32 lk, .int .u32 0]
section
variable {w w' : World} {sb cb fb N most cm pl : Nat} {X : Nat → Prop} {room ask lk d : Int} {n : Name} {s : CSt} {over : Bool} {there pages : Value}
theorem xend_ok (h : Blk w sb 103 (xcells cb n N most over there pages ask d lk)) : Calls Tryz.prog 91 #[.pointer (some ⟨sb, 0, none⟩)] w fun e w' => e = .returned (.tuple #[]) ∧ Blk w' sb 103 (xcells cb n N most true (.map none) pages ask d lk) ∧ Fr (fun k => k = sb) w w' := by
  have f4 := h.frozen 4
  have f5 := h.frozen 5
  have c4 : w.cell? ⟨sb, 4, none⟩ = some (.bool over) := (h.cell 4).trans rfl
  have c5 : w.cell? ⟨sb, 5, none⟩ = some there := (h.cell 5).trans rfl
  have HB := hide h
  clear h
  go_enter Tryz.func91, Tryz.ntmps91
  go_wp2
  go_end0
  refine ⟨rfl, ?_, ((Fr.refl (fun k => k = sb) w).setCell (p := ⟨sb, 4, none⟩) (.inl rfl) _).setCell (p := ⟨sb, 5, none⟩) (.inl rfl) _⟩
  exact (HB.out.set_ 4 _).set_ 5 _
/-- a cache behind a file that is removed -/
def sclosed (n : Name) (s : CSt) : CSt := cdrop n { s with F := (fsremove s.F n).2 }
theorem close1_ok (h : Blk w sb 103 (xcells cb n N most over there pages ask d lk)) (hp : w.cell? ⟨pl, 0, none⟩ = some (.pointer (some ⟨sb, 0, none⟩))) (hne : pl ≠ sb) (hc : CAt w cb fb X room cm s) (hxs : ¬ X sb) (hxp : ¬ X pl) :
    Calls Tryz.prog 90 #[.pointer (some ⟨pl, 0, none⟩)] w fun e w' => e = .returned (.tuple #[]) ∧ Blk w' sb 103 (xcells cb n N most true (.map none) pages ask d lk) ∧ (∃ X', CAt w' cb fb X' room cm (sclosed n s) ∧ ∀ j, X' j → X j ∨ w.heap.size ≤ j) ∧ Fr (fun j => X j ∨ j = sb) w w' := by
  have HE := hide (xend_ok h)
  have HC := hide hc
  have HXS := hide (And.intro hxs (And.intro hxp hne))
  have HLT := hide (And.intro h.lt (World.block_lt_of_cell? w _ hp))
  have HP := hide hp
  clear h hc hxs hxp hne
  go_enter Tryz.func90, Tryz.ntmps90
  go_wp2_with fail
  go_at_call 91
  refine HE.out.mono ?_
  rintro e W1 ⟨rfl, hb1, hf1⟩
  have HB1 := hide hb1
  have HC1 := hide (HC.out.keep hf1 (fun j hx e => HXS.out.1 (by rw [← e]; exact hx)))
  have HF1 := hide hf1
  have p0 : W1.cell? ⟨pl, 0, none⟩ = some (.pointer (some ⟨sb, 0, none⟩)) := hf1.cell HP.out HXS.out.2.2
  have s0 : W1.cell? ⟨sb, 0, none⟩ = some (.pointer (some ⟨cb, 0, none⟩)) := (hb1.cell 0).trans rfl
  have s1 : W1.cell? ⟨sb, 1, none⟩ = some (.string ⟨n.toArray⟩) := (hb1.cell 1).trans rfl
  have HCS := hide (fun W (hS : Fr X W1 W) => (⟨hS.cell p0 HXS.out.2.1, hS.cell s0 HXS.out.1, hS.cell s1 HXS.out.1⟩ : W.cell? ⟨pl, 0, none⟩ = some (.pointer (some ⟨sb, 0, none⟩)) ∧ W.cell? ⟨sb, 0, none⟩ = some (.pointer (some ⟨cb, 0, none⟩)) ∧ W.cell? ⟨sb, 1, none⟩ = some (.string ⟨n.toArray⟩)))
  have HFS := hide (fun W (hS : Fr (fun _ => False) W1 W) => cfs_ok (HC1.out.up hS))
  have HRM := hide (fun W (hS : Fr (fun _ => False) W1 W) => (HC1.out.up hS).lift (fun XF hat => fremove_any hat n))
  clear hb1 hf1 p0 s0 s1 hp
  go_wp2_with fail
  refine wp_region_ord [(0, true), (1, true), (2, true), (3, true), (5, true), (6, true), (7, true), (8, true), (4, false), (9, false)] (fun W => W.cell? ⟨pl, 0, none⟩ = some (.pointer (some ⟨sb, 0, none⟩)) ∧ W.cell? ⟨sb, 0, none⟩ = some (.pointer (some ⟨cb, 0, none⟩)) ∧ W.cell? ⟨sb, 1, none⟩ = some (.string ⟨n.toArray⟩)) (by kernel_rfl) (by kernel_rfl) (HCS.out _ (Fr.refl _ _).drew) ?_
  iterate 8
    refine ord_read rfl ?_ ?_ (fun W hS => ?_) ?_
    · rfl
    rotate_left
    · (obtain ⟨x1, x2, x3⟩ := hS; go_simp; try with_reducible rfl)
    simp only [List.getElem_toArray, List.getElem_cons_zero, List.getElem_cons_succ, Act.put, List.setIfInBounds_toArray, List.set_cons_zero, List.set_cons_succ]
  refine ord_act rfl ?_
  go_wp2_with fail
  go_at_call 18
  refine (HFS.out _ (Fr.refl _ _).drew).mono ?_
  rintro e w9 ⟨rfl, rfl⟩
  have HCS1 := HCS.out _ (Fr.refl X W1).drew
  go_wp2
  refine midQ_ok HCS1 ?_
  refine ord_act rfl ?_
  go_wp2_with fail
  go_at_call 68
  refine (HRM.out _ (Fr.refl _ _).drew).mono ?_
  rintro e W2 ⟨rfl, ⟨X2, at2, nx2⟩, fr2⟩
  have fr2' : Fr X W1 W2 := (Fr.refl X W1).drew.trans fr2 (fun _ h => .inl h)
  have HA2 := hide (And.intro at2 (show ∀ j, X2 j → X j ∨ W1.heap.size ≤ j from fun j hj => by have := nx2 j hj; simpa using this))
  have HF2 := hide fr2'
  have HCS2 := HCS.out W2 fr2'
  have HDR := hide (fun W (hS : Fr (fun _ => False) W2 W) => cdrop_ok (HA2.out.1.up hS) n)
  clear at2 nx2 fr2 fr2' HCS1
  have hx2s : ¬ X2 sb := fun h => by
    have := HLT.out.1
    have := HF1.out.size
    rcases HA2.out.2 _ h with h | h
    · exact HXS.out.1 h
    · omega
  have hx2p : ¬ X2 pl := fun h => by
    have := HLT.out.2
    have := HF1.out.size
    rcases HA2.out.2 _ h with h | h
    · exact HXS.out.2.1 h
    · omega
  have HCT := hide (fun W (hS : Fr X2 W2 W) => (⟨hS.cell HCS2.1 hx2p, hS.cell HCS2.2.1 hx2s, hS.cell HCS2.2.2 hx2s⟩ : W.cell? ⟨pl, 0, none⟩ = some (.pointer (some ⟨sb, 0, none⟩)) ∧ W.cell? ⟨sb, 0, none⟩ = some (.pointer (some ⟨cb, 0, none⟩)) ∧ W.cell? ⟨sb, 1, none⟩ = some (.string ⟨n.toArray⟩)))
  go_wp2
  refine midQ_ok HCS2 ?_
  clear HCS2
  refine ord_done ?_
  refine NoPanic.normal ?_
  go_wp2_with fail
  refine wp_region_ord [(0, true), (1, true), (2, true), (3, true), (4, true), (5, true), (6, true), (7, true), (8, false)] (fun W => W.cell? ⟨pl, 0, none⟩ = some (.pointer (some ⟨sb, 0, none⟩)) ∧ W.cell? ⟨sb, 0, none⟩ = some (.pointer (some ⟨cb, 0, none⟩)) ∧ W.cell? ⟨sb, 1, none⟩ = some (.string ⟨n.toArray⟩)) (by kernel_rfl) (by kernel_rfl) (HCT.out _ (Fr.refl _ _).drew) ?_
  iterate 8
    refine ord_read rfl ?_ ?_ (fun W hS => ?_) ?_
    · rfl
    rotate_left
    · (obtain ⟨x1, x2, x3⟩ := hS; go_simp; try with_reducible rfl)
    simp only [List.getElem_toArray, List.getElem_cons_zero, List.getElem_cons_succ, Act.put, List.setIfInBounds_toArray, List.set_cons_zero, List.set_cons_succ]
  refine ord_act rfl ?_
  go_wp2_with fail
  go_at_call 35
  refine (HDR.out _ (Fr.refl _ _).drew).mono ?_
  rintro e W3 ⟨rfl, at3, fr3⟩
  have fr3' : Fr X2 W2 W3 := (Fr.refl X2 W2).drew.trans fr3 (fun _ h => .inl h)
  have H3 := hide (And.intro at3 fr3')
  have HCS3 := HCT.out W3 fr3'
  clear at3 fr3 fr3'
  go_wp2
  refine midQ_ok HCS3 ?_
  refine ord_done ?_
  refine NoPanic.normal ?_
  go_wp2
  go_end0
  refine ⟨rfl, (HB1.out.fr HF2.out HXS.out.1).fr H3.out.2 hx2s, ⟨X2, H3.out.1, fun j hj => ?_⟩, ?_⟩
  · have := HF1.out.size
    rcases HA2.out.2 j hj with h | h
    · exact .inl h
    · exact .inr (by omega)
  · refine ((HF1.out.mono (S' := fun j => X j ∨ j = sb) (fun _ h => .inr h)).trans HF2.out (fun j h => .inl (.inl h))).trans H3.out.2 (fun j hj => ?_)
    have := HF1.out.size
    rcases HA2.out.2 j hj with h | h
    · exact .inl (.inl h)
    · exact .inr (by omega)
theorem slow_ok (h : Blk w sb 103 (xcells cb n N most over there pages ask 0 0)) (hp : w.cell? ⟨pl, 0, none⟩ = some (.pointer (some ⟨sb, 0, none⟩))) (hne : pl ≠ sb) (hc : CAt w cb fb X room cm s) (hxs : ¬ X sb) (hxp : ¬ X pl) :
    Calls Tryz.prog 136 #[.pointer (some ⟨sb, 8, none⟩), .func (.func 90) #[] #[.pointer (some ⟨pl, 0, none⟩)]] w fun e w' => e = .returned (.tuple #[]) ∧ Blk w' sb 103 (xcells cb n N most true (.map none) pages ask 1 0) ∧ (∃ X', CAt w' cb fb X' room cm (sclosed n s) ∧ ∀ j, X' j → X j ∨ w.heap.size ≤ j) ∧ Fr (fun j => X j ∨ j = sb) w w' := by
  have HML := hide (mlock_ok ⟨sb, 9, none⟩ w ((h.cell 9).trans rfl) (h.frozen 9))
  have hb1 := h.set_ 9 (.int .i32 1)
  have hf1 : Fr (fun k => k = sb) w (w.setCell ⟨sb, 9, none⟩ (.int .i32 1)) := Fr.one w sb 9 (.int .i32 1)
  have hp1 : (w.setCell ⟨sb, 9, none⟩ (.int .i32 1)).cell? ⟨pl, 0, none⟩ = some (.pointer (some ⟨sb, 0, none⟩)) := hf1.cell hp hne
  have hc1 := hc.keep hf1 (fun j hx e => hxs (by rw [← e]; exact hx))
  have hb1' : Blk (w.setCell ⟨sb, 9, none⟩ (.int .i32 1)) sb 103 (xcells cb n N most over there pages ask 0 1) := hb1
  have HLD := hide (bload_ok ⟨sb, 8, none⟩ 0 (w.setCell ⟨sb, 9, none⟩ (.int .i32 1)) ((hb1'.cell 8).trans rfl))
  have HCL := hide (close1_ok hb1' hp1 hne hc1 hxs hxp)
  have HF1 := hide hf1
  have HXS := hide (And.intro hxs hxp)
  have hnot : ∀ (x : Bool) (w : World), (Op.unary .not (.bool x)).run Tryz.prog w = .ok (.bool (!x)) w := fun _ _ => rfl
  have HLT := hide h.lt
  clear h hp hne hc hxs hxp hb1 hf1 hp1 hc1 hb1'
  go_enter_defers Tryz.func136, Tryz.ntmps136
  go_wp2_with fail
  go_at_call 158
  refine HML.out.mono ?_
  rintro e w2 ⟨rfl, rfl⟩
  go_wp2_with fail
  go_at_call 135
  refine HLD.out.mono ?_
  rintro e w2 ⟨rfl, rfl⟩
  go_wp2_with fail
  go_at_call 90
  refine HCL.out.mono ?_
  rintro e W2 ⟨rfl, hb2, ⟨X2, at2, nx2⟩, fr2⟩
  have HB2 := hide hb2
  have HA2 := hide (And.intro at2 nx2)
  have HF2 := hide fr2
  clear hb2 at2 nx2 fr2
  go_wp2
  have HB8 := hide (HB2.out.drew.set_ 8 (.int .u32 1))
  have HF8 := hide (show Fr (fun j => j = sb) W2 (W2.drew.setCell ⟨sb, 8, none⟩ (.int .u32 1)) from (Fr.refl (fun j => j = sb) W2).drew.setCell (p := ⟨sb, 8, none⟩) (.inl rfl) _)
  refine leaves_cons (f := 160) (args := #[.pointer (some ⟨sb, 8, none⟩), .bool true]) (by simp) (by simp [go_sem]) ?_
  refine (bstore_d ⟨sb, 8, none⟩ (.int .u32 0) .returning _ ((HB2.out.cell 8).trans rfl) (HB2.out.frozen 8)).mono ?_
  rintro e u' W3 ⟨rfl, rfl, rfl⟩
  refine leaves_cons (f := 159) (args := #[.pointer (some ⟨sb, 9, none⟩)]) (by simp [settle]) (by simp [go_sem]) ?_
  refine (munlock_d ⟨sb, 9, none⟩ _ _ ((HB8.out.cell 9).trans rfl) (HB8.out.frozen 9)).mono ?_
  rintro e u' W4 ⟨rfl, rfl, rfl⟩
  have hx2s : ¬ X2 sb := fun h => by
    have h1 := HLT.out
    have h2 := HF1.out.size
    rcases HA2.out.2 _ h with h | h
    · exact HXS.out.1 h
    · omega
  have hf9 : Fr (fun j => j = sb) W2 ((W2.drew.setCell ⟨sb, 8, none⟩ (.int .u32 1)).setCell ⟨sb, 9, none⟩ (.int .i32 0)) := HF8.out.setCell (p := ⟨sb, 9, none⟩) (.inl rfl) _
  refine ⟨.tuple #[], by simp [results, Tryz.results136], rfl, HB8.out.set_ 9 (.int .i32 0), ⟨X2, HA2.out.1.keep hf9 (fun j hx e => hx2s (by rw [← e]; exact hx)), fun j hj => ?_⟩, ?_⟩
  · have h2 := HF1.out.size
    rcases HA2.out.2 j hj with h | h
    · exact .inl h
    · exact .inr (by omega)
  · exact ((HF1.out.mono (S' := fun j => X j ∨ j = sb) (fun _ h => .inr h)).trans HF2.out (fun j h => .inl h)).trans hf9 (fun j h => .inl (.inr h))
theorem once_ok (h : Blk w sb 103 (xcells cb n N most over there pages ask 0 0)) (hp : w.cell? ⟨pl, 0, none⟩ = some (.pointer (some ⟨sb, 0, none⟩))) (hne : pl ≠ sb) (hc : CAt w cb fb X room cm s) (hxs : ¬ X sb) (hxp : ¬ X pl) :
    Calls Tryz.prog 89 #[.pointer (some ⟨sb, 8, none⟩), .func (.func 90) #[] #[.pointer (some ⟨pl, 0, none⟩)]] w fun e w' => e = .returned (.tuple #[]) ∧ Blk w' sb 103 (xcells cb n N most true (.map none) pages ask 1 0) ∧ (∃ X', CAt w' cb fb X' room cm (sclosed n s) ∧ ∀ j, X' j → X j ∨ w.heap.size ≤ j) ∧ Fr (fun j => X j ∨ j = sb) w w' := by
  have HLD := hide (bload_ok ⟨sb, 8, none⟩ 0 w ((h.cell 8).trans rfl))
  have HSL := hide (slow_ok h hp hne hc hxs hxp)
  clear h hp hne hc hxs hxp
  have hnot : ∀ (x : Bool) (w : World), (Op.unary .not (.bool x)).run Tryz.prog w = .ok (.bool (!x)) w := fun _ _ => rfl
  go_enter Tryz.func89, Tryz.ntmps89
  go_wp2_with fail
  go_at_call 135
  refine HLD.out.mono ?_
  rintro e w2 ⟨rfl, rfl⟩
  go_wp2_with fail
  go_at_call 136
  refine HSL.out.mono ?_
  rintro e W2 ⟨rfl, hr⟩
  have HR := hide hr
  clear hr
  go_wp2
  go_end0
  exact ⟨rfl, HR.out⟩
theorem once_done (h : Blk w sb 103 (xcells cb n N most over there pages ask 1 0)) (fv : Value) :
    Calls Tryz.prog 89 #[.pointer (some ⟨sb, 8, none⟩), fv] w fun e w' => e = .returned (.tuple #[]) ∧ w = w' := by
  have HLD := hide (bload_ok ⟨sb, 8, none⟩ 1 w ((h.cell 8).trans rfl))
  clear h
  have hnot : ∀ (x : Bool) (w : World), (Op.unary .not (.bool x)).run Tryz.prog w = .ok (.bool (!x)) w := fun _ _ => rfl
  go_enter Tryz.func89, Tryz.ntmps89
  go_wp2_with fail
  go_at_call 135
  refine HLD.out.mono ?_
  rintro e w2 ⟨rfl, rfl⟩
  go_wp2
  go_end0
  exact ⟨rfl, rfl⟩
theorem sclose_ok (h : Blk w sb 103 (scells cb n N most over there pages ask 0)) (hc : CAt w cb fb X room cm s) (hxs : ¬ X sb) :
    Calls Tryz.prog 48 #[.pointer (some ⟨sb, 0, none⟩)] w fun e w' => e = .returned (.tuple #[]) ∧ SEnd w' sb cb n N most 1 ∧ (∃ X', CAt w' cb fb X' room cm (sclosed n s) ∧ ∀ j, X' j → X j ∨ w.heap.size ≤ j) ∧ Fr (fun j => X j ∨ j = sb) w w' := by
  have f1 : Fr (fun _ => False) w (w.alloc (.cells #[.pointer (some ⟨sb, 0, none⟩)] 73)) := (Fr.refl _ _).alloc _
  have p0 : (w.alloc (.cells #[.pointer (some ⟨sb, 0, none⟩)] 73)).cell? ⟨w.heap.size, 0, none⟩ = some (.pointer (some ⟨sb, 0, none⟩)) := by simp
  have c0 : (w.alloc (.cells #[.pointer (some ⟨sb, 0, none⟩)] 73)).cell? ⟨sb, 0, none⟩ = some (.pointer (some ⟨cb, 0, none⟩)) := f1.cell ((h.cell 0).trans rfl) id
  have HON := hide (once_ok (pl := w.heap.size) (show Blk _ sb 103 (xcells cb n N most over there pages ask 0 0) from h.fr f1 id) p0 (by have := h.lt; omega) (hc.up f1) hxs (fun hx => by have := hc.lt _ hx; omega))
  have HF1 := hide f1
  have hmf : ∀ (fn : Fn) (first cap : Array Value) (w : World), (Instr.makeFunc fn first cap).run Tryz.prog w = .ok (.func fn first cap) w := fun _ _ _ _ => rfl
  clear h hc hxs f1
  go_enter Tryz.func48, Tryz.ntmps48
  go_wp2_with fail
  go_at_call 89
  refine HON.out.mono ?_
  rintro e W2 ⟨rfl, hb2, ⟨X2, at2, nx2⟩, fr2⟩
  have HR := hide (And.intro hb2 (And.intro at2 (And.intro nx2 fr2)))
  clear hb2 at2 nx2 fr2
  go_wp2
  go_end0
  obtain ⟨hb2, at2, nx2, fr2⟩ := HR.out
  refine ⟨rfl, ⟨ask, pages, hb2⟩, ⟨X2, at2, fun j hj => ?_⟩, (HF1.out.mono (S' := fun j => X j ∨ j = sb) (fun _ h => h.elim)).trans fr2 (fun j h => .inl h)⟩
  have h2 := HF1.out.size
  rcases nx2 j hj with h | h
  · exact .inl h
  · exact .inr (by omega)
theorem sclose_done (h : SEnd w sb cb n N most 1) : Calls Tryz.prog 48 #[.pointer (some ⟨sb, 0, none⟩)] w fun e w' => e = .returned (.tuple #[]) ∧ Fr (fun _ => False) w w' := by
  obtain ⟨ask, pages, h⟩ := h
  have f1 : Fr (fun _ => False) w (w.alloc (.cells #[.pointer (some ⟨sb, 0, none⟩)] 73)) := (Fr.refl _ _).alloc _
  have p0 : (w.alloc (.cells #[.pointer (some ⟨sb, 0, none⟩)] 73)).cell? ⟨w.heap.size, 0, none⟩ = some (.pointer (some ⟨sb, 0, none⟩)) := by simp
  have c0 : (w.alloc (.cells #[.pointer (some ⟨sb, 0, none⟩)] 73)).cell? ⟨sb, 0, none⟩ = some (.pointer (some ⟨cb, 0, none⟩)) := f1.cell ((h.cell 0).trans rfl) id
  have HON := hide (fun fv => once_done (show Blk _ sb 103 (xcells cb n N most true (.map none) pages ask 1 0) from h.fr f1 id) fv)
  have HF1 := hide f1
  have hmf : ∀ (fn : Fn) (first cap : Array Value) (w : World), (Instr.makeFunc fn first cap).run Tryz.prog w = .ok (.func fn first cap) w := fun _ _ _ _ => rfl
  clear h f1
  go_enter Tryz.func48, Tryz.ntmps48
  go_wp2_with fail
  go_at_call 89
  refine (HON.out _).mono ?_
  rintro e W2 ⟨rfl, rfl⟩
  go_wp2
  go_end0
  exact ⟨rfl, HF1.out⟩
theorem sclose_none {v : Value} (h : SNone w v) : Calls Tryz.prog 48 #[v] w fun e w' => e = .returned (.tuple #[]) ∧ Fr (fun _ => False) w w' := by
  have f1 : Fr (fun _ => False) w (w.alloc (.cells #[v] 73)) := (Fr.refl _ _).alloc _
  have HF1 := hide f1
  rcases h with rfl | ⟨sb, rfl, c0, _, _⟩
  · clear f1
    go_enter Tryz.func48, Tryz.ntmps48
    go_wp2
    first | go_end0 | (simp only [Exit.inBlock, Exit.then]; refine bodyPost_ret (results_none rfl _ _ _) rfl ?_) | refine bodyPost_ret (results_none rfl _ _ _) rfl ?_
    exact ⟨rfl, HF1.out⟩
  · have c0' : (w.alloc (.cells #[.pointer (some ⟨sb, 0, none⟩)] 73)).cell? ⟨sb, 0, none⟩ = some (.pointer none) := f1.cell c0 id
    clear f1 c0
    go_enter Tryz.func48, Tryz.ntmps48
    go_wp2
    first | go_end0 | (simp only [Exit.inBlock, Exit.then]; refine bodyPost_ret (results_none rfl _ _ _) rfl ?_) | refine bodyPost_ret (results_none rfl _ _ _) rfl ?_
    exact ⟨rfl, HF1.out⟩
end
end Go.Proofs.YtkhbemmcegmdaaaGreatDoor
end
