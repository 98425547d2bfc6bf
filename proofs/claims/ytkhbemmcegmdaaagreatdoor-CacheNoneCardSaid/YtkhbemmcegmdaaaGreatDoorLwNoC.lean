/- CacheNone, by contract. -/
import Derived.Test.YtkhbemmcegmdaaaGreatDoorAc
set_option linter.all false
set_option linter.unusedVariables false
set_option maxRecDepth 100000
namespace Go.Proofs.YtkhbemmcegmdaaaGreatDoor
open Go.RowKit

/-- a cache that is none -/
def NoC (w : World) (v : Value) : Prop := v = .pointer none ∨ ∃ p, v = .pointer (some ⟨p, 0, none⟩) ∧ w.cell? ⟨p, 0, none⟩ = some (.pointer none)
theorem NoC.fr {w w' : World} {v : Value} {S : Nat → Prop} (h : NoC w v) (hf : Fr S w w') (hs : ∀ p, v = .pointer (some ⟨p, 0, none⟩) → ¬ S p) : NoC w' v := by
  rcases h with h | ⟨p, h1, h2⟩
  · exact .inl h
  · exact .inr ⟨p, h1, hf.cell h2 (hs p h1)⟩
theorem NoC.up {w w' : World} {v : Value} (h : NoC w v) (hf : Fr (fun _ => False) w w') : NoC w' v := h.fr hf (fun _ _ h => h)
theorem cnone_n {v : Value} {w : World} (h : NoC w v) : Calls Tryz.prog 61 #[v] w fun e w' => e = .returned (.bool true) ∧ w = w' := by
  rcases h with rfl | ⟨p, rfl, h⟩
  · go_enter Tryz.func61, Tryz.ntmps61
    go_wp2
    go_ret
    exact ⟨rfl, rfl⟩
  · go_enter Tryz.func61, Tryz.ntmps61
    go_wp2
    go_ret
    exact ⟨rfl, rfl⟩
theorem cfs_n {v : Value} {w : World} (h : NoC w v) : Calls Tryz.prog 18 #[v] w fun e w' => e = .returned (.pointer none) ∧ w = w' := by
  have HN := hide (cnone_n h)
  clear h
  go_enter Tryz.func18, Tryz.ntmps18
  go_wp2_with fail
  go_at_call 61
  refine HN.out.mono ?_
  rintro e w1 ⟨rfl, rfl⟩
  go_wp2
  go_ret
  exact ⟨rfl, rfl⟩
theorem cfind_n {v : Value} {w : World} (h : NoC w v) (k : CKey) : Calls Tryz.prog 66 #[v, .string ⟨k.1.toArray⟩, .int .i64 k.2] w fun e w' => e = .returned (.tuple #[.pointer none, .int .i64 1]) ∧ w = w' := by
  have HN := hide (cnone_n h)
  clear h
  go_enter Tryz.func66, Tryz.ntmps66
  go_wp2_with fail
  go_at_call 61
  refine HN.out.mono ?_
  rintro e w1 ⟨rfl, rfl⟩
  go_wp2
  go_ret2
  exact ⟨rfl, rfl⟩
theorem cget_n {v : Value} {w : World} (h : NoC w v) (k : CKey) : Calls Tryz.prog 20 #[v, .string ⟨k.1.toArray⟩, .int .i64 k.2] w fun e w' => e = .returned (.tuple #[.string ⟨#[]⟩, .int .i64 1]) ∧ w = w' := by
  have HN := hide (cfind_n h k)
  clear h
  go_enter Tryz.func20, Tryz.ntmps20
  go_wp2_with fail
  go_at_call 66
  refine HN.out.mono ?_
  rintro e w1 ⟨rfl, rfl⟩
  go_wp2
  go_ret2
  exact ⟨rfl, rfl⟩
theorem cpin_n {v : Value} {w : World} (h : NoC w v) (k : CKey) : Calls Tryz.prog 39 #[v, .string ⟨k.1.toArray⟩, .int .i64 k.2] w fun e w' => e = .returned (.tuple #[.string ⟨#[]⟩, .int .i64 1]) ∧ w = w' := by
  have HN := hide (cfind_n h k)
  clear h
  go_enter Tryz.func39, Tryz.ntmps39
  go_wp2_with fail
  go_at_call 66
  refine HN.out.mono ?_
  rintro e w1 ⟨rfl, rfl⟩
  go_wp2
  go_ret2
  exact ⟨rfl, rfl⟩
theorem cunpin_n {v : Value} {w : World} (h : NoC w v) (k : CKey) : Calls Tryz.prog 40 #[v, .string ⟨k.1.toArray⟩, .int .i64 k.2] w fun e w' => e = .returned (.int .i64 1) ∧ w = w' := by
  have HN := hide (cnone_n h)
  clear h
  go_enter Tryz.func40, Tryz.ntmps40
  go_wp2_with fail
  go_at_call 61
  refine HN.out.mono ?_
  rintro e w1 ⟨rfl, rfl⟩
  go_wp2
  go_ret
  exact ⟨rfl, rfl⟩
theorem cput_n {v : Value} {w : World} (h : NoC w v) (k : CKey) (dt : List UInt8) : Calls Tryz.prog 38 #[v, .string ⟨k.1.toArray⟩, .int .i64 k.2, .string ⟨dt.toArray⟩] w fun e w' => e = .returned (.int .i64 1) ∧ w = w' := by
  have HN := hide (cnone_n h)
  clear h
  go_enter Tryz.func38, Tryz.ntmps38
  go_wp2_with fail
  go_at_call 61
  refine HN.out.mono ?_
  rintro e w1 ⟨rfl, rfl⟩
  go_wp2
  go_ret
  exact ⟨rfl, rfl⟩
theorem chas_n {v : Value} {w : World} (h : NoC w v) (k : CKey) : Calls Tryz.prog 31 #[v, .string ⟨k.1.toArray⟩, .int .i64 k.2] w fun e w' => e = .returned (.bool false) ∧ w = w' := by
  have HN := hide (cnone_n h)
  clear h
  go_enter Tryz.func31, Tryz.ntmps31
  go_wp2_with fail
  go_at_call 61
  refine HN.out.mono ?_
  rintro e w1 ⟨rfl, rfl⟩
  go_wp2
  go_ret
  exact ⟨rfl, rfl⟩
theorem clen_n {v : Value} {w : World} (h : NoC w v) : Calls Tryz.prog 21 #[v] w fun e w' => e = .returned (.int .i64 0) ∧ w = w' := by
  have HN := hide (cnone_n h)
  clear h
  go_enter Tryz.func21, Tryz.ntmps21
  go_wp2_with fail
  go_at_call 61
  refine HN.out.mono ?_
  rintro e w1 ⟨rfl, rfl⟩
  go_wp2
  go_ret
  exact ⟨rfl, rfl⟩
theorem cpinned_n {v : Value} {w : World} (h : NoC w v) : Calls Tryz.prog 29 #[v] w fun e w' => e = .returned (.int .i64 0) ∧ w = w' := by
  have HN := hide (cnone_n h)
  clear h
  go_enter Tryz.func29, Tryz.ntmps29
  go_wp2_with fail
  go_at_call 61
  refine HN.out.mono ?_
  rintro e w1 ⟨rfl, rfl⟩
  go_wp2
  go_ret
  exact ⟨rfl, rfl⟩
theorem cdrop_n {v : Value} {w : World} (h : NoC w v) (n : Name) : Calls Tryz.prog 35 #[v, .string ⟨n.toArray⟩] w fun e w' => e = .returned (.tuple #[]) ∧ Fr (fun _ => False) w w' := by
  have HF : Hid (Fr (fun _ => False) w (w.alloc (.cells #[.string ⟨n.toArray⟩] 9))) := (Fr.refl _ _).alloc _
  have HN := hide (cnone_n (h.up HF.out))
  clear h
  go_enter Tryz.func35, Tryz.ntmps35
  go_wp2_with fail
  go_at_call 61
  refine HN.out.mono ?_
  rintro e w1 ⟨rfl, rfl⟩
  go_wp2
  go_end0
  exact ⟨rfl, HF.out⟩
theorem cnew_n (most : Int) (w : World) : Calls Tryz.prog 26 #[.pointer none, .int .i64 most] w fun e w' => e = .returned (.tuple #[.pointer none, .int .i64 1]) ∧ w = w' := by
  go_enter Tryz.func26, Tryz.ntmps26
  go_wp2
  go_ret2
  exact ⟨rfl, rfl⟩
theorem done_n {v : Value} {w : World} (h : NoC w v) (a : CAct) (j : Nat) (hj : j < 5) : Calls Tryz.prog 27 #[v, .agg #[.int .u8 (j : Int), .string ⟨a.name.toArray⟩, .int .i64 a.i, .string ⟨a.data.toArray⟩, .int .u8 (a.x.toNat : Int)]] w fun e w' => e = .returned (.tuple #[.string ⟨#[]⟩, .int .i64 1]) ∧ Fr (fun _ => False) w w' := by
  have hcase : j = 0 ∨ j = 1 ∨ j = 2 ∨ j = 3 ∨ j = 4 := by omega
  obtain ⟨W3, hW3⟩ : ∃ W3, W3 = w.alloc (.cells #[.int .u8 (j : Int), .string ⟨a.name.toArray⟩, .int .i64 a.i, .string ⟨a.data.toArray⟩, .int .u8 (a.x.toNat : Int)] 52) := ⟨_, rfl⟩
  have HF : Hid (Fr (fun _ => False) w W3) := by rw [hW3]; exact (Fr.refl _ _).alloc _
  have HB : Blk W3 w.heap.size 52 #[.int .u8 (j : Int), .string ⟨a.name.toArray⟩, .int .i64 a.i, .string ⟨a.data.toArray⟩, .int .u8 (a.x.toNat : Int)] := by rw [hW3]; exact Blk.new w 52 _
  have s0 : W3.cell? ⟨w.heap.size, 0, none⟩ = some (.int .u8 (j : Int)) := (HB.cell 0).trans rfl
  have s1 : W3.cell? ⟨w.heap.size, 1, none⟩ = some (.string ⟨a.name.toArray⟩) := (HB.cell 1).trans rfl
  have s2 : W3.cell? ⟨w.heap.size, 2, none⟩ = some (.int .i64 a.i) := (HB.cell 2).trans rfl
  have s3 : W3.cell? ⟨w.heap.size, 3, none⟩ = some (.string ⟨a.data.toArray⟩) := (HB.cell 3).trans rfl
  have h3 := h.up HF.out
  have HW3 := hide hW3
  clear h HB hW3
  rcases hcase with rfl | rfl | rfl | rfl | rfl
  · have HC := hide (cget_n h3 (a.name, a.i))
    clear h3
    go_enter Tryz.func27, Tryz.ntmps27
    go_wp2_with fail
    rw [show w.alloc (.cells #[.int .u8 0, .string ⟨a.name.toArray⟩, .int .i64 a.i, .string ⟨a.data.toArray⟩, .int .u8 (a.x.toNat : Int)] 52) = W3 from HW3.out.symm]
    go_wp2_with fail
    go_at_call 20
    refine HC.out.mono ?_
    rintro e w1 ⟨rfl, rfl⟩
    go_wp2
    go_ret2
    exact ⟨rfl, HF.out⟩
  · have HC := hide (cget_n h3 (a.name, a.i))
    clear h3
    go_enter Tryz.func27, Tryz.ntmps27
    go_wp2_with fail
    rw [show w.alloc (.cells #[.int .u8 1, .string ⟨a.name.toArray⟩, .int .i64 a.i, .string ⟨a.data.toArray⟩, .int .u8 (a.x.toNat : Int)] 52) = W3 from HW3.out.symm]
    go_wp2_with fail
    go_at_call 20
    refine HC.out.mono ?_
    rintro e w1 ⟨rfl, rfl⟩
    go_wp2
    go_ret2
    exact ⟨rfl, HF.out⟩
  · have HC := hide (cpin_n h3 (a.name, a.i))
    clear h3
    go_enter Tryz.func27, Tryz.ntmps27
    go_wp2_with fail
    rw [show w.alloc (.cells #[.int .u8 2, .string ⟨a.name.toArray⟩, .int .i64 a.i, .string ⟨a.data.toArray⟩, .int .u8 (a.x.toNat : Int)] 52) = W3 from HW3.out.symm]
    go_wp2_with fail
    go_at_call 39
    refine HC.out.mono ?_
    rintro e w1 ⟨rfl, rfl⟩
    go_wp2
    go_ret2
    exact ⟨rfl, HF.out⟩
  · have HC := hide (cunpin_n h3 (a.name, a.i))
    clear h3
    go_enter Tryz.func27, Tryz.ntmps27
    go_wp2_with fail
    rw [show w.alloc (.cells #[.int .u8 3, .string ⟨a.name.toArray⟩, .int .i64 a.i, .string ⟨a.data.toArray⟩, .int .u8 (a.x.toNat : Int)] 52) = W3 from HW3.out.symm]
    go_wp2_with fail
    go_at_call 40
    refine HC.out.mono ?_
    rintro e w1 ⟨rfl, rfl⟩
    go_wp2
    go_ret2
    exact ⟨rfl, HF.out⟩
  · have HC := hide (cput_n h3 (a.name, a.i) a.data)
    clear h3
    go_enter Tryz.func27, Tryz.ntmps27
    go_wp2_with fail
    rw [show w.alloc (.cells #[.int .u8 4, .string ⟨a.name.toArray⟩, .int .i64 a.i, .string ⟨a.data.toArray⟩, .int .u8 (a.x.toNat : Int)] 52) = W3 from HW3.out.symm]
    go_wp2_with fail
    go_at_call 38
    refine HC.out.mono ?_
    rintro e w1 ⟨rfl, rfl⟩
    go_wp2
    go_ret2
    exact ⟨rfl, HF.out⟩
set_option maxHeartbeats 3200000 in
theorem law_none (a : CAct) (hwf : ActWf a) (most : Int) (w : World) : Calls Tryz.prog 5 #[.agg #[.int .u8 (a.kind : Int), .string ⟨a.name.toArray⟩, .int .i64 a.i, .string ⟨a.data.toArray⟩, .int .u8 (a.x.toNat : Int)], .int .i64 most] w fun e w' => e = .returned (.bool true) ∧ Fr (fun _ => False) w w' := by
  obtain ⟨W1, hW1⟩ : ∃ W1, W1 = w.alloc (.cells #[.int .u8 (a.kind : Int), .string ⟨a.name.toArray⟩, .int .i64 a.i, .string ⟨a.data.toArray⟩, .int .u8 (a.x.toNat : Int)] 52) := ⟨_, rfl⟩
  have HF1 : Hid (Fr (fun _ => False) w W1) := by rw [hW1]; exact (Fr.refl _ _).alloc _
  have HB1 : Hid (Blk W1 w.heap.size 52 (actc a)) := by rw [hW1]; exact Blk.new w 52 _
  have hz1 : W1.heap.size = w.heap.size + 1 := by rw [hW1]; simp
  obtain ⟨W2, hW2⟩ : ∃ W2, W2 = W1.alloc (.cells #[.int .u8 (a.kind : Int), .string ⟨a.name.toArray⟩, .int .i64 a.i, .string ⟨a.data.toArray⟩, .int .u8 (a.x.toNat : Int)] 52) := ⟨_, rfl⟩
  have HF2 : Hid (Fr (fun _ => False) W1 W2) := by rw [hW2]; exact (Fr.refl _ _).alloc _
  have HB2 : Hid (Blk W2 (w.heap.size + 1) 52 (actc a)) := by rw [hW2, ← hz1]; exact Blk.new W1 52 _
  have hz2 : W2.heap.size = w.heap.size + 1 + 1 := by rw [hW2]; simp [hz1]
  have har : ActsR W2 W2.heap.size (some ⟨w.heap.size + 1, 0, none⟩) 1 [a] := by
    refine ⟨rfl, fun x hx => by rw [List.mem_singleton] at hx; rw [hx]; exact hwf, fun i x hx => ?_⟩
    have hi : i = 0 := by
      have := (List.getElem?_eq_some_iff.1 hx).1
      simp at this
      exact this
    subst hi
    obtain rfl := Option.some.inj hx
    exact ⟨_, 0, rfl, by omega, fun j v hv => by rw [HB2.out.cell]; simpa using hv⟩
  have HG := hide (great_ok har 1 1 (by omega) (by omega))
  have HW1 := hide hW1
  have HW2 := hide hW2
  have s0 : W1.cell? ⟨w.heap.size, 0, none⟩ = some (.int .u8 (a.kind : Int)) := (HB1.out.cell 0).trans rfl
  have s1 : W1.cell? ⟨w.heap.size, 1, none⟩ = some (.string ⟨a.name.toArray⟩) := (HB1.out.cell 1).trans rfl
  have s2 : W1.cell? ⟨w.heap.size, 2, none⟩ = some (.int .i64 a.i) := (HB1.out.cell 2).trans rfl
  have s3 : W1.cell? ⟨w.heap.size, 3, none⟩ = some (.string ⟨a.data.toArray⟩) := (HB1.out.cell 3).trans rfl
  have s4 : W1.cell? ⟨w.heap.size, 4, none⟩ = some (.int .u8 (a.x.toNat : Int)) := (HB1.out.cell 4).trans rfl
  have HZ2 := hide hz2
  clear har hW1 hW2 hz2
  go_enter Tryz.func5, Tryz.ntmps5
  go_wp2_with fail
  rw [← HW1.out]
  go_wp2_with fail
  rw [← HW2.out]
  try rw [hz1]
  go_at_call 23
  refine HG.out.mono ?_
  rintro e w2 ⟨hg, rfl⟩
  clear s0 s1 s2 s3 s4
  rcases hg with rfl | ⟨rfl, _, _⟩
  · go_wp2
    go_ret
    exact ⟨rfl, HF1.out.then_ HF2.out⟩
  · go_wp2
    go_loopw [5, 6] (fun c i wr => ∃ (t q : Nat) (cv : Value), i = .int .i64 (t : Int) ∧ cv = c ∧ t ≤ 2 ∧ NoC wr cv ∧ (∀ p : Nat, cv = .pointer (some ⟨p, 0, none⟩) → p ≠ w.heap.size) ∧ Fr (fun _ => False) w wr ∧ Blk wr w.heap.size 52 (actc { a with kind := q })) (fun _ i _ => 2 - (intOf i).toNat)
    case atStart => exact ⟨0, a.kind, .pointer none, rfl, rfl, by omega, .inl rfl, (fun p h => by cases h), HF1.out.then_ HF2.out, HB1.out.fr HF2.out id⟩
    case round =>
      obtain ⟨t, q, cv, rfl, rfl, ht, hnc, hcp, hfr, hbl⟩ := hrel
      have HNC := hide hnc
      have HCP := hide hcp
      have HFR := hide hfr
      have HBL := hide hbl
      clear hnc hcp hfr hbl
      by_cases hlt : t < 2
      · have t0 : (t : Int) < 2 := by omega
        go_wp2
        go_loopw [7] (fun j wq => ∃ (u q : Nat) (WQ : World), j = .int .i64 (u : Int) ∧ WQ = wq ∧ u ≤ 5 ∧ NoC WQ cv ∧ Fr (fun _ => False) w WQ ∧ Blk WQ w.heap.size 52 (actc { a with kind := q })) (fun j _ => 5 - (intOf j).toNat)
        case atStart => exact ⟨0, q, _, rfl, rfl, by omega, HNC.out, HFR.out, HBL.out⟩
        case round =>
          obtain ⟨u, q2, WQ, rfl, rfl, hu, hnc2, hfr2, hbl2⟩ := hrel
          by_cases hul : u < 5
          · have u0 : (u : Int) < 5 := by omega
            have hwr : IntKind.u8.wrap (u : Int) = (u : Int) := by simp only [IntKind.wrap, IntKind.bits, IntKind.signed]; simp; omega
            have z0 : WQ.cell? ⟨w.heap.size, 0, none⟩ = some (.int .u8 (q2 : Int)) := (hbl2.cell 0).trans rfl
            have f0 : WQ.frozen? ⟨w.heap.size, 0, none⟩ = false := hbl2.frozen 0
            have hb3 : Blk (WQ.setCell ⟨w.heap.size, 0, none⟩ (.int .u8 (u : Int))) w.heap.size 52 (actc { a with kind := u }) := hbl2.set_ 0 (.int .u8 (u : Int))
            have hfr3 : Fr (fun _ => False) w (WQ.setCell ⟨w.heap.size, 0, none⟩ (.int .u8 (u : Int))) := hfr2.setCell (p := ⟨w.heap.size, 0, none⟩) (.inr (Nat.le_refl _)) _
            have hnc3 : NoC (WQ.setCell ⟨w.heap.size, 0, none⟩ (.int .u8 (u : Int))) cv := hnc2.fr (Fr.one WQ w.heap.size 0 _) (fun p hp => HCP.out p hp)
            have s0 : (WQ.setCell ⟨w.heap.size, 0, none⟩ (.int .u8 (u : Int))).cell? ⟨w.heap.size, 0, none⟩ = some (.int .u8 (u : Int)) := (hb3.cell 0).trans rfl
            have s1 : (WQ.setCell ⟨w.heap.size, 0, none⟩ (.int .u8 (u : Int))).cell? ⟨w.heap.size, 1, none⟩ = some (.string ⟨a.name.toArray⟩) := (hb3.cell 1).trans rfl
            have s2 : (WQ.setCell ⟨w.heap.size, 0, none⟩ (.int .u8 (u : Int))).cell? ⟨w.heap.size, 2, none⟩ = some (.int .i64 a.i) := (hb3.cell 2).trans rfl
            have s3 : (WQ.setCell ⟨w.heap.size, 0, none⟩ (.int .u8 (u : Int))).cell? ⟨w.heap.size, 3, none⟩ = some (.string ⟨a.data.toArray⟩) := (hb3.cell 3).trans rfl
            have s4 : (WQ.setCell ⟨w.heap.size, 0, none⟩ (.int .u8 (u : Int))).cell? ⟨w.heap.size, 4, none⟩ = some (.int .u8 (a.x.toNat : Int)) := (hb3.cell 4).trans rfl
            have HDN := hide (done_n hnc3 a u hul)
            have H3 := hide (And.intro hnc3 (And.intro hfr3 hb3))
            clear hnc3 hfr3 hb3 hnc2 hfr2 hbl2
            go_wp2_with fail
            go_at_call 27
            refine HDN.out.mono ?_
            rintro e W4 ⟨rfl, hf4⟩
            have HF4 := hide hf4
            clear hf4
            go_wp2
            go_roundw
            case rel => exact ⟨u + 1, u, _, by go_num, rfl, by omega, H3.out.1.up HF4.out, H3.out.2.1.then_ HF4.out, H3.out.2.2.fr HF4.out id⟩
            case measure => simp [intOf]; omega
          · obtain rfl : u = 5 := by omega
            have s1 : WQ.cell? ⟨w.heap.size, 1, none⟩ = some (.string ⟨a.name.toArray⟩) := (hbl2.cell 1).trans rfl
            have s2 : WQ.cell? ⟨w.heap.size, 2, none⟩ = some (.int .i64 a.i) := (hbl2.cell 2).trans rfl
            have HDR := hide (cdrop_n hnc2 a.name)
            have H2 := hide (And.intro hnc2 (And.intro hfr2 hbl2))
            clear hnc2 hfr2 hbl2
            go_wp2_with fail
            go_at_call 35
            refine HDR.out.mono ?_
            rintro e W4 ⟨rfl, hf4⟩
            have hnc4 := H2.out.1.up hf4
            have HC1 := hide (cfs_n hnc4)
            have HC2 := hide (chas_n hnc4 (a.name, a.i))
            have HC3 := hide (clen_n hnc4)
            have HC4 := hide (cpinned_n hnc4)
            have H4 := hide (And.intro (H2.out.2.1.then_ hf4) (H2.out.2.2.fr hf4 id))
            have s1' : W4.cell? ⟨w.heap.size, 1, none⟩ = some (.string ⟨a.name.toArray⟩) := hf4.cell s1 id
            have s2' : W4.cell? ⟨w.heap.size, 2, none⟩ = some (.int .i64 a.i) := hf4.cell s2 id
            clear hnc4 hf4 s1 s2
            go_wp2_with fail
            go_at_call 18
            refine HC1.out.mono ?_
            rintro e w9 ⟨rfl, rfl⟩
            go_wp2_with fail
            go_at_call 31
            refine HC2.out.mono ?_
            rintro e w9 ⟨rfl, rfl⟩
            go_wp2_with fail
            go_at_call 21
            refine HC3.out.mono ?_
            rintro e w9 ⟨rfl, rfl⟩
            go_wp2_with fail
            go_at_call 29
            refine HC4.out.mono ?_
            rintro e w9 ⟨rfl, rfl⟩
            go_wp2
            go_roundw
            case rel =>
              obtain ⟨f4, b4⟩ := H4.out
              have hsz := f4.size
              have hlt4 := b4.lt
              refine ⟨t + 1, q2, _, by go_num, rfl, by omega, .inr ⟨W4.heap.size, rfl, ?_⟩, fun p hp => ?_, f4.alloc _, b4.alloc _⟩
              · exact ((Blk.new W4 66 #[.pointer none, .int .i64 0, .map none, .int .i64 0]).cell 0).trans rfl
              · injection hp with hp
                injection hp with hp
                injection hp with hp
                omega
            case measure => simp [intOf]; omega
      · obtain rfl : t = 2 := by omega
        have HCN := hide (cnew_n most wr)
        go_wp2_with fail
        go_at_call 26
        refine HCN.out.mono ?_
        rintro e w9 ⟨rfl, rfl⟩
        have HDO := hide (does07_true wr)
        go_wp2_with fail
        go_at_call 15
        refine HDO.out.mono ?_
        rintro e W9 ⟨rfl, hf9⟩
        have HF9 := hide (HFR.out.then_ hf9)
        clear hf9
        go_wp2
        go_ret
        exact ⟨rfl, HF9.out⟩
end Go.Proofs.YtkhbemmcegmdaaaGreatDoor
