/- A cache's read, find, Get, Pin, Unpin, Has, Len, by contract. -/
import Derived.Test.YtkhbemmcegmdaaaGreatDoorCf
import Derived.Test.YtkhbemmcegmdaaaGreatDoorFa
set_option linter.all false
set_option linter.unusedVariables false
set_option maxRecDepth 100000
namespace Go.Proofs.YtkhbemmcegmdaaaGreatDoor
open Go.RowKit
open Go.ChangeMaps (setBlock)

section
variable {w w1 : World} {cb fb tb clock most : Nat} {X XF : Nat → Prop} {room left clk : Int} {F : FileL} {ME : List (Ent CKey)} {Q : List CF} {s : CSt}
theorem cread_full (h : CRep w cb fb tb X XF room left F (most : Int) ME Q clk clock) (ho : COrd Q clk) (k : CKey) (hf : lfull most (Q.map CF.abs) = true) : Calls Tryz.prog 111 #[.pointer (some ⟨cb, 0, none⟩), .agg #[.string ⟨k.1.toArray⟩, .int .i64 k.2]] w fun e w' => e = .returned (.tuple #[.pointer none, .int .i64 70]) ∧ Fr (fun _ => False) w w' := by
  have HU := hide (fun W (hf : Fr (fun _ => False) w W) => cfull_ok (h.keep hf (fun _ _ h => h)) ho)
  clear h ho
  go_enter Tryz.func111, Tryz.ntmps111
  go_wp2_with fail
  obtain ⟨W3, hW3⟩ : ∃ W3, W3 = w.alloc (.cells #[.string ⟨k.1.toArray⟩, .int .i64 k.2] 139) := ⟨_, rfl⟩
  rw [← hW3]
  have HF3 := hide (show Fr (fun _ => False) w W3 by rw [hW3]; exact (Fr.refl _ _).alloc _)
  have HKB : Hid (Blk W3 w.heap.size 139 (kcells k)) := by rw [hW3]; exact Blk.new w 139 _
  clear hW3
  go_at_call 84
  refine (HU.out _ HF3.out).mono ?_
  rintro e W4 ⟨rfl, hf4⟩
  rw [hf]
  have HF4 := hide (HF3.out.then_ hf4)
  have HKB4 := hide (HKB.out.fr hf4 id)
  clear hf4
  go_wp2
  go_ret2
  exact ⟨rfl, HF4.out⟩
theorem cread_err (h : CRep w cb fb tb X XF room left F (most : Int) ME Q clk clock) (ho : COrd Q clk) (k : CKey) (hf : lfull most (Q.map CF.abs) = false) (hl : -1 ≤ left ∧ left ≤ 9223372036854775807) (he : (frd left F k.1 k.2).1 ≠ 0) : Calls Tryz.prog 111 #[.pointer (some ⟨cb, 0, none⟩), .agg #[.string ⟨k.1.toArray⟩, .int .i64 k.2]] w fun e w' => e = .returned (.tuple #[.pointer none, .int .i64 (frd left F k.1 k.2).1]) ∧ CRep w' cb fb tb X XF room (frd left F k.1 k.2).2.2 F (most : Int) ME Q clk clock ∧ Fr XF w w' := by
  have HU := hide (fun W (hf : Fr (fun _ => False) w W) => cfull_ok (h.keep hf (fun _ _ h => h)) ho)
  have HFR := hide (fun W (hf : Fr (fun _ => False) w W) => fread_any (h.fs.up hf) k.1 k.2 hl)
  have HH := hide h
  clear h
  clear ho
  obtain ⟨r, hr⟩ : ∃ r, frd left F k.1 k.2 = r := ⟨_, rfl⟩
  rw [hr] at HFR he
  rw [hr]
  obtain ⟨z, hz⟩ : ∃ z, r.1 = z := ⟨_, rfl⟩
  have b0 : (z == 0) = false := by rw [← hz]; simpa using he
  have b1 : (z != 0) = true := by rw [← hz]; simpa using he
  rw [hz] at HFR
  rw [hz]
  clear he hz hr
  go_enter Tryz.func111, Tryz.ntmps111
  go_wp2_with fail
  obtain ⟨W3, hW3⟩ : ∃ W3, W3 = w.alloc (.cells #[.string ⟨k.1.toArray⟩, .int .i64 k.2] 139) := ⟨_, rfl⟩
  rw [← hW3]
  have HF3 := hide (show Fr (fun _ => False) w W3 by rw [hW3]; exact (Fr.refl _ _).alloc _)
  have HKB : Hid (Blk W3 w.heap.size 139 (kcells k)) := by rw [hW3]; exact Blk.new w 139 _
  clear hW3
  go_at_call 84
  refine (HU.out _ HF3.out).mono ?_
  rintro e W4 ⟨rfl, hf4⟩
  rw [hf]
  have HF4 := hide (HF3.out.then_ hf4)
  have HKB4 := hide (HKB.out.fr hf4 id)
  clear hf4
  go_wp2_with fail
  have k0 : W4.cell? ⟨w.heap.size, 0, none⟩ = some (.string ⟨k.1.toArray⟩) := (HKB4.out.cell 0).trans rfl
  have k1 : W4.cell? ⟨w.heap.size, 1, none⟩ = some (.int .i64 k.2) := (HKB4.out.cell 1).trans rfl
  have k2 : W4.cell? ⟨cb, 0, none⟩ = some (.pointer (some ⟨fb, 0, none⟩)) := ((HH.out.blk.fr HF4.out id).cell 0).trans rfl
  have HNX : Hid (¬ XF w.heap.size ∧ ¬ XF cb) := ⟨fun hx => (by have := HH.out.fs.lt _ hx; omega), fun hx => HH.out.dj _ HH.out.xc hx⟩
  have HS4 := hide (fun W (hS : Fr XF W4 W) => (⟨hS.cell k0 HNX.out.1, hS.cell k1 HNX.out.1, hS.cell k2 HNX.out.2⟩ : W.cell? ⟨w.heap.size, 0, none⟩ = some (.string ⟨k.1.toArray⟩) ∧ W.cell? ⟨w.heap.size, 1, none⟩ = some (.int .i64 k.2) ∧ W.cell? ⟨cb, 0, none⟩ = some (.pointer (some ⟨fb, 0, none⟩))))
  clear k0 k1 k2
  refine wp_region_ord [(0, true), (1, true), (2, true), (3, true), (4, true), (5, true), (6, true), (7, true), (8, false), (9, true), (10, true), (11, true), (12, true), (13, true)] (fun W => W.cell? ⟨w.heap.size, 0, none⟩ = some (.string ⟨k.1.toArray⟩) ∧ W.cell? ⟨w.heap.size, 1, none⟩ = some (.int .i64 k.2) ∧ W.cell? ⟨cb, 0, none⟩ = some (.pointer (some ⟨fb, 0, none⟩))) (by kernel_rfl) (by kernel_rfl) (HS4.out _ (Fr.refl _ _).drew) ?_
  iterate 8
    refine ord_read rfl ?_ ?_ (fun W hS => ?_) ?_
    · rfl
    rotate_left
    · (obtain ⟨s0, s1, s2⟩ := hS; go_simp; try with_reducible rfl)
    simp only [List.getElem_toArray, List.getElem_cons_zero, List.getElem_cons_succ, Act.put, List.setIfInBounds_toArray, List.set_cons_zero, List.set_cons_succ]
  refine ord_act rfl ?_
  go_wp2_with fail
  go_at_call 36
  refine (HFR.out _ HF4.out.drew).mono ?_
  rintro e W5 ⟨rfl, hat, hf5⟩
  have HR5 := hide ((HH.out.keep HF4.out.drew (fun _ _ h => h)).fsop hf5 (fun _ h => h) hat (fun _ h => .inl h))
  have HF5 := hide ((HF4.out.drew.mono (S' := XF) (fun _ h => h.elim)).trans hf5 (fun _ h => .inl h))
  have HS5 := HS4.out W5 (((Fr.refl _ _).drew).trans hf5 (fun _ h => .inl h))
  have HKB5 := hide (HKB4.out.drew.fr hf5 HNX.out.1)
  clear hat hf5
  go_wp2
  refine midQ_ok HS5 ?_
  iterate 5
    refine ord_read rfl ?_ ?_ (fun W hS => ?_) ?_
    · rfl
    rotate_left
    · (skip; go_simp; try with_reducible rfl)
    simp only [List.getElem_toArray, List.getElem_cons_zero, List.getElem_cons_succ, Act.put, List.setIfInBounds_toArray, List.set_cons_zero, List.set_cons_succ]
  refine ord_done ?_
  refine NoPanic.normal ?_
  clear HS5
  go_wp2
  go_ret2
  exact ⟨rfl, HR5.out, HF5.out⟩
theorem cread_bad (h : CRep w cb fb tb X XF room left F (most : Int) ME Q clk clock) (ho : COrd Q clk) (k : CKey) (hf : lfull most (Q.map CF.abs) = false) (hl : -1 ≤ left ∧ left ≤ 9223372036854775807) (he : (frd left F k.1 k.2).1 = 0) (hlen : (frd left F k.1 k.2).2.1.length ≤ 9223372036854775807) (hp : pageB (frd left F k.1 k.2).2.1 = false) : Calls Tryz.prog 111 #[.pointer (some ⟨cb, 0, none⟩), .agg #[.string ⟨k.1.toArray⟩, .int .i64 k.2]] w fun e w' => e = .returned (.tuple #[.pointer none, .int .i64 50]) ∧ CRep w' cb fb tb X XF room (frd left F k.1 k.2).2.2 F (most : Int) ME Q clk clock ∧ Fr XF w w' := by
  have HU := hide (fun W (hf : Fr (fun _ => False) w W) => cfull_ok (h.keep hf (fun _ _ h => h)) ho)
  have HFR := hide (fun W (hf : Fr (fun _ => False) w W) => fread_any (h.fs.up hf) k.1 k.2 hl)
  have HH := hide h
  clear h
  clear ho
  obtain ⟨r, hr⟩ : ∃ r, frd left F k.1 k.2 = r := ⟨_, rfl⟩
  rw [hr] at HFR he hlen hp
  try rw [hr]
  rw [he] at HFR
  have HD := hide (fun w => pg_dec ⟨r.2.1.toArray⟩ w (by show r.2.1.toArray.size ≤ _; simpa using hlen))
  have e0 : ((⟨r.2.1.toArray⟩ : ByteArray)).data.toList = r.2.1 := by simp
  rw [e0, hp] at HD
  unfold decR at HD
  clear he hlen hr hp e0
  rw [if_neg (by simp)] at HD
  go_enter Tryz.func111, Tryz.ntmps111
  go_wp2_with fail
  obtain ⟨W3, hW3⟩ : ∃ W3, W3 = w.alloc (.cells #[.string ⟨k.1.toArray⟩, .int .i64 k.2] 139) := ⟨_, rfl⟩
  rw [← hW3]
  have HF3 := hide (show Fr (fun _ => False) w W3 by rw [hW3]; exact (Fr.refl _ _).alloc _)
  have HKB : Hid (Blk W3 w.heap.size 139 (kcells k)) := by rw [hW3]; exact Blk.new w 139 _
  clear hW3
  go_at_call 84
  refine (HU.out _ HF3.out).mono ?_
  rintro e W4 ⟨rfl, hf4⟩
  rw [hf]
  have HF4 := hide (HF3.out.then_ hf4)
  have HKB4 := hide (HKB.out.fr hf4 id)
  clear hf4
  go_wp2_with fail
  have k0 : W4.cell? ⟨w.heap.size, 0, none⟩ = some (.string ⟨k.1.toArray⟩) := (HKB4.out.cell 0).trans rfl
  have k1 : W4.cell? ⟨w.heap.size, 1, none⟩ = some (.int .i64 k.2) := (HKB4.out.cell 1).trans rfl
  have k2 : W4.cell? ⟨cb, 0, none⟩ = some (.pointer (some ⟨fb, 0, none⟩)) := ((HH.out.blk.fr HF4.out id).cell 0).trans rfl
  have HNX : Hid (¬ XF w.heap.size ∧ ¬ XF cb) := ⟨fun hx => (by have := HH.out.fs.lt _ hx; omega), fun hx => HH.out.dj _ HH.out.xc hx⟩
  have HS4 := hide (fun W (hS : Fr XF W4 W) => (⟨hS.cell k0 HNX.out.1, hS.cell k1 HNX.out.1, hS.cell k2 HNX.out.2⟩ : W.cell? ⟨w.heap.size, 0, none⟩ = some (.string ⟨k.1.toArray⟩) ∧ W.cell? ⟨w.heap.size, 1, none⟩ = some (.int .i64 k.2) ∧ W.cell? ⟨cb, 0, none⟩ = some (.pointer (some ⟨fb, 0, none⟩))))
  clear k0 k1 k2
  refine wp_region_ord [(0, true), (1, true), (2, true), (3, true), (4, true), (5, true), (6, true), (7, true), (8, false), (9, true), (10, true), (11, true), (12, true), (13, true)] (fun W => W.cell? ⟨w.heap.size, 0, none⟩ = some (.string ⟨k.1.toArray⟩) ∧ W.cell? ⟨w.heap.size, 1, none⟩ = some (.int .i64 k.2) ∧ W.cell? ⟨cb, 0, none⟩ = some (.pointer (some ⟨fb, 0, none⟩))) (by kernel_rfl) (by kernel_rfl) (HS4.out _ (Fr.refl _ _).drew) ?_
  iterate 8
    refine ord_read rfl ?_ ?_ (fun W hS => ?_) ?_
    · rfl
    rotate_left
    · (obtain ⟨s0, s1, s2⟩ := hS; go_simp; try with_reducible rfl)
    simp only [List.getElem_toArray, List.getElem_cons_zero, List.getElem_cons_succ, Act.put, List.setIfInBounds_toArray, List.set_cons_zero, List.set_cons_succ]
  refine ord_act rfl ?_
  go_wp2_with fail
  go_at_call 36
  refine (HFR.out _ HF4.out.drew).mono ?_
  rintro e W5 ⟨rfl, hat, hf5⟩
  have HR5 := hide ((HH.out.keep HF4.out.drew (fun _ _ h => h)).fsop hf5 (fun _ h => h) hat (fun _ h => .inl h))
  have HF5 := hide ((HF4.out.drew.mono (S' := XF) (fun _ h => h.elim)).trans hf5 (fun _ h => .inl h))
  have HS5 := HS4.out W5 (((Fr.refl _ _).drew).trans hf5 (fun _ h => .inl h))
  have HKB5 := hide (HKB4.out.drew.fr hf5 HNX.out.1)
  clear hat hf5
  go_wp2
  refine midQ_ok HS5 ?_
  iterate 5
    refine ord_read rfl ?_ ?_ (fun W hS => ?_) ?_
    · rfl
    rotate_left
    · (skip; go_simp; try with_reducible rfl)
    simp only [List.getElem_toArray, List.getElem_cons_zero, List.getElem_cons_succ, Act.put, List.setIfInBounds_toArray, List.set_cons_zero, List.set_cons_succ]
  refine ord_done ?_
  refine NoPanic.normal ?_
  clear HS5
  go_wp2_with fail
  go_at_call 37
  refine (HD.out _).mono ?_
  rintro e W6 ⟨rfl, hf6⟩
  have HR6 := hide (HR5.out.keep hf6 (fun _ _ h => h))
  have HF6 := hide (HF5.out.then_ hf6)
  have HKB6 := hide (HKB5.out.fr hf6 id)
  clear hf6
  go_wp2
  go_ret2
  exact ⟨rfl, HR6.out, HF6.out⟩
theorem cread_come (h : CRep w cb fb tb X XF room left F (most : Int) ME Q clk clock) (ho : COrd Q clk) (k : CKey) (hk : ∀ x ∈ Q, x.key ≠ k) (hf : lfull most (Q.map CF.abs) = false) (hl : -1 ≤ left ∧ left ≤ 9223372036854775807) (he : (frd left F k.1 k.2).1 = 0) (hlen : (frd left F k.1 k.2).2.1.length ≤ 9223372036854775807) (hp : pageB (frd left F k.1 k.2).2.1 = true) : Calls Tryz.prog 111 #[.pointer (some ⟨cb, 0, none⟩), .agg #[.string ⟨k.1.toArray⟩, .int .i64 k.2]] w fun e w' => ∃ g X' ME' Q1 clock' b, e = .returned (.tuple #[.pointer (some ⟨g, 0, none⟩), .int .i64 0]) ∧
    CRep w' cb fb tb X' XF room (frd left F k.1 k.2).2.2 F (most : Int) ME' (Q1 ++ [⟨k, datB (frd left F k.1 k.2).2.1, 0, 0, g, b⟩]) clk clock' ∧ Q1.map CF.abs = lroom most (Q.map CF.abs) ∧ COrd Q1 clk ∧ (∀ j, X' j → X j ∨ w.heap.size ≤ j) ∧ Fr (fun j => X j ∨ XF j) w w' := by
  have HU := hide (fun W (hf : Fr (fun _ => False) w W) => cfull_ok (h.keep hf (fun _ _ h => h)) ho)
  have HFR := hide (fun W (hf : Fr (fun _ => False) w W) => fread_any (h.fs.up hf) k.1 k.2 hl)
  have HH := hide h
  clear h
  have HOR := hide ho
  have HKN := hide hk
  clear ho hk
  obtain ⟨r, hr⟩ : ∃ r, frd left F k.1 k.2 = r := ⟨_, rfl⟩
  rw [hr] at HFR he hlen hp
  try rw [hr]
  rw [he] at HFR
  have HD := hide (fun w => pg_dec ⟨r.2.1.toArray⟩ w (by show r.2.1.toArray.size ≤ _; simpa using hlen))
  have e0 : ((⟨r.2.1.toArray⟩ : ByteArray)).data.toList = r.2.1 := by simp
  rw [e0, hp] at HD
  unfold decR at HD
  clear he hlen hr hp e0
  rw [if_pos (show true = true from rfl)] at HD
  go_enter Tryz.func111, Tryz.ntmps111
  go_wp2_with fail
  obtain ⟨W3, hW3⟩ : ∃ W3, W3 = w.alloc (.cells #[.string ⟨k.1.toArray⟩, .int .i64 k.2] 139) := ⟨_, rfl⟩
  rw [← hW3]
  have HF3 := hide (show Fr (fun _ => False) w W3 by rw [hW3]; exact (Fr.refl _ _).alloc _)
  have HKB : Hid (Blk W3 w.heap.size 139 (kcells k)) := by rw [hW3]; exact Blk.new w 139 _
  clear hW3
  go_at_call 84
  refine (HU.out _ HF3.out).mono ?_
  rintro e W4 ⟨rfl, hf4⟩
  rw [hf]
  have HF4 := hide (HF3.out.then_ hf4)
  have HKB4 := hide (HKB.out.fr hf4 id)
  clear hf4
  go_wp2_with fail
  have k0 : W4.cell? ⟨w.heap.size, 0, none⟩ = some (.string ⟨k.1.toArray⟩) := (HKB4.out.cell 0).trans rfl
  have k1 : W4.cell? ⟨w.heap.size, 1, none⟩ = some (.int .i64 k.2) := (HKB4.out.cell 1).trans rfl
  have k2 : W4.cell? ⟨cb, 0, none⟩ = some (.pointer (some ⟨fb, 0, none⟩)) := ((HH.out.blk.fr HF4.out id).cell 0).trans rfl
  have HNX : Hid (¬ XF w.heap.size ∧ ¬ XF cb) := ⟨fun hx => (by have := HH.out.fs.lt _ hx; omega), fun hx => HH.out.dj _ HH.out.xc hx⟩
  have HS4 := hide (fun W (hS : Fr XF W4 W) => (⟨hS.cell k0 HNX.out.1, hS.cell k1 HNX.out.1, hS.cell k2 HNX.out.2⟩ : W.cell? ⟨w.heap.size, 0, none⟩ = some (.string ⟨k.1.toArray⟩) ∧ W.cell? ⟨w.heap.size, 1, none⟩ = some (.int .i64 k.2) ∧ W.cell? ⟨cb, 0, none⟩ = some (.pointer (some ⟨fb, 0, none⟩))))
  clear k0 k1 k2
  refine wp_region_ord [(0, true), (1, true), (2, true), (3, true), (4, true), (5, true), (6, true), (7, true), (8, false), (9, true), (10, true), (11, true), (12, true), (13, true)] (fun W => W.cell? ⟨w.heap.size, 0, none⟩ = some (.string ⟨k.1.toArray⟩) ∧ W.cell? ⟨w.heap.size, 1, none⟩ = some (.int .i64 k.2) ∧ W.cell? ⟨cb, 0, none⟩ = some (.pointer (some ⟨fb, 0, none⟩))) (by kernel_rfl) (by kernel_rfl) (HS4.out _ (Fr.refl _ _).drew) ?_
  iterate 8
    refine ord_read rfl ?_ ?_ (fun W hS => ?_) ?_
    · rfl
    rotate_left
    · (obtain ⟨s0, s1, s2⟩ := hS; go_simp; try with_reducible rfl)
    simp only [List.getElem_toArray, List.getElem_cons_zero, List.getElem_cons_succ, Act.put, List.setIfInBounds_toArray, List.set_cons_zero, List.set_cons_succ]
  refine ord_act rfl ?_
  go_wp2_with fail
  go_at_call 36
  refine (HFR.out _ HF4.out.drew).mono ?_
  rintro e W5 ⟨rfl, hat, hf5⟩
  have HR5 := hide ((HH.out.keep HF4.out.drew (fun _ _ h => h)).fsop hf5 (fun _ h => h) hat (fun _ h => .inl h))
  have HF5 := hide ((HF4.out.drew.mono (S' := XF) (fun _ h => h.elim)).trans hf5 (fun _ h => .inl h))
  have HS5 := HS4.out W5 (((Fr.refl _ _).drew).trans hf5 (fun _ h => .inl h))
  have HKB5 := hide (HKB4.out.drew.fr hf5 HNX.out.1)
  clear hat hf5
  go_wp2
  refine midQ_ok HS5 ?_
  iterate 5
    refine ord_read rfl ?_ ?_ (fun W hS => ?_) ?_
    · rfl
    rotate_left
    · (skip; go_simp; try with_reducible rfl)
    simp only [List.getElem_toArray, List.getElem_cons_zero, List.getElem_cons_succ, Act.put, List.setIfInBounds_toArray, List.set_cons_zero, List.set_cons_succ]
  refine ord_done ?_
  refine NoPanic.normal ?_
  clear HS5
  go_wp2_with fail
  go_at_call 37
  refine (HD.out _).mono ?_
  rintro e W6 ⟨rfl, hf6⟩
  have HR6 := hide (HR5.out.keep hf6 (fun _ _ h => h))
  have HF6 := hide (HF5.out.then_ hf6)
  have HKB6 := hide (HKB5.out.fr hf6 id)
  clear hf6
  have k0 : W6.cell? ⟨w.heap.size, 0, none⟩ = some (.string ⟨k.1.toArray⟩) := (HKB6.out.cell 0).trans rfl
  have k1 : W6.cell? ⟨w.heap.size, 1, none⟩ = some (.int .i64 k.2) := (HKB6.out.cell 1).trans rfl
  have HCO := hide (ccome_ok HR6.out HOR.out k HKN.out (datB r.2.1))
  go_wp2_with fail
  go_at_call 85
  refine HCO.out.mono ?_
  rintro e W7 ⟨g, X', ME', Q1, clock', b, rfl, hr7, hq7, ho7, hx7, hf7⟩
  have H7 := hide (And.intro hr7 (And.intro hq7 (And.intro ho7 (And.intro hx7 hf7))))
  clear hr7 hq7 ho7 hx7 hf7
  go_wp2
  go_ret2
  obtain ⟨hr7, hq7, ho7, hx7, hf7⟩ := H7.out
  have hsz := HF6.out.size
  refine ⟨g, X', ME', Q1, clock', b, rfl, hr7, hq7, ho7, fun j hj => ?_, (HF6.out.mono (S' := fun j => X j ∨ XF j) (fun _ h => .inr h)).trans hf7 (fun _ h => .inl (.inl h))⟩
  rcases hx7 j hj with h | h
  · exact .inl h
  · exact .inr (by omega)
end
end Go.Proofs.YtkhbemmcegmdaaaGreatDoor
