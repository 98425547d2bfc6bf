/- Parts of the proof of several laws: no conditions of their own. -/
import Derived.Test.YtkhbemmcegmdaaaGreatDoorWhPk11
import Derived.Test.YtkhbemmcegmdaaaGreatDoorWhPk5
section
set_option linter.all false
set_option linter.unusedVariables false
set_option maxRecDepth 100000
namespace Go.Proofs.YtkhbemmcegmdaaaGreatDoor
open Go.RowKit
open Go.ChangeMaps (setBlock)

section
variable {w w1 : World} {cb fb tb clock most : Nat} {X XF : Nat → Prop} {room left clk : Int} {F : FileL} {ME : List (Ent CKey)} {Q : List CF} {s : CSt}
theorem cread_full (h : CRep w cb fb tb X XF room left F (most : Int) ME Q clk clock) (ho : COrd Q clk) (k : CKey) (hf : lfull most (Q.map CF.abs) = true) : Calls Tryz.prog 111 #[.pointer (some ⟨cb, 0, none⟩), .agg #[.string ⟨k.1.toArray⟩, .int .i64 k.2]] w fun e w' => e = .returned (.tuple #[.pointer none, .int .i64 70]) ∧ Fr (fun _ => False) w w' := by
  have HU := hide (fun W (hf : Fr (fun _ => False) w W) => cfull_ok (h.keep hf (fun _ _ h => h)) ho)
  clear h ho
  go_enter Tryz.func111, Tryz.ntmps111
  go_wp2_with fail
  obtain ⟨W3, hW3⟩ : ∃ W3, W3 = w.alloc (.cells #[.string ⟨k.1.toArray⟩, .int .i64 k.2] 139) := ⟨_, rfl⟩
  rw [← hW3]
  have HF3 := hide (show Fr (fun _ => False) w W3 by rw [hW3]; exact (Fr.refl _ _).alloc _)
  have HKB : Hid (Blk W3 w.heap.size 139 (kcells k)) := by rw [hW3]; exact Blk.new w 139 _
  clear hW3
  go_at_call 84
  refine (HU.out _ HF3.out).mono ?_
  rintro e W4 ⟨rfl, hf4⟩
  rw [hf]
  have HF4 := hide (HF3.out.then_ hf4)
  have HKB4 := hide (HKB.out.fr hf4 id)
  clear hf4
  go_wp2
  go_ret2
  exact ⟨rfl, HF4.out⟩
theorem cread_err (h : CRep w cb fb tb X XF room left F (most : Int) ME Q clk clock) (ho : COrd Q clk) (k : CKey) (hf : lfull most (Q.map CF.abs) = false) (hl : -1 ≤ left ∧ left ≤ 9223372036854775807) (he : (frd left F k.1 k.2).1 ≠ 0) : Calls Tryz.prog 111 #[.pointer (some ⟨cb, 0, none⟩), .agg #[.string ⟨k.1.toArray⟩, .int .i64 k.2]] w fun e w' => e = .returned (.tuple #[.pointer none, .int .i64 (frd left F k.1 k.2).1]) ∧ CRep w' cb fb tb X XF room (frd left F k.1 k.2).2.2 F (most : Int) ME Q clk clock ∧ Fr XF w w' := by
  have HU := hide (fun W (hf : Fr (fun _ => False) w W) => cfull_ok (h.keep hf (fun _ _ h => h)) ho)
  have HFR := hide (fun W (hf : Fr (fun _ => False) w W) => fread_any (h.fs.up hf) k.1 k.2 hl)
  have HH := hide h
  clear h
  clear ho
  obtain ⟨r, hr⟩ : ∃ r, frd left F k.1 k.2 = r := ⟨_, rfl⟩
  rw [hr] at HFR he
  rw [hr]
  obtain ⟨z, hz⟩ : ∃ z, r.1 = z := ⟨_, rfl⟩
  have b0 : (z == 0) = false := by rw [← hz]; simpa using he
  have b1 : (z != 0) = true := by rw [← hz]; simpa using he
  rw [hz] at HFR
  rw [hz]
  clear he hz hr
  go_enter Tryz.func111, Tryz.ntmps111
  go_wp2_with fail
  obtain ⟨W3, hW3⟩ : ∃ W3, W3 = w.alloc (.cells #[.string ⟨k.1.toArray⟩, .int .i64 k.2] 139) := ⟨_, rfl⟩
  rw [← hW3]
  have HF3 := hide (show Fr (fun _ => False) w W3 by rw [hW3]; exact (Fr.refl _ _).alloc _)
  have HKB : Hid (Blk W3 w.heap.size 139 (kcells k)) := by rw [hW3]; exact Blk.new w 139 _
  clear hW3
  go_at_call 84
  refine (HU.out _ HF3.out).mono ?_
  rintro e W4 ⟨rfl, hf4⟩
  rw [hf]
  have HF4 := hide (HF3.out.then_ hf4)
  have HKB4 := hide (HKB.out.fr hf4 id)
  clear hf4
  go_wp2_with fail
  have k0 : W4.cell? ⟨w.heap.size, 0, none⟩ = some (.string ⟨k.1.toArray⟩) := (HKB4.out.cell 0).trans rfl
  have k1 : W4.cell? ⟨w.heap.size, 1, none⟩ = some (.int .i64 k.2) := (HKB4.out.cell 1).trans rfl
  have k2 : W4.cell? ⟨cb, 0, none⟩ = some (.pointer (some ⟨fb, 0, none⟩)) := ((HH.out.blk.fr HF4.out id).cell 0).trans rfl
  have HNX : Hid (¬ XF w.heap.size ∧ ¬ XF cb) := ⟨fun hx => (by have := HH.out.fs.lt _ hx; omega), fun hx => HH.out.dj _ HH.out.xc hx⟩
  have HS4 := hide (fun W (hS : Fr XF W4 W) => (⟨hS.cell k0 HNX.out.1, hS.cell k1 HNX.out.1, hS.cell k2 HNX.out.2⟩ : W.cell? ⟨w.heap.size, 0, none⟩ = some (.string ⟨k.1.toArray⟩) ∧ W.cell? ⟨w.heap.size, 1, none⟩ = some (.int .i64 k.2) ∧ W.cell? ⟨cb, 0, none⟩ = some (.pointer (some ⟨fb, 0, none⟩))))
  clear k0 k1 k2
  refine wp_region_ord [(0, true), (1, true), (2, true), (3, true), (4, true), (5, true), (6, true), (7, true), (8, false), (9, true), (10, true), (11, true), (12, true), (13, true)] (fun W => W.cell? ⟨w.heap.size, 0, none⟩ = some (.string ⟨k.1.toArray⟩) ∧ W.cell? ⟨w.heap.size, 1, none⟩ = some (.int .i64 k.2) ∧ W.cell? ⟨cb, 0, none⟩ = some (.pointer (some ⟨fb, 0, none⟩))) (by kernel_rfl) (by kernel_rfl) (HS4.out _ (Fr.refl _ _).drew) ?_
  iterate 8
    refine ord_read rfl ?_ ?_ (fun W hS => ?_) ?_
    · rfl
    rotate_left
    · (obtain ⟨s0, s1, s2⟩ := hS; go_simp; try with_reducible rfl)
    simp only [List.getElem_toArray, List.getElem_cons_zero, List.getElem_cons_succ, Act.put, List.setIfInBounds_toArray, List.set_cons_zero, List.set_cons_succ]
  refine ord_act rfl ?_
  go_wp2_with fail
  go_at_call 36
  refine (HFR.out _ HF4.out.drew).mono ?_
  rintro e W5 ⟨rfl, hat, hf5⟩
  have HR5 := hide ((HH.out.keep HF4.out.drew (fun _ _ h => h)).fsop hf5 (fun _ h => h) hat (fun _ h => .inl h))
  have HF5 := hide ((HF4.out.drew.mono (S' := XF) (fun _ h => h.elim)).trans hf5 (fun _ h => .inl h))
  have HS5 := HS4.out W5 (((Fr.refl _ _).drew).trans hf5 (fun _ h => .inl h))
  have HKB5 := hide (HKB4.out.drew.fr hf5 HNX.out.1)
  clear hat hf5
  go_wp2
  refine midQ_ok HS5 ?_
  iterate 5
    refine ord_read rfl ?_ ?_ (fun W hS => ?_) ?_
    · rfl
    rotate_left
    · (skip; go_simp; try with_reducible rfl)
    simp only [List.getElem_toArray, List.getElem_cons_zero, List.getElem_cons_succ, Act.put, List.setIfInBounds_toArray, List.set_cons_zero, List.set_cons_succ]
  refine ord_done ?_
  refine NoPanic.normal ?_
  clear HS5
  go_wp2
  go_ret2
  exact ⟨rfl, HR5.out, HF5.out⟩
theorem cread_bad (h : CRep w cb fb tb X XF room left F (most : Int) ME Q clk clock) (ho : COrd Q clk) (k : CKey) (hf : lfull most (Q.map CF.abs) = false) (hl : -1 ≤ left ∧ left ≤ 9223372036854775807) (he : (frd left F k.1 k.2).1 = 0) (hlen : (frd left F k.1 k.2).2.1.length ≤ 9223372036854775807) (hp : pageB (frd left F k.1 k.2).2.1 = false) : Calls Tryz.prog 111 #[.pointer (some ⟨cb, 0, none⟩), .agg #[.string ⟨k.1.toArray⟩, .int .i64 k.2]] w fun e w' => e = .returned (.tuple #[.pointer none, .int .i64 50]) ∧ CRep w' cb fb tb X XF room (frd left F k.1 k.2).2.2 F (most : Int) ME Q clk clock ∧ Fr XF w w' := by
  have HU := hide (fun W (hf : Fr (fun _ => False) w W) => cfull_ok (h.keep hf (fun _ _ h => h)) ho)
  have HFR := hide (fun W (hf : Fr (fun _ => False) w W) => fread_any (h.fs.up hf) k.1 k.2 hl)
  have HH := hide h
  clear h
  clear ho
  obtain ⟨r, hr⟩ : ∃ r, frd left F k.1 k.2 = r := ⟨_, rfl⟩
  rw [hr] at HFR he hlen hp
  try rw [hr]
  rw [he] at HFR
  have HD := hide (fun w => pg_dec ⟨r.2.1.toArray⟩ w (by show r.2.1.toArray.size ≤ _; simpa using hlen))
  have e0 : ((⟨r.2.1.toArray⟩ : ByteArray)).data.toList = r.2.1 := by simp
  rw [e0, hp] at HD
  unfold decR at HD
  clear he hlen hr hp e0
  rw [if_neg (by simp)] at HD
  go_enter Tryz.func111, Tryz.ntmps111
  go_wp2_with fail
  obtain ⟨W3, hW3⟩ : ∃ W3, W3 = w.alloc (.cells #[.string ⟨k.1.toArray⟩, .int .i64 k.2] 139) := ⟨_, rfl⟩
  rw [← hW3]
  have HF3 := hide (show Fr (fun _ => False) w W3 by rw [hW3]; exact (Fr.refl _ _).alloc _)
  have HKB : Hid (Blk W3 w.heap.size 139 (kcells k)) := by rw [hW3]; exact Blk.new w 139 _
  clear hW3
  go_at_call 84
  refine (HU.out _ HF3.out).mono ?_
  rintro e W4 ⟨rfl, hf4⟩
  rw [hf]
  have HF4 := hide (HF3.out.then_ hf4)
  have HKB4 := hide (HKB.out.fr hf4 id)
  clear hf4
  go_wp2_with fail
  have k0 : W4.cell? ⟨w.heap.size, 0, none⟩ = some (.string ⟨k.1.toArray⟩) := (HKB4.out.cell 0).trans rfl
  have k1 : W4.cell? ⟨w.heap.size, 1, none⟩ = some (.int .i64 k.2) := (HKB4.out.cell 1).trans rfl
  have k2 : W4.cell? ⟨cb, 0, none⟩ = some (.pointer (some ⟨fb, 0, none⟩)) := ((HH.out.blk.fr HF4.out id).cell 0).trans rfl
  have HNX : Hid (¬ XF w.heap.size ∧ ¬ XF cb) := ⟨fun hx => (by have := HH.out.fs.lt _ hx; omega), fun hx => HH.out.dj _ HH.out.xc hx⟩
  have HS4 := hide (fun W (hS : Fr XF W4 W) => (⟨hS.cell k0 HNX.out.1, hS.cell k1 HNX.out.1, hS.cell k2 HNX.out.2⟩ : W.cell? ⟨w.heap.size, 0, none⟩ = some (.string ⟨k.1.toArray⟩) ∧ W.cell? ⟨w.heap.size, 1, none⟩ = some (.int .i64 k.2) ∧ W.cell? ⟨cb, 0, none⟩ = some (.pointer (some ⟨fb, 0, none⟩))))
  clear k0 k1 k2
  refine wp_region_ord [(0, true), (1, true), (2, true), (3, true), (4, true), (5, true), (6, true), (7, true), (8, false), (9, true), (10, true), (11, true), (12, true), (13, true)] (fun W => W.cell? ⟨w.heap.size, 0, none⟩ = some (.string ⟨k.1.toArray⟩) ∧ W.cell? ⟨w.heap.size, 1, none⟩ = some (.int .i64 k.2) ∧ W.cell? ⟨cb, 0, none⟩ = some (.pointer (some ⟨fb, 0, none⟩))) (by kernel_rfl) (by kernel_rfl) (HS4.out _ (Fr.refl _ _).drew) ?_
  iterate 8
    refine ord_read rfl ?_ ?_ (fun W hS => ?_) ?_
    · rfl
    rotate_left
    · (obtain ⟨s0, s1, s2⟩ := hS; go_simp; try with_reducible rfl)
    simp only [List.getElem_toArray, List.getElem_cons_zero, List.getElem_cons_succ, Act.put, List.setIfInBounds_toArray, List.set_cons_zero, List.set_cons_succ]
  refine ord_act rfl ?_
  go_wp2_with fail
  go_at_call 36
  refine (HFR.out _ HF4.out.drew).mono ?_
  rintro e W5 ⟨rfl, hat, hf5⟩
  have HR5 := hide ((HH.out.keep HF4.out.drew (fun _ _ h => h)).fsop hf5 (fun _ h => h) hat (fun _ h => .inl h))
  have HF5 := hide ((HF4.out.drew.mono (S' := XF) (fun _ h => h.elim)).trans hf5 (fun _ h => .inl h))
  have HS5 := HS4.out W5 (((Fr.refl _ _).drew).trans hf5 (fun _ h => .inl h))
  have HKB5 := hide (HKB4.out.drew.fr hf5 HNX.out.1)
  clear hat hf5
  go_wp2
  refine midQ_ok HS5 ?_
  iterate 5
    refine ord_read rfl ?_ ?_ (fun W hS => ?_) ?_
    · rfl
    rotate_left
    · (skip; go_simp; try with_reducible rfl)
    simp only [List.getElem_toArray, List.getElem_cons_zero, List.getElem_cons_succ, Act.put, List.setIfInBounds_toArray, List.set_cons_zero, List.set_cons_succ]
  refine ord_done ?_
  refine NoPanic.normal ?_
  clear HS5
  go_wp2_with fail
  go_at_call 37
  refine (HD.out _).mono ?_
  rintro e W6 ⟨rfl, hf6⟩
  have HR6 := hide (HR5.out.keep hf6 (fun _ _ h => h))
  have HF6 := hide (HF5.out.then_ hf6)
  have HKB6 := hide (HKB5.out.fr hf6 id)
  clear hf6
  go_wp2
  go_ret2
  exact ⟨rfl, HR6.out, HF6.out⟩
theorem cread_come (h : CRep w cb fb tb X XF room left F (most : Int) ME Q clk clock) (ho : COrd Q clk) (k : CKey) (hk : ∀ x ∈ Q, x.key ≠ k) (hf : lfull most (Q.map CF.abs) = false) (hl : -1 ≤ left ∧ left ≤ 9223372036854775807) (he : (frd left F k.1 k.2).1 = 0) (hlen : (frd left F k.1 k.2).2.1.length ≤ 9223372036854775807) (hp : pageB (frd left F k.1 k.2).2.1 = true) : Calls Tryz.prog 111 #[.pointer (some ⟨cb, 0, none⟩), .agg #[.string ⟨k.1.toArray⟩, .int .i64 k.2]] w fun e w' => ∃ g X' ME' Q1 clock' b, e = .returned (.tuple #[.pointer (some ⟨g, 0, none⟩), .int .i64 0]) ∧
    CRep w' cb fb tb X' XF room (frd left F k.1 k.2).2.2 F (most : Int) ME' (Q1 ++ [⟨k, datB (frd left F k.1 k.2).2.1, 0, 0, g, b⟩]) clk clock' ∧ Q1.map CF.abs = lroom most (Q.map CF.abs) ∧ COrd Q1 clk ∧ (∀ j, X' j → X j ∨ w.heap.size ≤ j) ∧ Fr (fun j => X j ∨ XF j) w w' := by
  have HU := hide (fun W (hf : Fr (fun _ => False) w W) => cfull_ok (h.keep hf (fun _ _ h => h)) ho)
  have HFR := hide (fun W (hf : Fr (fun _ => False) w W) => fread_any (h.fs.up hf) k.1 k.2 hl)
  have HH := hide h
  clear h
  have HOR := hide ho
  have HKN := hide hk
  clear ho hk
  obtain ⟨r, hr⟩ : ∃ r, frd left F k.1 k.2 = r := ⟨_, rfl⟩
  rw [hr] at HFR he hlen hp
  try rw [hr]
  rw [he] at HFR
  have HD := hide (fun w => pg_dec ⟨r.2.1.toArray⟩ w (by show r.2.1.toArray.size ≤ _; simpa using hlen))
  have e0 : ((⟨r.2.1.toArray⟩ : ByteArray)).data.toList = r.2.1 := by simp
  rw [e0, hp] at HD
  unfold decR at HD
  clear he hlen hr hp e0
  rw [if_pos (show true = true from rfl)] at HD
  go_enter Tryz.func111, Tryz.ntmps111
  go_wp2_with fail
  obtain ⟨W3, hW3⟩ : ∃ W3, W3 = w.alloc (.cells #[.string ⟨k.1.toArray⟩, .int .i64 k.2] 139) := ⟨_, rfl⟩
  rw [← hW3]
  have HF3 := hide (show Fr (fun _ => False) w W3 by rw [hW3]; exact (Fr.refl _ _).alloc _)
  have HKB : Hid (Blk W3 w.heap.size 139 (kcells k)) := by rw [hW3]; exact Blk.new w 139 _
  clear hW3
  go_at_call 84
  refine (HU.out _ HF3.out).mono ?_
  rintro e W4 ⟨rfl, hf4⟩
  rw [hf]
  have HF4 := hide (HF3.out.then_ hf4)
  have HKB4 := hide (HKB.out.fr hf4 id)
  clear hf4
  go_wp2_with fail
  have k0 : W4.cell? ⟨w.heap.size, 0, none⟩ = some (.string ⟨k.1.toArray⟩) := (HKB4.out.cell 0).trans rfl
  have k1 : W4.cell? ⟨w.heap.size, 1, none⟩ = some (.int .i64 k.2) := (HKB4.out.cell 1).trans rfl
  have k2 : W4.cell? ⟨cb, 0, none⟩ = some (.pointer (some ⟨fb, 0, none⟩)) := ((HH.out.blk.fr HF4.out id).cell 0).trans rfl
  have HNX : Hid (¬ XF w.heap.size ∧ ¬ XF cb) := ⟨fun hx => (by have := HH.out.fs.lt _ hx; omega), fun hx => HH.out.dj _ HH.out.xc hx⟩
  have HS4 := hide (fun W (hS : Fr XF W4 W) => (⟨hS.cell k0 HNX.out.1, hS.cell k1 HNX.out.1, hS.cell k2 HNX.out.2⟩ : W.cell? ⟨w.heap.size, 0, none⟩ = some (.string ⟨k.1.toArray⟩) ∧ W.cell? ⟨w.heap.size, 1, none⟩ = some (.int .i64 k.2) ∧ W.cell? ⟨cb, 0, none⟩ = some (.pointer (some ⟨fb, 0, none⟩))))
  clear k0 k1 k2
  refine wp_region_ord [(0, true), (1, true), (2, true), (3, true), (4, true), (5, true), (6, true), (7, true), (8, false), (9, true), (10, true), (11, true), (12, true), (13, true)] (fun W => W.cell? ⟨w.heap.size, 0, none⟩ = some (.string ⟨k.1.toArray⟩) ∧ W.cell? ⟨w.heap.size, 1, none⟩ = some (.int .i64 k.2) ∧ W.cell? ⟨cb, 0, none⟩ = some (.pointer (some ⟨fb, 0, none⟩))) (by kernel_rfl) (by kernel_rfl) (HS4.out _ (Fr.refl _ _).drew) ?_
  iterate 8
    refine ord_read rfl ?_ ?_ (fun W hS => ?_) ?_
    · rfl
    rotate_left
    · (obtain ⟨s0, s1, s2⟩ := hS; go_simp; try with_reducible rfl)
    simp only [List.getElem_toArray, List.getElem_cons_zero, List.getElem_cons_succ, Act.put, List.setIfInBounds_toArray, List.set_cons_zero, List.set_cons_succ]
  refine ord_act rfl ?_
  go_wp2_with fail
  go_at_call 36
  refine (HFR.out _ HF4.out.drew).mono ?_
  rintro e W5 ⟨rfl, hat, hf5⟩
  have HR5 := hide ((HH.out.keep HF4.out.drew (fun _ _ h => h)).fsop hf5 (fun _ h => h) hat (fun _ h => .inl h))
  have HF5 := hide ((HF4.out.drew.mono (S' := XF) (fun _ h => h.elim)).trans hf5 (fun _ h => .inl h))
  have HS5 := HS4.out W5 (((Fr.refl _ _).drew).trans hf5 (fun _ h => .inl h))
  have HKB5 := hide (HKB4.out.drew.fr hf5 HNX.out.1)
  clear hat hf5
  go_wp2
  refine midQ_ok HS5 ?_
  iterate 5
    refine ord_read rfl ?_ ?_ (fun W hS => ?_) ?_
    · rfl
    rotate_left
    · (skip; go_simp; try with_reducible rfl)
    simp only [List.getElem_toArray, List.getElem_cons_zero, List.getElem_cons_succ, Act.put, List.setIfInBounds_toArray, List.set_cons_zero, List.set_cons_succ]
  refine ord_done ?_
  refine NoPanic.normal ?_
  clear HS5
  go_wp2_with fail
  go_at_call 37
  refine (HD.out _).mono ?_
  rintro e W6 ⟨rfl, hf6⟩
  have HR6 := hide (HR5.out.keep hf6 (fun _ _ h => h))
  have HF6 := hide (HF5.out.then_ hf6)
  have HKB6 := hide (HKB5.out.fr hf6 id)
  clear hf6
  have k0 : W6.cell? ⟨w.heap.size, 0, none⟩ = some (.string ⟨k.1.toArray⟩) := (HKB6.out.cell 0).trans rfl
  have k1 : W6.cell? ⟨w.heap.size, 1, none⟩ = some (.int .i64 k.2) := (HKB6.out.cell 1).trans rfl
  have HCO := hide (ccome_ok HR6.out HOR.out k HKN.out (datB r.2.1))
  go_wp2_with fail
  go_at_call 85
  refine HCO.out.mono ?_
  rintro e W7 ⟨g, X', ME', Q1, clock', b, rfl, hr7, hq7, ho7, hx7, hf7⟩
  have H7 := hide (And.intro hr7 (And.intro hq7 (And.intro ho7 (And.intro hx7 hf7))))
  clear hr7 hq7 ho7 hx7 hf7
  go_wp2
  go_ret2
  obtain ⟨hr7, hq7, ho7, hx7, hf7⟩ := H7.out
  have hsz := HF6.out.size
  refine ⟨g, X', ME', Q1, clock', b, rfl, hr7, hq7, ho7, fun j hj => ?_, (HF6.out.mono (S' := fun j => X j ∨ XF j) (fun _ h => .inr h)).trans hf7 (fun _ h => .inl (.inl h))⟩
  rcases hx7 j hj with h | h
  · exact .inl h
  · exact .inr (by omega)
end
end Go.Proofs.YtkhbemmcegmdaaaGreatDoor
end
section
set_option linter.all false
set_option linter.unusedVariables false
set_option maxRecDepth 100000
namespace Go.Proofs.YtkhbemmcegmdaaaGreatDoor
open Go.RowKit
open Go.ChangeMaps (setBlock)

structure CAtQ (w : World) (cb fb : Nat) (X : Nat → Prop) (room : Int) (most : Nat) (s : CSt) (tb : Nat) (X1 XF : Nat → Prop) (ME : List (Ent CKey)) (Q : List CF) (clock : Nat) : Prop where
  rep : CRep w cb fb tb X1 XF room s.left s.F (most : Int) ME Q (s.clk : Int) clock
  ord : COrd Q (s.clk : Int)
  abs : Q.map CF.abs = s.L
  x1 : ∀ k, X1 k → X k
  xf : ∀ k, XF k → X k
  xs : ∀ k, X k → X1 k ∨ XF k
section
variable {w w1 : World} {cb fb tb clock most : Nat} {X X1 XF : Nat → Prop} {room left clk : Int} {F : FileL} {ME : List (Ent CKey)} {Q : List CF} {s : CSt}
theorem CAt.q (h : CAt w cb fb X room most s) : ∃ tb X1 XF ME Q clock, CAtQ w cb fb X room most s tb X1 XF ME Q clock := by
  obtain ⟨tb, X1, XF, ME, Q, clock, h1, h2, h3, h4, h5, h6⟩ := h
  exact ⟨tb, X1, XF, ME, Q, clock, ⟨h1, h2, h3, h4, h5, h6⟩⟩
theorem CAtQ.at (h : CAtQ w cb fb X room most s tb X1 XF ME Q clock) : CAt w cb fb X room most s := ⟨tb, X1, XF, ME, Q, clock, h.rep, h.ord, h.abs, h.x1, h.xf, h.xs⟩
theorem use_rep (h : CRep w cb fb tb X XF room left F (most : Int) ME Q clk clock) {x : CF} (hx : x ∈ Q) (ho : COrd (Q.filter fun y : CF => decide (y.key ≠ x.key)) clk) :
    CRep ((w.setCell ⟨cb, 3, none⟩ (.int .i64 (clk + 1))).setCell ⟨x.blk, 2, none⟩ (.int .i64 (clk + 1))) cb fb tb X XF room left F (most : Int) ME ((Q.filter fun y : CF => decide (y.key ≠ x.key)) ++ [{ x with used := clk + 1 }]) (clk + 1) clock ∧
    COrd ((Q.filter fun y : CF => decide (y.key ≠ x.key)) ++ [{ x with used := clk + 1 }]) (clk + 1) ∧ ((Q.filter fun y : CF => decide (y.key ≠ x.key)) ++ [{ x with used := clk + 1 }]).map CF.abs = luse x.key id (Q.map CF.abs) := by
  have h1 := (h.setClk (clk + 1)).turn hx { x with used := clk + 1 } 2 (.int .i64 (clk + 1)) rfl rfl rfl (by unfold CF.cells; simp)
  exact ⟨h1.perm (turn_perm h.nd hx), ho.snoc _ rfl, abs_use h.nd hx id rfl⟩
theorem wo_last {x : CF} {Q1 : List CF} (hn : ((Q1 ++ [x]).map (·.key)).Nodup) : ((Q1 ++ [x]).filter fun y : CF => decide (y.key ≠ x.key)) = Q1 := by
  rw [List.filter_append, List.filter_cons_of_neg (by simp)]
  have : (Q1.filter fun y : CF => decide (y.key ≠ x.key)) = Q1 := List.filter_eq_self.2 fun y hy => by
    rw [List.map_append, List.nodup_append] at hn
    have := hn.2.2 y.key (List.mem_map_of_mem hy) x.key (by simp)
    simpa using this
  rw [this]
  simp
theorem len_pages {room : Int} {F : FileL} (h : FInv room F) (left : Int) (n : Name) (i : Int) : (frd left F n i).2.1.length ≤ 9223372036854775807 := by
  rcases frd_cases left F n i with ⟨e, _⟩ | ⟨e, _⟩ | ⟨e, _, h1, h2⟩
  · rw [e]; simp
  · rw [e]; simp
  · rw [e]
    have hlt : i.toNat < (fpg n F).length := by omega
    simp only
    rw [show (fpg n F).getD i.toNat [] = (fpg n F)[i.toNat] by simp [List.getD, hlt], h.pages n _ (List.getElem_mem hlt)]
    omega
theorem cfind_ok0 (h : CAt w cb fb X room most s) (hI : CInv room most s) (k : CKey) (hc : s.clk + 1 ≤ 9223372036854775807) (h0 : (cfind most k s).1 = 0) : Calls Tryz.prog 66 #[.pointer (some ⟨cb, 0, none⟩), .string ⟨k.1.toArray⟩, .int .i64 k.2] w fun e w' => ∃ tb X' X1 XF ME Q clock x, e = .returned (.tuple #[.pointer (some ⟨x.blk, 0, none⟩), .int .i64 0]) ∧ CAtQ w' cb fb X' room most (cfind most k s).2 tb X1 XF ME Q clock ∧ (∀ j, X' j → X j ∨ w.heap.size ≤ j) ∧ Fr X w w' ∧ x ∈ Q ∧ x.key = k := by
  obtain ⟨tb, X1, XF, ME, Q, clock, h⟩ := h.q
  have HN := hide (fun W (hf : Fr (fun _ => False) w W) => cnone_ok (h.at.up hf))
  have HQ := hide h
  have hw := cfind_ways most k s hI.nd
  have HI := hide hI
  rcases key_cases Q k with ⟨x, hx, rfl⟩ | hno
  · have hg := h.rep.get_some hx
    have HX := hide hx
    have HW : Hid ((cfind most x.key s).2 = { s with L := luse x.key id s.L, clk := s.clk + 1 }) := by
      have : lget x.key s.L = some x.abs := by rw [← h.abs, abs_find, find_key h.rep.nd hx]; rfl
      show (cfind most x.key s).2 = _
      unfold cfind
      rw [this]
      rfl
    generalize hk : x.key = k at *
    clear h hw h0

    go_enter Tryz.func66, Tryz.ntmps66
    go_wp2_with fail
    go_at_call 61
    refine (HN.out _ (Fr.refl _ _)).mono ?_
    rintro e w1 ⟨rfl, rfl⟩
    go_wp2_with fail
    obtain ⟨W3, hW3⟩ : ∃ W3, W3 = w.alloc (.cells #[.string ⟨k.1.toArray⟩, .int .i64 k.2] 139) := ⟨_, rfl⟩
    rw [← hW3]
    have HF3 := hide (show Fr (fun _ => False) w W3 by rw [hW3]; exact (Fr.refl _ _).alloc _)
    have HKB : Hid (Blk W3 w.heap.size 139 (kcells k)) := by rw [hW3]; exact Blk.new w 139 _
    clear hW3
    have HLK := hide (fun W (hS : Fr (fun _ => False) W3 W) => (⟨(HKB.out.fr hS id).cell 0 |>.trans rfl, (HKB.out.fr hS id).cell 1 |>.trans rfl, ((HQ.out.rep.blk.fr (HF3.out.then_ hS) id).cell 2).trans rfl, by
        have := lookup_ok (P := Tryz.prog) key_ck mapc framep_zero (HQ.out.rep.map.fr (HF3.out.then_ hS) id) k
        rw [hg] at this
        exact this⟩ : W.cell? ⟨w.heap.size, 0, none⟩ = some (.string ⟨k.1.toArray⟩) ∧ W.cell? ⟨w.heap.size, 1, none⟩ = some (.int .i64 k.2) ∧ W.cell? ⟨cb, 2, none⟩ = some (.map (some tb)) ∧ (Instr.lookup 59 (.map (some tb)) (.agg #[.string ⟨k.1.toArray⟩, .int .i64 k.2]) true).run Tryz.prog W = .ok (.tuple #[.pointer (some ⟨x.blk, 0, none⟩), .bool true]) W))
    refine wp_region_reads (fun W => Fr (fun _ => False) W3 W) (by kernel_rfl) (by kernel_rfl) (Fr.refl _ _).drew ?_
    iterate 11
      refine readsY_cons ?_ ?_ (fun W hS => ?_) ?_
      · rfl
      rotate_left
      · (obtain ⟨s1, s2, s3, s4⟩ := HLK.out W hS; go_simp; try with_reducible rfl)
      simp only [List.getElem_toArray, List.getElem_cons_zero, List.getElem_cons_succ, Act.put, List.setIfInBounds_toArray, List.set_cons_zero, List.set_cons_succ]
    simp only [wpReadsY]
    refine NoPanic.normal ?_
    have F8 := HF3.out.drew
    have HU := hide (cuse_ok (HQ.out.rep.keep F8 (fun _ _ h => h)) HX.out (by omega) (by omega))
    have HR := hide (use_rep (HQ.out.rep.keep F8 (fun _ _ h => h)) HX.out (HQ.out.ord.wo _))
    have HF8 := hide F8
    clear F8
    go_wp2_with fail
    go_at_call 86
    refine HU.out.mono ?_
    rintro e W8 ⟨rfl, rfl⟩
    go_wp2
    go_ret2
    obtain ⟨r1, r2, r3⟩ := HR.out
    have hxx := HQ.out.rep.frm x HX.out
    refine ⟨tb, X, X1, XF, ME, (Q.filter fun y : CF => decide (y.key ≠ x.key)) ++ [{ x with used := (s.clk : Int) + 1 }], clock, { x with used := (s.clk : Int) + 1 }, rfl, ⟨?_, ?_, ?_, HQ.out.x1, HQ.out.xf, HQ.out.xs⟩, fun j hj => .inl hj, ?_, ?_, hk⟩
    · rw [HW.out]
      exact r1
    · rw [HW.out]
      exact r2
    · rw [HW.out, r3, hk, HQ.out.abs]
    · exact ((HF8.out.mono (S' := X) (fun _ h => h.elim)).setCell (p := ⟨cb, 3, none⟩) (.inl (HQ.out.x1 _ HQ.out.rep.xc)) _).setCell (p := ⟨x.blk, 2, none⟩) (.inl (HQ.out.x1 _ hxx.2.1)) _
    · exact List.mem_append_right _ (List.mem_singleton.2 rfl)
  · have hg := h.rep.get_none hno
    have HNO := hide hno
    have hno2 : ∀ x ∈ s.L, x.key ≠ k := fun x hx => by
      rw [← h.abs] at hx
      obtain ⟨y, hy, rfl⟩ := List.mem_map.1 hx
      exact hno y hy
    have hgn := get_none_iff.2 hno2
    obtain ⟨hf, he, hp⟩ : lfull most s.L = false ∧ (frd s.left s.F k.1 k.2).1 = 0 ∧ pageB (frd s.left s.F k.1 k.2).2.1 = true := by
      unfold cfind at h0
      rw [hgn, if_neg (by simp)] at h0
      cases hf : lfull most s.L with
      | true => rw [hf, if_pos rfl] at h0; cases h0
      | false =>
        rw [hf, if_neg (by simp)] at h0
        by_cases he : (frd s.left s.F k.1 k.2).1 = 0
        · rw [if_neg (by simpa using he)] at h0
          cases hp : pageB (frd s.left s.F k.1 k.2).2.1 with
          | true => exact ⟨rfl, he, rfl⟩
          | false => rw [hp, if_neg (by simp)] at h0; cases h0
        · rw [if_pos (by simpa using he)] at h0; exact absurd h0 he
    have HW : Hid ((cfind most k s).2 = { s with left := (frd s.left s.F k.1 k.2).2.2, L := lroom most s.L ++ [⟨k, datB (frd s.left s.F k.1 k.2).2.1, 0⟩], clk := s.clk + 1 }) := by
      show (cfind most k s).2 = _
      unfold cfind
      rw [hgn, if_neg (by simp), hf, if_neg (by simp), if_neg (by simpa using he), if_pos hp]
    have HCR := hide (fun W (hf3 : Fr (fun _ => False) w W) => cread_come (h.rep.keep hf3 (fun _ _ h => h)) h.ord k hno (by rw [h.abs]; exact hf) ⟨hI.lo, hI.hi⟩ he (len_pages hI.fs _ _ _) hp)
    clear h hw h0 hno hno2 hgn hf he hp
    go_enter Tryz.func66, Tryz.ntmps66
    go_wp2_with fail
    go_at_call 61
    refine (HN.out _ (Fr.refl _ _)).mono ?_
    rintro e w1 ⟨rfl, rfl⟩
    go_wp2_with fail
    obtain ⟨W3, hW3⟩ : ∃ W3, W3 = w.alloc (.cells #[.string ⟨k.1.toArray⟩, .int .i64 k.2] 139) := ⟨_, rfl⟩
    rw [← hW3]
    have HF3 := hide (show Fr (fun _ => False) w W3 by rw [hW3]; exact (Fr.refl _ _).alloc _)
    have HKB : Hid (Blk W3 w.heap.size 139 (kcells k)) := by rw [hW3]; exact Blk.new w 139 _
    clear hW3
    have HLK := hide (fun W (hS : Fr (fun _ => False) W3 W) => (⟨(HKB.out.fr hS id).cell 0 |>.trans rfl, (HKB.out.fr hS id).cell 1 |>.trans rfl, ((HQ.out.rep.blk.fr (HF3.out.then_ hS) id).cell 2).trans rfl, by
        have := lookup_ok (P := Tryz.prog) key_ck mapc framep_zero (HQ.out.rep.map.fr (HF3.out.then_ hS) id) k
        rw [hg] at this
        exact this⟩ : W.cell? ⟨w.heap.size, 0, none⟩ = some (.string ⟨k.1.toArray⟩) ∧ W.cell? ⟨w.heap.size, 1, none⟩ = some (.int .i64 k.2) ∧ W.cell? ⟨cb, 2, none⟩ = some (.map (some tb)) ∧ (Instr.lookup 59 (.map (some tb)) (.agg #[.string ⟨k.1.toArray⟩, .int .i64 k.2]) true).run Tryz.prog W = .ok (.tuple #[.pointer none, .bool false]) W))
    refine wp_region_reads (fun W => Fr (fun _ => False) W3 W) (by kernel_rfl) (by kernel_rfl) (Fr.refl _ _).drew ?_
    iterate 11
      refine readsY_cons ?_ ?_ (fun W hS => ?_) ?_
      · rfl
      rotate_left
      · (obtain ⟨s1, s2, s3, s4⟩ := HLK.out W hS; go_simp; try with_reducible rfl)
      simp only [List.getElem_toArray, List.getElem_cons_zero, List.getElem_cons_succ, Act.put, List.setIfInBounds_toArray, List.set_cons_zero, List.set_cons_succ]
    simp only [wpReadsY]
    refine NoPanic.normal ?_
    obtain ⟨W4, hW4⟩ : ∃ W4, W4 = W3.drew := ⟨_, rfl⟩
    rw [← hW4]
    have F34 : Fr (fun _ => False) W3 W4 := by rw [hW4]; exact (Fr.refl _ _).drew
    have F4 := HF3.out.then_ F34
    have k0 : W4.cell? ⟨w.heap.size, 0, none⟩ = some (.string ⟨k.1.toArray⟩) := (HLK.out W4 F34).1
    have k1 : W4.cell? ⟨w.heap.size, 1, none⟩ = some (.int .i64 k.2) := (HLK.out W4 F34).2.1
    have HF4 := hide F4
    clear F34 F4 hW4
    go_wp2_with fail
    go_at_call 111
    refine (HCR.out _ HF4.out).mono ?_
    rintro e W5 ⟨g, X', ME', Q1, clock', b, rfl, hr5, hq5, ho5, hx5, hf5⟩
    have hwl := wo_last hr5.nd
    have HU := hide (cuse_ok hr5 (x := ⟨k, datB (frd s.left s.F k.1 k.2).2.1, 0, 0, g, b⟩) (by simp) (by omega) (by omega))
    have HR := hide (use_rep hr5 (x := ⟨k, datB (frd s.left s.F k.1 k.2).2.1, 0, 0, g, b⟩) (by simp) (by rw [hwl]; exact ho5))
    have H5 := hide (And.intro hr5 (And.intro hq5 (And.intro hwl (And.intro hx5 hf5))))
    clear hr5 hq5 ho5 hx5 hf5 hwl k0 k1
    go_wp2_with fail
    go_at_call 86
    refine HU.out.mono ?_
    rintro e W8 ⟨rfl, rfl⟩
    go_wp2
    go_ret2
    obtain ⟨hr5, hq5, hwl, hx5, hf5⟩ := H5.out
    obtain ⟨r1, r2, r3⟩ := HR.out
    have hfb := hr5.frm ⟨k, datB (frd s.left s.F k.1 k.2).2.1, 0, 0, g, b⟩ (by simp)
    have hs4 := HF4.out.size
    have hXF := HQ.out.rep.fs.lt
    refine ⟨tb, fun j => X' j ∨ XF j, X', XF, ME', ((Q1 ++ [(⟨k, datB (frd s.left s.F k.1 k.2).2.1, 0, 0, g, b⟩ : CF)]).filter fun y : CF => decide (y.key ≠ k)) ++ [⟨k, datB (frd s.left s.F k.1 k.2).2.1, 0, (s.clk : Int) + 1, g, b⟩], clock', ⟨k, datB (frd s.left s.F k.1 k.2).2.1, 0, (s.clk : Int) + 1, g, b⟩, rfl, ⟨?_, ?_, ?_, fun _ h => .inl h, fun _ h => .inr h, fun _ h => h⟩, fun j hj => ?_, ?_, ?_, rfl⟩
    · rw [HW.out]
      exact r1
    · rw [HW.out]
      exact r2
    · rw [HW.out]
      simp only
      rw [hwl, List.map_append, hq5, HQ.out.abs]
      rfl
    · rcases hj with hj | hj
      · rcases hx5 j hj with h | h
        · exact .inl (HQ.out.x1 _ h)
        · exact .inr (by omega)
      · exact .inl (HQ.out.xf _ hj)
    · have e1 : ∀ j, X' j → X j ∨ w.heap.size ≤ j := fun j hj => by
        rcases hx5 j hj with h | h
        · exact .inl (HQ.out.x1 _ h)
        · exact .inr (by omega)
      have F5 : Fr X w W5 := (HF4.out.mono (S' := X) (fun _ h => h.elim)).trans hf5 (fun j hj => .inl (hj.elim (HQ.out.x1 _) (HQ.out.xf _)))
      exact (F5.setCell (p := ⟨cb, 3, none⟩) (.inl (HQ.out.x1 _ HQ.out.rep.xc)) _).setCell (p := ⟨g, 2, none⟩) (e1 _ hfb.2.1) _
    · exact List.mem_append_right _ (List.mem_singleton.2 rfl)
theorem cfind_oke (h : CAt w cb fb X room most s) (hI : CInv room most s) (k : CKey) (h0 : (cfind most k s).1 ≠ 0) : Calls Tryz.prog 66 #[.pointer (some ⟨cb, 0, none⟩), .string ⟨k.1.toArray⟩, .int .i64 k.2] w fun e w' => e = .returned (.tuple #[.pointer none, .int .i64 (cfind most k s).1]) ∧ (∃ X', CAt w' cb fb X' room most (cfind most k s).2 ∧ ∀ j, X' j → X j ∨ w.heap.size ≤ j) ∧ Fr X w w' := by
  obtain ⟨tb, X1, XF, ME, Q, clock, h⟩ := h.q
  have HN := hide (fun W (hf : Fr (fun _ => False) w W) => cnone_ok (h.at.up hf))
  have HQ := hide h
  have hw := cfind_ways most k s hI.nd
  rcases key_cases Q k with ⟨x, hx, rfl⟩ | hno
  · have hgx : lget x.key s.L = some x.abs := by rw [← h.abs, abs_find, find_key h.rep.nd hx]; rfl
    exfalso
    apply h0
    unfold cfind
    rw [hgx]
    rfl
  · have hg := h.rep.get_none hno
    have hno2 : ∀ x ∈ s.L, x.key ≠ k := fun x hx => by
      rw [← h.abs] at hx
      obtain ⟨y, hy, rfl⟩ := List.mem_map.1 hx
      exact hno y hy
    have hgn := get_none_iff.2 hno2
    have HCR : Hid (∀ W, Fr (fun _ => False) w W → Calls Tryz.prog 111 #[.pointer (some ⟨cb, 0, none⟩), .agg #[.string ⟨k.1.toArray⟩, .int .i64 k.2]] W fun e w' => e = .returned (.tuple #[.pointer none, .int .i64 (cfind most k s).1]) ∧ CRep w' cb fb tb X1 XF room (cfind most k s).2.left s.F (most : Int) ME Q (s.clk : Int) clock ∧ (cfind most k s).2 = { s with left := (cfind most k s).2.left } ∧ Fr XF W w') := fun W hf3 => by
      have hr := h.rep.keep hf3 (fun _ _ h => h)
      unfold cfind at h0 ⊢
      rw [hgn, if_neg (by simp)] at h0 ⊢
      cases hf : lfull most s.L with
      | true =>
        rw [if_pos rfl]
        refine (cread_full hr h.ord k (by rw [h.abs]; exact hf)).mono ?_
        rintro e w' ⟨rfl, hf4⟩
        exact ⟨rfl, hr.keep hf4 (fun _ _ h => h), rfl, hf4.mono (fun _ h => h.elim)⟩
      | false =>
        rw [hf] at h0
        rw [if_neg (by simp)] at h0 ⊢
        by_cases he : (frd s.left s.F k.1 k.2).1 = 0
        · rw [if_neg (by simpa using he)] at h0 ⊢
          cases hp : pageB (frd s.left s.F k.1 k.2).2.1 with
          | true => rw [hp, if_pos rfl] at h0; exact absurd rfl h0
          | false =>
            rw [if_neg (by simp)]
            refine (cread_bad hr h.ord k (by rw [h.abs]; exact hf) ⟨hI.lo, hI.hi⟩ he (len_pages hI.fs _ _ _) hp).mono ?_
            rintro e w' ⟨rfl, h4, hf4⟩
            exact ⟨rfl, h4, rfl, hf4⟩
        · rw [if_pos (by simpa using he)]
          refine (cread_err hr h.ord k (by rw [h.abs]; exact hf) ⟨hI.lo, hI.hi⟩ he).mono ?_
          rintro e w' ⟨rfl, h4, hf4⟩
          exact ⟨rfl, h4, rfl, hf4⟩
    obtain ⟨r, hr⟩ : ∃ r, cfind most k s = r := ⟨_, rfl⟩
    rw [hr] at HCR h0
    rw [hr]
    obtain ⟨z, hz⟩ : ∃ z, r.1 = z := ⟨_, rfl⟩
    rw [hz] at HCR h0
    rw [hz]
    have b0 : (z == 0) = false := by simpa using h0
    have b1 : (z != 0) = true := by simpa using h0
    clear h hw h0 hno hno2 hgn hr hz hI
    go_enter Tryz.func66, Tryz.ntmps66
    go_wp2_with fail
    go_at_call 61
    refine (HN.out _ (Fr.refl _ _)).mono ?_
    rintro e w1 ⟨rfl, rfl⟩
    go_wp2_with fail
    obtain ⟨W3, hW3⟩ : ∃ W3, W3 = w.alloc (.cells #[.string ⟨k.1.toArray⟩, .int .i64 k.2] 139) := ⟨_, rfl⟩
    rw [← hW3]
    have HF3 := hide (show Fr (fun _ => False) w W3 by rw [hW3]; exact (Fr.refl _ _).alloc _)
    have HKB : Hid (Blk W3 w.heap.size 139 (kcells k)) := by rw [hW3]; exact Blk.new w 139 _
    clear hW3
    have HLK := hide (fun W (hS : Fr (fun _ => False) W3 W) => (⟨(HKB.out.fr hS id).cell 0 |>.trans rfl, (HKB.out.fr hS id).cell 1 |>.trans rfl, ((HQ.out.rep.blk.fr (HF3.out.then_ hS) id).cell 2).trans rfl, by
        have := lookup_ok (P := Tryz.prog) key_ck mapc framep_zero (HQ.out.rep.map.fr (HF3.out.then_ hS) id) k
        rw [hg] at this
        exact this⟩ : W.cell? ⟨w.heap.size, 0, none⟩ = some (.string ⟨k.1.toArray⟩) ∧ W.cell? ⟨w.heap.size, 1, none⟩ = some (.int .i64 k.2) ∧ W.cell? ⟨cb, 2, none⟩ = some (.map (some tb)) ∧ (Instr.lookup 59 (.map (some tb)) (.agg #[.string ⟨k.1.toArray⟩, .int .i64 k.2]) true).run Tryz.prog W = .ok (.tuple #[.pointer none, .bool false]) W))
    refine wp_region_reads (fun W => Fr (fun _ => False) W3 W) (by kernel_rfl) (by kernel_rfl) (Fr.refl _ _).drew ?_
    iterate 11
      refine readsY_cons ?_ ?_ (fun W hS => ?_) ?_
      · rfl
      rotate_left
      · (obtain ⟨s1, s2, s3, s4⟩ := HLK.out W hS; go_simp; try with_reducible rfl)
      simp only [List.getElem_toArray, List.getElem_cons_zero, List.getElem_cons_succ, Act.put, List.setIfInBounds_toArray, List.set_cons_zero, List.set_cons_succ]
    simp only [wpReadsY]
    refine NoPanic.normal ?_
    obtain ⟨W4, hW4⟩ : ∃ W4, W4 = W3.drew := ⟨_, rfl⟩
    rw [← hW4]
    have F34 : Fr (fun _ => False) W3 W4 := by rw [hW4]; exact (Fr.refl _ _).drew
    have k0 : W4.cell? ⟨w.heap.size, 0, none⟩ = some (.string ⟨k.1.toArray⟩) := (HLK.out W4 F34).1
    have k1 : W4.cell? ⟨w.heap.size, 1, none⟩ = some (.int .i64 k.2) := (HLK.out W4 F34).2.1
    have HF4 := hide (HF3.out.then_ F34)
    clear F34 hW4
    go_wp2_with fail
    go_at_call 111
    refine (HCR.out _ HF4.out).mono ?_
    rintro e W5 ⟨rfl, hr5, hs5, hf5⟩
    have H5 := hide (And.intro hr5 (And.intro hs5 hf5))
    clear hr5 hs5 hf5 k0 k1
    go_wp2
    go_ret2
    obtain ⟨hr5, hs5, hf5⟩ := H5.out
    refine ⟨rfl, ⟨X, ⟨tb, X1, XF, ME, Q, clock, ?_, ?_, ?_, HQ.out.x1, HQ.out.xf, HQ.out.xs⟩, fun j hj => .inl hj⟩, (HF4.out.mono (S' := X) (fun _ h => h.elim)).trans hf5 (fun j hj => .inl (HQ.out.xf _ hj))⟩
    · rw [hs5]; exact hr5
    · rw [hs5]; exact HQ.out.ord
    · rw [hs5]; exact HQ.out.abs
end
end Go.Proofs.YtkhbemmcegmdaaaGreatDoor
end
section
set_option linter.all false
set_option linter.unusedVariables false
set_option maxRecDepth 100000
namespace Go.Proofs.YtkhbemmcegmdaaaGreatDoor
open Go.RowKit
open Go.ChangeMaps (setBlock)

section
variable {w w1 : World} {cb fb tb clock most : Nat} {X X1 XF : Nat → Prop} {room left clk : Int} {F : FileL} {ME : List (Ent CKey)} {Q : List CF} {s : CSt}
theorem ldata_q {Q : List CF} {x : CF} (hn : (Q.map (·.key)).Nodup) (hx : x ∈ Q) : ldata x.key (Q.map CF.abs) = x.data := by
  unfold ldata
  rw [abs_find, find_key hn hx]
  rfl
theorem CAtQ.turn (h : CAtQ w cb fb X room most s tb X1 XF ME Q clock) {x : CF} (hx : x ∈ Q) (x' : CF) (j : Nat) (v : Value) (h1 : x'.key = x.key) (h2 : x'.blk = x.blk) (h3 : x'.born = x.born) (h4 : x'.used = x.used) (hc : x.cells.setIfInBounds j v = x'.cells) (f : CE → CE) (hf : x'.abs = f x.abs) :
    CAtQ (w.setCell ⟨x.blk, j, none⟩ v) cb fb X room most { s with L := lmap x.key f s.L } tb X1 XF ME (Q.map fun y => if y.key = x.key then x' else y) clock := by
  refine ⟨h.rep.turn hx x' j v h1 h2 h3 hc, h.ord.keepUsed ?_, ?_, h.x1, h.xf, h.xs⟩
  · rw [List.map_map]
    refine List.map_congr_left fun y hy => ?_
    simp only [Function.comp]
    split
    · next e => rw [h4, nodup_inj h.rep.nd hy hx e]
    · rfl
  · rw [abs_map h.rep.nd hx f hf, h.abs]
theorem CInv.find' {room : Int} {most : Nat} {s : CSt} (h : CInv room most s) (k : CKey) : ∀ x ∈ (cfind most k s).2.L, x.pins ≤ (cfind most k s).2.clk := by
  have hw := cfind_ways most k s h.nd
  generalize (cfind most k s).1 = e at hw
  generalize (cfind most k s).2 = s' at hw
  cases hw with
  | there x hx hk =>
    intro y hy
    rcases List.mem_append.1 hy with hy | hy
    · have := h.pin y (wo_mem.1 hy).1; simp only; omega
    · rw [List.mem_singleton] at hy; rw [hy]; have := h.pin x hx; simp only; omega
  | full => exact h.pin
  | none => exact h.pin
  | fail => exact h.pin
  | bad => exact h.pin
  | come hn hf hi hl hp =>
    intro y hy
    rcases List.mem_append.1 hy with hy | hy
    · have := h.pin y ((room_sub _ _).subset hy); simp only; omega
    · rw [List.mem_singleton] at hy; rw [hy]; simp
theorem cget_ok (h : CAt w cb fb X room most s) (hI : CInv room most s) (k : CKey) (hc : s.clk + 1 ≤ 9223372036854775806) : Calls Tryz.prog 20 #[.pointer (some ⟨cb, 0, none⟩), .string ⟨k.1.toArray⟩, .int .i64 k.2] w fun e w' => e = .returned (.tuple #[.string ⟨(cget most k s).1.toArray⟩, .int .i64 (cget most k s).2.1]) ∧ (∃ X', CAt w' cb fb X' room most (cget most k s).2.2 ∧ ∀ j, X' j → X j ∨ w.heap.size ≤ j) ∧ Fr X w w'  := by
  by_cases h0 : (cfind most k s).1 = 0
  · have HF := hide (cfind_ok0 h hI k (by omega) h0)
    have HI2 := hide (hI.find' k)
    have HCK := hide (cfind_clk most k s hI.nd)
    have HR : Hid (cget most k s = (ldata k (cfind most k s).2.L, 0, (cfind most k s).2)) := by
      show cget most k s = _
      unfold cget
      rw [if_pos h0]
    clear h hI h0
    go_enter Tryz.func20, Tryz.ntmps20
    go_wp2_with fail
    go_at_call 66
    refine HF.out.mono ?_
    rintro e W5 ⟨tb, X', X1, XF, ME, Q, clock, x, rfl, hq5, hx5, hf5, hx, rfl⟩
    have d0 : W5.cell? ⟨x.blk, 0, none⟩ = some (.string ⟨x.data.toArray⟩) := ((hq5.rep.frm x hx).1.cell 0).trans rfl
    have HD : Hid (ldata x.key (cfind most x.key s).2.L = x.data) := by rw [← hq5.abs]; exact ldata_q hq5.rep.nd hx
    have H5 := hide (And.intro hq5.at (And.intro hx5 hf5))
    clear hq5 hx5 hf5 hx
    go_wp2
    go_ret2
    rw [HR.out]
    exact ⟨by rw [HD.out]; rfl, ⟨X', H5.out.1, H5.out.2.1⟩, H5.out.2.2⟩
  · have HF := hide (cfind_oke h hI k h0)
    have HR : Hid (cget most k s = ([], (cfind most k s).1, (cfind most k s).2)) := by
      show cget most k s = _
      unfold cget
      rw [if_neg h0]
    rw [HR.out]
    clear h hI HR
    obtain ⟨r, hr⟩ : ∃ r, cfind most k s = r := ⟨_, rfl⟩
    rw [hr] at HF h0
    rw [hr]
    obtain ⟨z, hz⟩ : ∃ z, r.1 = z := ⟨_, rfl⟩
    rw [hz] at HF h0
    rw [hz]
    have b0 : (z == 0) = false := by simpa using h0
    have b1 : (z != 0) = true := by simpa using h0
    clear hr hz h0
    go_enter Tryz.func20, Tryz.ntmps20
    go_wp2_with fail
    go_at_call 66
    refine HF.out.mono ?_
    rintro e W5 ⟨rfl, hq5, hf5⟩
    have H5 := hide (And.intro hq5 hf5)
    clear hq5 hf5
    go_wp2
    go_ret2
    exact ⟨rfl, H5.out⟩
theorem cpin_ok (h : CAt w cb fb X room most s) (hI : CInv room most s) (k : CKey) (hc : s.clk + 1 ≤ 9223372036854775806) : Calls Tryz.prog 39 #[.pointer (some ⟨cb, 0, none⟩), .string ⟨k.1.toArray⟩, .int .i64 k.2] w fun e w' => e = .returned (.tuple #[.string ⟨(cpin most k s).1.toArray⟩, .int .i64 (cpin most k s).2.1]) ∧ (∃ X', CAt w' cb fb X' room most (cpin most k s).2.2 ∧ ∀ j, X' j → X j ∨ w.heap.size ≤ j) ∧ Fr X w w'  := by
  by_cases h0 : (cfind most k s).1 = 0
  · have HF := hide (cfind_ok0 h hI k (by omega) h0)
    have HI2 := hide (hI.find' k)
    have HCK := hide (cfind_clk most k s hI.nd)
    have HR : Hid (cpin most k s = (ldata k (cfind most k s).2.L, 0, { (cfind most k s).2 with L := lmap k (fun x => { x with pins := x.pins + 1 }) (cfind most k s).2.L })) := by
      show cpin most k s = _
      unfold cpin
      rw [if_pos h0]
    clear h hI h0
    go_enter Tryz.func39, Tryz.ntmps39
    go_wp2_with fail
    go_at_call 66
    refine HF.out.mono ?_
    rintro e W5 ⟨tb, X', X1, XF, ME, Q, clock, x, rfl, hq5, hx5, hf5, hx, rfl⟩
    have d0 : W5.cell? ⟨x.blk, 0, none⟩ = some (.string ⟨x.data.toArray⟩) := ((hq5.rep.frm x hx).1.cell 0).trans rfl
    have HD : Hid (ldata x.key (cfind most x.key s).2.L = x.data) := by rw [← hq5.abs]; exact ldata_q hq5.rep.nd hx
    have d1 : W5.cell? ⟨x.blk, 1, none⟩ = some (.int .i64 (x.pins : Int)) := ((hq5.rep.frm x hx).1.cell 1).trans rfl
    have f1 : W5.frozen? ⟨x.blk, 1, none⟩ = false := (hq5.rep.frm x hx).1.frozen 1
    have hp1 : x.pins ≤ (cfind most x.key s).2.clk := by
      have hxl : x.abs ∈ (cfind most x.key s).2.L := by rw [← hq5.abs]; exact List.mem_map_of_mem hx
      exact HI2.out _ hxl
    have hp2 := HCK.out
    have hq6 := hq5.turn hx { x with pins := x.pins + 1 } 1 (.int .i64 ((x.pins : Int) + 1)) rfl rfl rfl rfl (by unfold CF.cells; simp) (fun y => { y with pins := y.pins + 1 }) rfl
    have d0' : (W5.setCell ⟨x.blk, 1, none⟩ (.int .i64 ((x.pins : Int) + 1))).cell? ⟨x.blk, 0, none⟩ = some (.string ⟨x.data.toArray⟩) := (((hq5.rep.frm x hx).1.set_ 1 (.int .i64 ((x.pins : Int) + 1))).cell 0).trans rfl
    have hfx := hf5.setCell (p := ⟨x.blk, 1, none⟩) (hx5 _ (hq5.x1 _ (hq5.rep.frm x hx).2.1)) (.int .i64 ((x.pins : Int) + 1))
    have hw1 : IntKind.i64.wrap ((x.pins : Int) + 1) = (x.pins : Int) + 1 := by simp only [IntKind.wrap, IntKind.bits, IntKind.signed]; simp; omega
    have H5 := hide (And.intro hq6.at (And.intro hx5 hfx))
    clear hq5 hx5 hf5 hx hq6 hfx HI2 HCK
    go_wp2
    go_ret2
    rw [HR.out]
    exact ⟨by rw [HD.out]; rfl, ⟨X', H5.out.1, H5.out.2.1⟩, H5.out.2.2⟩
  · have HF := hide (cfind_oke h hI k h0)
    have HR : Hid (cpin most k s = ([], (cfind most k s).1, (cfind most k s).2)) := by
      show cpin most k s = _
      unfold cpin
      rw [if_neg h0]
    rw [HR.out]
    clear h hI HR
    obtain ⟨r, hr⟩ : ∃ r, cfind most k s = r := ⟨_, rfl⟩
    rw [hr] at HF h0
    rw [hr]
    obtain ⟨z, hz⟩ : ∃ z, r.1 = z := ⟨_, rfl⟩
    rw [hz] at HF h0
    rw [hz]
    have b0 : (z == 0) = false := by simpa using h0
    have b1 : (z != 0) = true := by simpa using h0
    clear hr hz h0
    go_enter Tryz.func39, Tryz.ntmps39
    go_wp2_with fail
    go_at_call 66
    refine HF.out.mono ?_
    rintro e W5 ⟨rfl, hq5, hf5⟩
    have H5 := hide (And.intro hq5 hf5)
    clear hq5 hf5
    go_wp2
    go_ret2
    exact ⟨rfl, H5.out⟩
theorem clen_ok (h : CAt w cb fb X room most s) : Calls Tryz.prog 21 #[.pointer (some ⟨cb, 0, none⟩)] w fun e w' => e = .returned (.int .i64 (s.L.length : Int)) ∧ w = w' := by
  have HN := hide (cnone_ok h)
  obtain ⟨tb, X1, XF, ME, Q, clock, h⟩ := h.q
  have c2 : w.cell? ⟨cb, 2, none⟩ = some (.map (some tb)) := (h.rep.blk.cell 2).trans rfl
  have hlen : ∀ ty, (Builtin.len_ #[59] ty #[.map (some tb)]).run Tryz.prog w = .ok (.int .i64 (s.L.length : Int)) w := fun ty => by
    rw [← h.abs, List.length_map, ← h.rep.len]; exact len_ok (P := Tryz.prog) mapc h.rep.map ty
  clear h
  go_enter Tryz.func21, Tryz.ntmps21
  go_wp2_with fail
  go_at_call 61
  refine HN.out.mono ?_
  rintro e w1 ⟨rfl, rfl⟩
  go_wp2
  go_ret
  exact ⟨rfl, rfl⟩
theorem chas_ok (h : CAt w cb fb X room most s) (k : CKey) : Calls Tryz.prog 31 #[.pointer (some ⟨cb, 0, none⟩), .string ⟨k.1.toArray⟩, .int .i64 k.2] w fun e w' => e = .returned (.bool (lget k s.L).isSome) ∧ w = w' := by
  have HN := hide (cnone_ok h)
  obtain ⟨tb, X1, XF, ME, Q, clock, h⟩ := h.q
  have c2 : w.cell? ⟨cb, 2, none⟩ = some (.map (some tb)) := (h.rep.blk.cell 2).trans rfl
  have hlk := lookup_ok (P := Tryz.prog) key_ck mapc framep_zero h.rep.map k
  have hlk2 : (Instr.lookup 59 (.map (some tb)) (.agg #[.string ⟨k.1.toArray⟩, .int .i64 k.2]) true).run Tryz.prog w = .ok (.tuple #[((aget k ME).getD (.pointer none)), .bool (lget k s.L).isSome]) w := by
    have e : (aget k ME).isSome = (lget k s.L).isSome := by
      rw [← h.abs, abs_find]
      rcases key_cases Q k with ⟨x, hx, rfl⟩ | hno
      · rw [h.rep.get_some hx, find_key h.rep.nd hx]; rfl
      · rw [h.rep.get_none hno, List.find?_eq_none.2 (by simpa using hno)]; rfl
    rw [← e]
    exact hlk
  clear h hlk
  go_enter Tryz.func31, Tryz.ntmps31
  go_wp2_with fail
  go_at_call 61
  refine HN.out.mono ?_
  rintro e w1 ⟨rfl, rfl⟩
  go_wp2
  go_ret
  exact ⟨rfl, rfl⟩
theorem cunpin_ok (h : CAt w cb fb X room most s) (hI : CInv room most s) (k : CKey) (hc : s.clk ≤ 9223372036854775806) : Calls Tryz.prog 40 #[.pointer (some ⟨cb, 0, none⟩), .string ⟨k.1.toArray⟩, .int .i64 k.2] w fun e w' => e = .returned (.int .i64 (cunpin k s).1) ∧ CAt w' cb fb X room most (cunpin k s).2 ∧ Fr X w w' := by
  have HN := hide (cnone_ok h)
  obtain ⟨tb, X1, XF, ME, Q, clock, h⟩ := h.q
  have c2 : w.cell? ⟨cb, 2, none⟩ = some (.map (some tb)) := (h.rep.blk.cell 2).trans rfl
  have hlk := lookup_ok (P := Tryz.prog) key_ck mapc framep_zero h.rep.map k
  rcases key_cases Q k with ⟨x, hx, rfl⟩ | hno
  · have hg : lget x.key s.L = some x.abs := by rw [← h.abs, abs_find, find_key h.rep.nd hx]; rfl
    rw [h.rep.get_some hx] at hlk
    have hlk2 : (Instr.lookup 59 (.map (some tb)) (.agg #[.string ⟨x.key.1.toArray⟩, .int .i64 x.key.2]) true).run Tryz.prog w = .ok (.tuple #[.pointer (some ⟨x.blk, 0, none⟩), .bool true]) w := hlk
    have hfx := h.rep.frm x hx
    have d1 : w.cell? ⟨x.blk, 1, none⟩ = some (.int .i64 (x.pins : Int)) := (hfx.1.cell 1).trans rfl
    have f1 : w.frozen? ⟨x.blk, 1, none⟩ = false := hfx.1.frozen 1
    have HP : Hid (x.pins ≤ s.clk) := hI.pin x.abs (by rw [← h.abs]; exact List.mem_map_of_mem hx)
    by_cases hz : x.pins = 0
    · have b0 : ((x.pins : Int) == 0) = true := by rw [hz]; rfl
      have HR : Hid (cunpin x.key s = (4, s)) := by
        show cunpin x.key s = _
        unfold cunpin
        rw [hg]
        simp only
        rw [if_pos (show x.abs.pins = 0 from hz)]
      have HA := hide h.at
      clear h hlk hfx hz hg hx
      go_enter Tryz.func40, Tryz.ntmps40
      go_wp2_with fail
      go_at_call 61
      refine HN.out.mono ?_
      rintro e w1 ⟨rfl, rfl⟩
      go_wp2
      go_ret
      rw [HR.out]
      exact ⟨rfl, HA.out, Fr.refl _ _⟩
    · have b0 : ((x.pins : Int) == 0) = false := by simp; omega
      have HR : Hid (cunpin x.key s = (0, { s with L := lmap x.key (fun x => { x with pins := x.pins - 1 }) s.L })) := by
        show cunpin x.key s = _
        unfold cunpin
        rw [hg]
        simp only
        rw [if_neg (show ¬ x.abs.pins = 0 from hz)]
      have hq6 := h.turn hx { x with pins := x.pins - 1 } 1 (.int .i64 ((x.pins : Int) - 1)) rfl rfl rfl rfl (by unfold CF.cells; simp; omega) (fun y => { y with pins := y.pins - 1 }) rfl
      have HA := hide (And.intro hq6.at (show Fr X w _ from (Fr.refl X w).setCell (p := ⟨x.blk, 1, none⟩) (.inl (h.x1 _ hfx.2.1)) (.int .i64 ((x.pins : Int) - 1))))
      have hw1 : IntKind.i64.wrap ((x.pins : Int) - 1) = (x.pins : Int) - 1 := by have := HP.out; simp only [IntKind.wrap, IntKind.bits, IntKind.signed]; simp; omega
      clear h hlk hfx hz hg hx hq6 HP
      go_enter Tryz.func40, Tryz.ntmps40
      go_wp2_with fail
      go_at_call 61
      refine HN.out.mono ?_
      rintro e w1 ⟨rfl, rfl⟩
      go_wp2
      go_ret
      rw [HR.out]
      exact ⟨rfl, HA.out.1, HA.out.2⟩
  · have hg : lget k s.L = none := by rw [← h.abs, abs_find, List.find?_eq_none.2 (by simpa using hno)]; rfl
    rw [h.rep.get_none hno] at hlk
    have hlk2 : (Instr.lookup 59 (.map (some tb)) (.agg #[.string ⟨k.1.toArray⟩, .int .i64 k.2]) true).run Tryz.prog w = .ok (.tuple #[.pointer none, .bool false]) w := hlk
    have HR : Hid (cunpin k s = (4, s)) := by
      show cunpin k s = _
      unfold cunpin
      rw [hg]
    have HA := hide h.at
    clear h hlk hg hno
    go_enter Tryz.func40, Tryz.ntmps40
    go_wp2_with fail
    go_at_call 61
    refine HN.out.mono ?_
    rintro e w1 ⟨rfl, rfl⟩
    go_wp2
    go_ret
    rw [HR.out]
    exact ⟨rfl, HA.out, Fr.refl _ _⟩
theorem cnew_ok {left : Int} {XF : Nat → Prop} (h : FSAt w fb XF room left F) (most : Nat) (h1 : 1 ≤ most) (h2 : most ≤ 64) : Calls Tryz.prog 26 #[.pointer (some ⟨fb, 0, none⟩), .int .i64 (most : Int)] w fun e w' => ∃ cb X, e = .returned (.tuple #[.pointer (some ⟨cb, 0, none⟩), .int .i64 0]) ∧ CAt w' cb fb X room most ⟨left, F, [], 0⟩ ∧ (∀ j, X j → XF j ∨ w.heap.size ≤ j) ∧ (∀ j, XF j → X j) ∧ w.heap.size ≤ cb ∧ Fr (fun _ => False) w w' := by
  have hmm := @run_makeMap Tryz.prog
  have HH := hide h
  have b1 : ¬ ((most : Int) < 1) := by omega
  have b2 : ¬ ((64 : Int) < (most : Int)) := by omega
  clear h h1 h2
  go_enter Tryz.func26, Tryz.ntmps26
  go_wp2
  go_ret2
  have F1 : Fr (fun _ => False) w (w.alloc (.map #[] 0)) := (Fr.refl _ _).alloc _
  have F2 := F1.alloc (.cells #[.pointer (some ⟨fb, 0, none⟩), .int .i64 (most : Int), .map (some w.heap.size), .int .i64 0] 66)
  have hlt := HH.out.lt
  refine ⟨w.heap.size + 1, by simp, fun k => (k = w.heap.size ∨ k = w.heap.size + 1) ∨ XF k, ⟨w.heap.size, fun k => k = w.heap.size ∨ k = w.heap.size + 1, XF, [], [], 0, ?_, ⟨by simp, by simp⟩, rfl, fun k hk => .inl hk, fun k hk => .inr hk, fun k hk => hk⟩, fun k hk => ?_, fun k hk => .inr hk, by omega, F2⟩
  · refine ⟨fun k hk => by simp; omega, .inr rfl, .inl rfl, by omega, fun k hk hx => by have := hlt k hx; omega, ?_, HH.out.up F2, ?_, by simp, by simp, by simp, by simp, by simp, by simp⟩
    · have := Blk.new (w.alloc (.map #[] 0)) 66 #[.pointer (some ⟨fb, 0, none⟩), .int .i64 (most : Int), .map (some w.heap.size), .int .i64 0]
      simpa [ccells, ptr] using this
    · unfold MBlk
      have h0 : (w.alloc (.map #[] 0)).heap[w.heap.size]? = some (.map #[] 0) := heap_alloc_new w _
      rw [heap_alloc_old _ _ (by simp), h0]
      rfl
  · rcases hk with hk | hk
    · exact .inr (by omega)
    · exact .inl hk
end
end Go.Proofs.YtkhbemmcegmdaaaGreatDoor
end
