/- A cache's full, come, by contract. -/
import Derived.Test.YtkhbemmcegmdaaaGreatDoorCo
import Derived.Test.YtkhbemmcegmdaaaGreatDoorOrdR
set_option linter.all false
set_option linter.unusedVariables false
set_option maxRecDepth 100000
namespace Go.Proofs.YtkhbemmcegmdaaaGreatDoor
open Go.RowKit
open Go.ChangeMaps (setBlock)

def qold (Q : List CF) : Option CF := Q.find? fun x => decide (x.pins = 0)
theorem old_qold (Q : List CF) : lold (Q.map CF.abs) = (qold Q).map CF.abs := abs_old Q
theorem full_q (most : Nat) (Q : List CF) : lfull most (Q.map CF.abs) = (decide (most ≤ Q.length) && !(qold Q).isSome) := by
  unfold lfull
  rw [old_qold, List.length_map]
  cases qold Q <;> rfl
section
variable {w w1 : World} {cb fb tb clock most : Nat} {X XF : Nat → Prop} {room left clk : Int} {F : FileL} {ME : List (Ent CKey)} {Q : List CF} {s : CSt}
theorem cold2 (h : CRep w cb fb tb X XF room left F (most : Int) ME Q clk clock) (ho : COrd Q clk) : Calls Tryz.prog 130 #[.pointer (some ⟨cb, 0, none⟩)] w fun e w' => ∃ k : CKey, e = .returned (.tuple #[.agg #[.string ⟨k.1.toArray⟩, .int .i64 k.2], .bool (qold Q).isSome]) ∧ Fr (fun _ => False) w w' ∧ ∀ r, qold Q = some r → k = r.key := by
  refine (cold_ok h).mono ?_
  rintro e w' ⟨k, f, rfl, hf, hd⟩
  refine ⟨k, ?_, hf, ?_⟩
  · rcases hd with ⟨rfl, hn⟩ | ⟨rfl, r, h1, h2, h3, h4⟩
    · have : qold Q = none := by
        unfold qold
        rw [List.find?_eq_none]
        intro x hx
        simpa using hn x hx
      rw [this]
      rfl
    · have : qold Q = some r := ho.old h1 h3 h4
      rw [this]
      rfl
  · intro r hr
    rcases hd with ⟨rfl, hn⟩ | ⟨rfl, r', h1, h2, h3, h4⟩
    · have h5 := List.find?_some hr
      exact absurd (by simpa using h5) (hn r (List.mem_of_find?_eq_some hr))
    · have h5 : qold Q = some r' := ho.old h1 h3 h4
      rw [h5] at hr
      obtain rfl := Option.some.inj hr
      exact h2
theorem cfull_ok (h : CRep w cb fb tb X XF room left F (most : Int) ME Q clk clock) (ho : COrd Q clk) : Calls Tryz.prog 84 #[.pointer (some ⟨cb, 0, none⟩)] w fun e w' => e = .returned (.bool (lfull most (Q.map CF.abs))) ∧ Fr (fun _ => False) w w' := by
  have HO := hide (cold2 h ho)
  have c1 : w.cell? ⟨cb, 1, none⟩ = some (.int .i64 (most : Int)) := (h.blk.cell 1).trans rfl
  have c2 : w.cell? ⟨cb, 2, none⟩ = some (.map (some tb)) := (h.blk.cell 2).trans rfl
  have HC := hide (fun W (hS : Fr (fun _ => False) w W) => (⟨hS.cell c1 id, hS.cell c2 id, fun ty => by rw [← h.len]; exact len_ok (P := Tryz.prog) mapc (h.map.fr hS id) ty⟩ : W.cell? ⟨cb, 1, none⟩ = some (.int .i64 (most : Int)) ∧ W.cell? ⟨cb, 2, none⟩ = some (.map (some tb)) ∧ ∀ ty, (Builtin.len_ #[59] ty #[.map (some tb)]).run Tryz.prog W = .ok (.int .i64 (Q.length : Int)) W))
  clear h c1 c2
  have HFQ := hide (full_q most Q)
  obtain ⟨n, hn⟩ : ∃ n, Q.length = n := ⟨_, rfl⟩
  rw [hn] at HC HFQ
  obtain ⟨ok, hok⟩ : ∃ ok, (qold Q).isSome = ok := ⟨_, rfl⟩
  rw [hok] at HO HFQ
  go_enter Tryz.func84, Tryz.ntmps84
  go_wp2_with fail
  go_at_call 130
  refine HO.out.mono ?_
  rintro e w2 ⟨k, rfl, hf, _⟩
  have HF := hide hf
  clear hf
  go_wp2_with fail
  obtain ⟨W3, hW3⟩ : ∃ W3, W3 = w2.alloc (.cells #[.string ⟨k.1.toArray⟩, .int .i64 k.2] 139) := ⟨_, rfl⟩
  rw [← hW3]
  have HF3 := hide (show Fr (fun _ => False) w W3 by rw [hW3]; exact HF.out.alloc _)
  clear hW3
  by_cases hm : most ≤ n
  · have b0 : decide ((n : Int) ≥ (most : Int)) = true := by simp; omega
    have b1 : decide ((most : Int) ≤ (n : Int)) = true := by simp; omega
    refine wp_region_reads (fun W => Fr (fun _ => False) W3 W) (by kernel_rfl) (by kernel_rfl) (Fr.refl _ _).drew ?_
    iterate 15
      refine readsY_cons ?_ ?_ (fun W hS => ?_) ?_
      · rfl
      rotate_left
      · (obtain ⟨s1, s2, s3⟩ := HC.out W (HF3.out.then_ hS); go_simp; try with_reducible rfl)
      simp only [List.getElem_toArray, List.getElem_cons_zero, List.getElem_cons_succ, Act.put, List.setIfInBounds_toArray, List.set_cons_zero, List.set_cons_succ, b0, b1]
    simp only [wpReadsY]
    refine NoPanic.normal ?_
    go_wp2
    go_ret
    refine ⟨by rw [HFQ.out, decide_eq_true hm]; rfl, HF3.out.drew⟩
  · have b0 : decide ((n : Int) ≥ (most : Int)) = false := by simp; omega
    have b1 : decide ((most : Int) ≤ (n : Int)) = false := by simp; omega
    refine wp_region_reads (fun W => Fr (fun _ => False) W3 W) (by kernel_rfl) (by kernel_rfl) (Fr.refl _ _).drew ?_
    iterate 11
      refine readsY_cons ?_ ?_ (fun W hS => ?_) ?_
      · rfl
      rotate_left
      · (obtain ⟨s1, s2, s3⟩ := HC.out W (HF3.out.then_ hS); go_simp; try with_reducible rfl)
      simp only [List.getElem_toArray, List.getElem_cons_zero, List.getElem_cons_succ, Act.put, List.setIfInBounds_toArray, List.set_cons_zero, List.set_cons_succ, b0, b1]
    iterate 2
      refine readsY_skip ?_ ?_
      · rfl
      simp only [List.getElem_toArray, List.getElem_cons_zero, List.getElem_cons_succ, Act.put, List.setIfInBounds_toArray, List.set_cons_zero, List.set_cons_succ, b0, b1]
    iterate 2
      refine readsY_cons ?_ ?_ (fun W hS => ?_) ?_
      · rfl
      rotate_left
      · (obtain ⟨s1, s2, s3⟩ := HC.out W (HF3.out.then_ hS); go_simp; try with_reducible rfl)
      simp only [List.getElem_toArray, List.getElem_cons_zero, List.getElem_cons_succ, Act.put, List.setIfInBounds_toArray, List.set_cons_zero, List.set_cons_succ, b0, b1]
    simp only [wpReadsY]
    refine NoPanic.normal ?_
    go_wp2
    go_ret
    refine ⟨by rw [HFQ.out, decide_eq_false hm]; rfl, HF3.out.drew⟩
theorem ccome_ok (h : CRep w cb fb tb X XF room left F (most : Int) ME Q clk clock) (ho : COrd Q clk) (k : CKey) (hk : ∀ x ∈ Q, x.key ≠ k) (dt : List UInt8) : Calls Tryz.prog 85 #[.pointer (some ⟨cb, 0, none⟩), .agg #[.string ⟨k.1.toArray⟩, .int .i64 k.2], .string ⟨dt.toArray⟩] w fun e w' =>
    ∃ g X' ME' Q1 clock' b, e = .returned (.pointer (some ⟨g, 0, none⟩)) ∧ CRep w' cb fb tb X' XF room left F (most : Int) ME' (Q1 ++ [⟨k, dt, 0, 0, g, b⟩]) clk clock' ∧ Q1.map CF.abs = lroom most (Q.map CF.abs) ∧ COrd Q1 clk ∧ (∀ j, X' j → X j ∨ w.heap.size ≤ j) ∧ Fr X w w' := by
  have HO := hide (fun W (hf : Fr (fun _ => False) w W) => cold2 (h.keep hf (fun _ _ h => h)) ho)
  have c1 : w.cell? ⟨cb, 1, none⟩ = some (.int .i64 (most : Int)) := (h.blk.cell 1).trans rfl
  have c2 : w.cell? ⟨cb, 2, none⟩ = some (.map (some tb)) := (h.blk.cell 2).trans rfl
  have HC := hide (fun W (hS : Fr (fun _ => False) w W) => (⟨hS.cell c1 id, hS.cell c2 id, fun ty => by rw [← h.len]; exact len_ok (P := Tryz.prog) mapc (h.map.fr hS id) ty⟩ : W.cell? ⟨cb, 1, none⟩ = some (.int .i64 (most : Int)) ∧ W.cell? ⟨cb, 2, none⟩ = some (.map (some tb)) ∧ ∀ ty, (Builtin.len_ #[59] ty #[.map (some tb)]).run Tryz.prog W = .ok (.int .i64 (Q.length : Int)) W))
  have HH := hide h
  have HOR := hide ho
  have HK := hide hk
  clear h c1 c2 ho hk
  have HQL : Hid ((Q.map CF.abs).length = Q.length) := List.length_map _
  obtain ⟨n, hn⟩ : ∃ n, Q.length = n := ⟨_, rfl⟩
  rw [hn] at HC HQL
  clear hn
  go_enter Tryz.func85, Tryz.ntmps85
  go_wp2_with fail
  obtain ⟨W3, hW3⟩ : ∃ W3, W3 = w.alloc (.cells #[.string ⟨k.1.toArray⟩, .int .i64 k.2] 139) := ⟨_, rfl⟩
  rw [← hW3]
  have HF3 := hide (show Fr (fun _ => False) w W3 by rw [hW3]; exact (Fr.refl _ _).alloc _)
  have HKB : Hid (Blk W3 w.heap.size 139 (kcells k)) := by rw [hW3]; exact Blk.new w 139 _
  clear hW3
  by_cases hm : most ≤ n
  · have b0 : decide ((n : Int) ≥ (most : Int)) = true := by simp; omega
    have b1 : decide ((most : Int) ≤ (n : Int)) = true := by simp; omega
    refine wp_region_reads (fun W => Fr (fun _ => False) W3 W) (by kernel_rfl) (by kernel_rfl) (Fr.refl _ _).drew ?_
    iterate 10
      refine readsY_cons ?_ ?_ (fun W hS => ?_) ?_
      · rfl
      rotate_left
      · (obtain ⟨s1, s2, s3⟩ := HC.out W (HF3.out.then_ hS); go_simp; try with_reducible rfl)
      simp only [List.getElem_toArray, List.getElem_cons_zero, List.getElem_cons_succ, Act.put, List.setIfInBounds_toArray, List.set_cons_zero, List.set_cons_succ, b0, b1]
    simp only [wpReadsY]
    refine NoPanic.normal ?_
    go_wp2_with fail
    go_at_call 130
    refine (HO.out _ HF3.out.drew).mono ?_
    rintro e w4 ⟨ok, rfl, hf4, hold⟩
    have HF4 := hide (HF3.out.drew.then_ hf4)
    have HKB4 := hide (HKB.out.drew.fr hf4 id)
    have HOLD := hide hold
    clear hf4 hold
    cases hq : qold Q with
    | none =>
      go_wp2_with fail
      obtain ⟨W5, hW5⟩ : ∃ W5, W5 = w4.alloc (.cells #[.string ⟨ok.1.toArray⟩, .int .i64 ok.2] 139) := ⟨_, rfl⟩
      rw [← hW5]
      have F45 : Fr (fun _ => False) w4 W5 := by rw [hW5]; exact (Fr.refl _ _).alloc _
      have HSZ := hide (show W5.heap.size = w4.heap.size + 1 by rw [hW5]; simp)
      have HF5 := hide ((HF4.out.then_ F45).mono (S' := X) (fun _ h => h.elim))
      have HKB5 := hide (HKB4.out.fr F45 id)
      have HR5 := hide (HH.out.keep (HF4.out.then_ F45) (fun _ _ h => h))
      clear hW5 F45
      go_wp2_with fail
      have hsz := HSZ.out
      rw [← hsz]
      obtain ⟨g, hg⟩ : ∃ g, W5.heap.size = g := ⟨_, rfl⟩
      try rw [hg]
      obtain ⟨W8, hW8⟩ : ∃ W8, W8 = W5.alloc (.cells #[.string ⟨dt.toArray⟩, .int .i64 0, .int .i64 0] 132) := ⟨_, rfl⟩
      rw [← hW8]
      have F8 : Fr (fun _ => False) W5 W8 := by rw [hW8]; exact (Fr.refl _ _).alloc _
      have HF8 := hide F8
      have HB8 : Hid (Blk W8 g 132 #[strv dt, .int .i64 ((0 : Nat) : Int), .int .i64 0]) := by rw [hW8, ← hg]; exact Blk.new W5 132 _
      have k0 : W8.cell? ⟨w.heap.size, 0, none⟩ = some (.string ⟨k.1.toArray⟩) := (((HKB5.out.fr F8 id)).cell 0).trans rfl
      have k1 : W8.cell? ⟨w.heap.size, 1, none⟩ = some (.int .i64 k.2) := (((HKB5.out.fr F8 id)).cell 1).trans rfl
      have k2 : W8.cell? ⟨cb, 2, none⟩ = some (.map (some tb)) := (((HR5.out.blk.fr F8 id)).cell 2).trans rfl
      have HK8 := hide (fun W (hS : Fr (fun _ => False) W8 W) => (⟨hS.cell k0 id, hS.cell k1 id, hS.cell k2 id⟩ : W.cell? ⟨w.heap.size, 0, none⟩ = some (.string ⟨k.1.toArray⟩) ∧ W.cell? ⟨w.heap.size, 1, none⟩ = some (.int .i64 k.2) ∧ W.cell? ⟨cb, 2, none⟩ = some (.map (some tb))))
      have HG := hide hg
      clear hW8 F8 hg k0 k1 k2
      refine wp_region_phased 6 0 0 (fun W => Fr (fun _ => False) W8 W) (by kernel_rfl) (by kernel_rfl) (Fr.refl _ _).drew ?_
      simp only [List.take_succ_cons, List.take_zero, List.drop_succ_cons, List.drop_zero]
      iterate 6
        refine wpReads_cons rfl ?_ (fun W hS => ?_) ?_
        rotate_left
        · (obtain ⟨s1, s2, s3⟩ := HK8.out W hS; go_simp; try with_reducible rfl)
        simp only [Act.put, List.setIfInBounds_toArray, List.set_cons_zero, List.set_cons_succ]
      refine (show wpMid _ _ _ _ _ _ _ _ from ?_)
      simp only [wpMid]
      obtain ⟨W9, hW9⟩ : ∃ W9, W9 = W8.drew := ⟨_, rfl⟩
      rw [← hW9]
      have F9 := HF8.out.drew
      rw [← hW9] at F9
      have hup : (Instr.mapUpdate 59 (.map (some tb)) (.agg #[.string ⟨k.1.toArray⟩, .int .i64 k.2]) (.pointer (some ⟨g, 0, none⟩))).run Tryz.prog W9 = .ok () (setBlock W9 tb (.map ((aput k (ptr g) ME clock).map (ent ckey)).toArray (aclk k ME clock))) := update_ok (P := Tryz.prog) key_ck mapc (HR5.out.map.fr F9 id) k (ptr g)
      have HR9 := hide (HR5.out.add F9 (g := g) ⟨k, dt, 0, 0, g, clock⟩ rfl rfl (by rw [← HG.out]; exact Nat.le_refl _) (by have := HB8.out.drew; rw [← hW9] at this; exact this) HK.out)
      have HF9 := hide ((HF5.out.trans F9 (fun _ h => h.elim)).trans (fr_setBlock W9 tb (.map ((aput k (ptr g) ME clock).map (ent ckey)).toArray (aclk k ME clock))) (fun j hj => .inl (by rw [hj]; exact HR5.out.xt)))
      have HGE := hide (show w.heap.size ≤ g by rw [← HG.out]; exact HF5.out.size)
      clear hW9 F9
      go_wp2
      refine NoPanic.normal ?_
      go_wp2
      go_ret
      refine ⟨g, _, _, Q, _, clock, rfl, HR9.out, by unfold lroom; rw [HQL.out, if_pos hm, old_qold, hq]; rfl, HOR.out, fun j hj => ?_, HF9.out⟩
      rcases hj with hj | hj
      · exact .inl hj
      · rw [hj]; exact .inr HGE.out
    | some r =>
      have hkr := HOLD.out r hq
      have hrm : r ∈ Q := List.mem_of_find?_eq_some hq
      subst hkr
      go_wp2_with fail
      obtain ⟨nb, hnb⟩ : ∃ nb, w4.heap.size = nb := ⟨_, rfl⟩
      rw [hnb]
      obtain ⟨W5, hW5⟩ : ∃ W5, W5 = w4.alloc (.cells #[.string ⟨r.key.1.toArray⟩, .int .i64 r.key.2] 139) := ⟨_, rfl⟩
      rw [← hW5]
      have F45 : Fr (fun _ => False) w4 W5 := by rw [hW5]; exact (Fr.refl _ _).alloc _
      have HF5 := hide (HF4.out.then_ F45)
      have HKB5 := hide (HKB4.out.fr F45 id)
      have HR5 := hide (HH.out.keep (HF4.out.then_ F45) (fun _ _ h => h))
      have HBN : Hid (Blk W5 nb 139 (kcells r.key)) := by rw [hW5, ← hnb]; exact Blk.new w4 139 _
      have n0 : W5.cell? ⟨nb, 0, none⟩ = some (.string ⟨r.key.1.toArray⟩) := (HBN.out.cell 0).trans rfl
      have n1 : W5.cell? ⟨nb, 1, none⟩ = some (.int .i64 r.key.2) := (HBN.out.cell 1).trans rfl
      have HNT := hide (show nb ≠ tb by rw [← hnb]; have h1 := HH.out.lt tb HH.out.xt; have h2 := HF4.out.size; omega)
      clear hW5 F45 hnb
      have HND : Hid (cb ≠ tb ∧ nb ≠ tb) := ⟨HH.out.ne, HNT.out⟩
      have c2w : W5.cell? ⟨cb, 2, none⟩ = some (.map (some tb)) := (HR5.out.blk.cell 2).trans rfl
      have HS5 := hide (fun W (hS : Fr (fun j => j = tb) W5 W) => (⟨hS.cell c2w HND.out.1, hS.cell n0 HND.out.2, hS.cell n1 HND.out.2⟩ : W.cell? ⟨cb, 2, none⟩ = some (.map (some tb)) ∧ W.cell? ⟨nb, 0, none⟩ = some (.string ⟨r.key.1.toArray⟩) ∧ W.cell? ⟨nb, 1, none⟩ = some (.int .i64 r.key.2)))
      clear c2w n0 n1
      refine wp_region_ord [(0, true), (1, true), (2, true), (3, true), (4, true), (5, false)] (fun W => W.cell? ⟨cb, 2, none⟩ = some (.map (some tb)) ∧ W.cell? ⟨nb, 0, none⟩ = some (.string ⟨r.key.1.toArray⟩) ∧ W.cell? ⟨nb, 1, none⟩ = some (.int .i64 r.key.2)) (by kernel_rfl) (by kernel_rfl) (HS5.out _ (Fr.refl _ _).drew) ?_
      iterate 5
        refine ord_read rfl ?_ ?_ (fun W hS => ?_) ?_
        · rfl
        rotate_left
        · (obtain ⟨s0, s1, s2⟩ := hS; go_simp; try with_reducible rfl)
        simp only [List.getElem_toArray, List.getElem_cons_zero, List.getElem_cons_succ, Act.put, List.setIfInBounds_toArray, List.set_cons_zero, List.set_cons_succ]
      refine ord_act rfl ?_
      obtain ⟨W6, hW6⟩ : ∃ W6, W6 = W5.drew := ⟨_, rfl⟩
      rw [← hW6]
      have F56 : Fr (fun _ => False) W5 W6 := by rw [hW6]; exact (Fr.refl _ _).drew
      have hd : ∀ ty, (Builtin.delete_ #[59, 139] ty #[.map (some tb), .agg #[.string ⟨r.key.1.toArray⟩, .int .i64 r.key.2]]).run Tryz.prog W6 = .ok (.tuple #[]) (setBlock W6 tb (.map ((adel r.key ME).map (ent ckey)).toArray clock)) := fun ty => delete_ok (P := Tryz.prog) key_ck mapc (HR5.out.map.fr F56 id) r.key ty
      have HR6 := hide ((HR5.out.keep F56 (fun _ _ h => h)).del r.key)
      have hfs := fr_setBlock W6 tb (.map ((adel r.key ME).map (ent ckey)).toArray clock)
      have HF6 := hide (((HF5.out.then_ F56).mono (S' := X) (fun _ h => h.elim)).trans hfs (fun j hj => .inl (by rw [hj]; exact HH.out.xt)))
      have hlt := HH.out.lt tb HH.out.xt
      have HKB6 := hide ((HKB5.out.fr F56 id).fr hfs (by omega))
      have HS6 := HS5.out _ ((F56.mono (S' := fun j => j = tb) (fun _ h => h.elim)).trans hfs (fun j hj => .inl hj))
      clear hW6 F56 hfs hlt
      go_wp2
      refine midQ_ok HS6 ?_
      refine ord_done ?_
      refine NoPanic.normal ?_
      go_wp2_with fail
      obtain ⟨W7, hW7⟩ : ∃ W7, W7 = setBlock W6 tb (.map ((adel r.key ME).map (ent ckey)).toArray clock) := ⟨_, rfl⟩
      rw [← hW7] at HR6 HF6 HKB6 ⊢
      clear hW7 hd
      obtain ⟨g, hg⟩ : ∃ g, W7.heap.size = g := ⟨_, rfl⟩
      try rw [hg]
      obtain ⟨W8, hW8⟩ : ∃ W8, W8 = W7.alloc (.cells #[.string ⟨dt.toArray⟩, .int .i64 0, .int .i64 0] 132) := ⟨_, rfl⟩
      rw [← hW8]
      have F8 : Fr (fun _ => False) W7 W8 := by rw [hW8]; exact (Fr.refl _ _).alloc _
      have HF8 := hide F8
      have HB8 : Hid (Blk W8 g 132 #[strv dt, .int .i64 ((0 : Nat) : Int), .int .i64 0]) := by rw [hW8, ← hg]; exact Blk.new W7 132 _
      have k0 : W8.cell? ⟨w.heap.size, 0, none⟩ = some (.string ⟨k.1.toArray⟩) := (((HKB6.out.fr F8 id)).cell 0).trans rfl
      have k1 : W8.cell? ⟨w.heap.size, 1, none⟩ = some (.int .i64 k.2) := (((HKB6.out.fr F8 id)).cell 1).trans rfl
      have k2 : W8.cell? ⟨cb, 2, none⟩ = some (.map (some tb)) := (((HR6.out.blk.fr F8 id)).cell 2).trans rfl
      have HK8 := hide (fun W (hS : Fr (fun _ => False) W8 W) => (⟨hS.cell k0 id, hS.cell k1 id, hS.cell k2 id⟩ : W.cell? ⟨w.heap.size, 0, none⟩ = some (.string ⟨k.1.toArray⟩) ∧ W.cell? ⟨w.heap.size, 1, none⟩ = some (.int .i64 k.2) ∧ W.cell? ⟨cb, 2, none⟩ = some (.map (some tb))))
      have HG := hide hg
      clear hW8 F8 hg k0 k1 k2
      refine wp_region_phased 6 0 0 (fun W => Fr (fun _ => False) W8 W) (by kernel_rfl) (by kernel_rfl) (Fr.refl _ _).drew ?_
      simp only [List.take_succ_cons, List.take_zero, List.drop_succ_cons, List.drop_zero]
      iterate 6
        refine wpReads_cons rfl ?_ (fun W hS => ?_) ?_
        rotate_left
        · (obtain ⟨s1, s2, s3⟩ := HK8.out W hS; go_simp; try with_reducible rfl)
        simp only [Act.put, List.setIfInBounds_toArray, List.set_cons_zero, List.set_cons_succ]
      refine (show wpMid _ _ _ _ _ _ _ _ from ?_)
      simp only [wpMid]
      obtain ⟨W9, hW9⟩ : ∃ W9, W9 = W8.drew := ⟨_, rfl⟩
      rw [← hW9]
      have F9 := HF8.out.drew
      rw [← hW9] at F9
      have hup : (Instr.mapUpdate 59 (.map (some tb)) (.agg #[.string ⟨k.1.toArray⟩, .int .i64 k.2]) (.pointer (some ⟨g, 0, none⟩))).run Tryz.prog W9 = .ok () (setBlock W9 tb (.map ((aput k (ptr g) (adel r.key ME) clock).map (ent ckey)).toArray (aclk k (adel r.key ME) clock))) := update_ok (P := Tryz.prog) key_ck mapc (HR6.out.map.fr F9 id) k (ptr g)
      have HR9 := hide (HR6.out.add F9 (g := g) ⟨k, dt, 0, 0, g, clock⟩ rfl rfl (by rw [← HG.out]; exact Nat.le_refl _) (by have := HB8.out.drew; rw [← hW9] at this; exact this) (fun y hy => HK.out y (List.mem_filter.1 hy).1))
      have HF9 := hide ((HF6.out.trans F9 (fun _ h => h.elim)).trans (fr_setBlock W9 tb (.map ((aput k (ptr g) (adel r.key ME) clock).map (ent ckey)).toArray (aclk k (adel r.key ME) clock))) (fun j hj => .inl (by rw [hj]; exact HR6.out.xt)))
      have HGE := hide (show w.heap.size ≤ g by rw [← HG.out]; exact HF6.out.size)
      clear hW9 F9
      go_wp2
      refine NoPanic.normal ?_
      go_wp2
      go_ret
      refine ⟨g, _, _, (Q.filter fun x => decide (x.key ≠ r.key)), _, clock, rfl, HR9.out, by unfold lroom; rw [HQL.out, if_pos hm, old_qold, hq]; exact (abs_wo Q r.key).symm, HOR.out.wo _, fun j hj => ?_, HF9.out⟩
      rcases hj with hj | hj
      · exact .inl hj
      · rw [hj]; exact .inr HGE.out
  · have b0 : decide ((n : Int) ≥ (most : Int)) = false := by simp; omega
    have b1 : decide ((most : Int) ≤ (n : Int)) = false := by simp; omega
    refine wp_region_reads (fun W => Fr (fun _ => False) W3 W) (by kernel_rfl) (by kernel_rfl) (Fr.refl _ _).drew ?_
    iterate 10
      refine readsY_cons ?_ ?_ (fun W hS => ?_) ?_
      · rfl
      rotate_left
      · (obtain ⟨s1, s2, s3⟩ := HC.out W (HF3.out.then_ hS); go_simp; try with_reducible rfl)
      simp only [List.getElem_toArray, List.getElem_cons_zero, List.getElem_cons_succ, Act.put, List.setIfInBounds_toArray, List.set_cons_zero, List.set_cons_succ, b0, b1]
    simp only [wpReadsY]
    refine NoPanic.normal ?_
    obtain ⟨W5, hW5⟩ : ∃ W5, W5 = W3.drew := ⟨_, rfl⟩
    rw [← hW5]
    have HF5 := hide (show Fr X w W5 by rw [hW5]; exact (HF3.out.drew.mono (fun _ h => h.elim)))
    have HKB5 := hide (show Blk W5 w.heap.size 139 (kcells k) by rw [hW5]; exact HKB.out.drew)
    have HR5 := hide (show CRep W5 cb fb tb X XF room left F (most : Int) ME Q clk clock by rw [hW5]; exact HH.out.keep HF3.out.drew (fun _ _ h => h))
    clear hW5
    go_wp2_with fail
    obtain ⟨g, hg⟩ : ∃ g, W5.heap.size = g := ⟨_, rfl⟩
    try rw [hg]
    obtain ⟨W8, hW8⟩ : ∃ W8, W8 = W5.alloc (.cells #[.string ⟨dt.toArray⟩, .int .i64 0, .int .i64 0] 132) := ⟨_, rfl⟩
    rw [← hW8]
    have F8 : Fr (fun _ => False) W5 W8 := by rw [hW8]; exact (Fr.refl _ _).alloc _
    have HF8 := hide F8
    have HB8 : Hid (Blk W8 g 132 #[strv dt, .int .i64 ((0 : Nat) : Int), .int .i64 0]) := by rw [hW8, ← hg]; exact Blk.new W5 132 _
    have k0 : W8.cell? ⟨w.heap.size, 0, none⟩ = some (.string ⟨k.1.toArray⟩) := (((HKB5.out.fr F8 id)).cell 0).trans rfl
    have k1 : W8.cell? ⟨w.heap.size, 1, none⟩ = some (.int .i64 k.2) := (((HKB5.out.fr F8 id)).cell 1).trans rfl
    have k2 : W8.cell? ⟨cb, 2, none⟩ = some (.map (some tb)) := (((HR5.out.blk.fr F8 id)).cell 2).trans rfl
    have HK8 := hide (fun W (hS : Fr (fun _ => False) W8 W) => (⟨hS.cell k0 id, hS.cell k1 id, hS.cell k2 id⟩ : W.cell? ⟨w.heap.size, 0, none⟩ = some (.string ⟨k.1.toArray⟩) ∧ W.cell? ⟨w.heap.size, 1, none⟩ = some (.int .i64 k.2) ∧ W.cell? ⟨cb, 2, none⟩ = some (.map (some tb))))
    have HG := hide hg
    clear hW8 F8 hg k0 k1 k2
    refine wp_region_phased 6 0 0 (fun W => Fr (fun _ => False) W8 W) (by kernel_rfl) (by kernel_rfl) (Fr.refl _ _).drew ?_
    simp only [List.take_succ_cons, List.take_zero, List.drop_succ_cons, List.drop_zero]
    iterate 6
      refine wpReads_cons rfl ?_ (fun W hS => ?_) ?_
      rotate_left
      · (obtain ⟨s1, s2, s3⟩ := HK8.out W hS; go_simp; try with_reducible rfl)
      simp only [Act.put, List.setIfInBounds_toArray, List.set_cons_zero, List.set_cons_succ]
    refine (show wpMid _ _ _ _ _ _ _ _ from ?_)
    simp only [wpMid]
    obtain ⟨W9, hW9⟩ : ∃ W9, W9 = W8.drew := ⟨_, rfl⟩
    rw [← hW9]
    have F9 := HF8.out.drew
    rw [← hW9] at F9
    have hup : (Instr.mapUpdate 59 (.map (some tb)) (.agg #[.string ⟨k.1.toArray⟩, .int .i64 k.2]) (.pointer (some ⟨g, 0, none⟩))).run Tryz.prog W9 = .ok () (setBlock W9 tb (.map ((aput k (ptr g) ME clock).map (ent ckey)).toArray (aclk k ME clock))) := update_ok (P := Tryz.prog) key_ck mapc (HR5.out.map.fr F9 id) k (ptr g)
    have HR9 := hide (HR5.out.add F9 (g := g) ⟨k, dt, 0, 0, g, clock⟩ rfl rfl (by rw [← HG.out]; exact Nat.le_refl _) (by have := HB8.out.drew; rw [← hW9] at this; exact this) HK.out)
    have HF9 := hide ((HF5.out.trans F9 (fun _ h => h.elim)).trans (fr_setBlock W9 tb (.map ((aput k (ptr g) ME clock).map (ent ckey)).toArray (aclk k ME clock))) (fun j hj => .inl (by rw [hj]; exact HR5.out.xt)))
    have HGE := hide (show w.heap.size ≤ g by rw [← HG.out]; exact HF5.out.size)
    clear hW9 F9
    go_wp2
    refine NoPanic.normal ?_
    go_wp2
    go_ret
    refine ⟨g, _, _, Q, _, clock, rfl, HR9.out, by unfold lroom; rw [HQL.out, if_neg hm], HOR.out, fun j hj => ?_, HF9.out⟩
    rcases hj with hj | hj
    · exact .inl hj
    · rw [hj]; exact .inr HGE.out
end
end Go.Proofs.YtkhbemmcegmdaaaGreatDoor
