/- Parts of the proof of several laws: no conditions of their own. -/
import Derived.Test.YtkhbemmcegmdaaaGreatDoorWhPk12
import Derived.Test.YtkhbemmcegmdaaaGreatDoorWhPk9
import Derived.Test.YtkhbemmcegmdaaaGreatDoorWhPk10
import Derived.Test.YtkhbemmcegmdaaaGreatDoorWhPk5
section
set_option linter.all false
set_option linter.unusedVariables false
set_option maxRecDepth 100000
namespace Go.Proofs.YtkhbemmcegmdaaaGreatDoor
open Go.RowKit
open Go.ChangeMaps (setBlock)

theorem luse_lmap {k : CKey} {f : CE → CE} (hf : ∀ x, (f x).key = x.key) (L : List CE) : luse k id (lmap k f L) = luse k f L := by
  unfold luse lwo lmap
  congr 1
  · induction L with
    | nil => rfl
    | cons x L ih =>
      rw [List.map_cons]
      by_cases h : x.key = k
      · rw [if_pos h, List.filter_cons_of_neg (by simp [hf, h]), List.filter_cons_of_neg (by simp [h]), ih]
      · rw [if_neg h, List.filter_cons_of_pos (by simp [h]), List.filter_cons_of_pos (by simp [h]), ih]
  · induction L with
    | nil => rfl
    | cons x L ih =>
      rw [List.map_cons]
      by_cases h : x.key = k
      · rw [if_pos h, List.filter_cons_of_pos (by simp [hf, h]), List.filter_cons_of_pos (by simp [h]), List.map_cons, List.map_cons, ih]
        rfl
      · rw [if_neg h, List.filter_cons_of_neg (by simp [h]), List.filter_cons_of_neg (by simp [h]), ih]
theorem fsput_err {room : Int} {F : FileL} {n : Name} {i : Int} {p : List UInt8} (h : (fsput room F n i p).1 ≠ 0) : (fsput room F n i p).2 = F := by
  unfold fsput at h ⊢
  split at h
  · next hb => rw [if_pos hb]
  · next hb =>
    rw [if_neg hb]
    split at h
    · exact absurd rfl h
    · next hi =>
      rw [if_neg hi]
      split at h
      · next ht => rw [if_pos ht]
      · exact absurd rfl h
section
variable {w w1 : World} {cb fb tb clock most : Nat} {X X1 XF : Nat → Prop} {room left clk : Int} {F : FileL} {ME : List (Ent CKey)} {Q : List CF} {s : CSt}
theorem CAtQ.use (h : CAtQ w cb fb X room most s tb X1 XF ME Q clock) {x : CF} (hx : x ∈ Q) : CAt ((w.setCell ⟨cb, 3, none⟩ (.int .i64 ((s.clk : Int) + 1))).setCell ⟨x.blk, 2, none⟩ (.int .i64 ((s.clk : Int) + 1))) cb fb X room most { s with L := luse x.key id s.L, clk := s.clk + 1 } := by
  obtain ⟨r1, r2, r3⟩ := use_rep h.rep hx (h.ord.wo _)
  exact ⟨tb, X1, XF, ME, _, clock, r1, r2, by rw [r3, h.abs], h.x1, h.xf, h.xs⟩
theorem cput_long (h : CAt w cb fb X room most s) (hI : CInv room most s) (k : CKey) (dt : List UInt8) (hc : s.clk + 1 ≤ 9223372036854775806) (hkn : k.1.length ≤ 9223372036854775807) (hd : 122 < dt.length) (hd2 : dt.length ≤ 9223372036854775807) : Calls Tryz.prog 38 #[.pointer (some ⟨cb, 0, none⟩), .string ⟨k.1.toArray⟩, .int .i64 k.2, .string ⟨dt.toArray⟩] w fun e w' => e = .returned (.int .i64 (cput room most k dt s).1) ∧ (∃ X', CAt w' cb fb X' room most (cput room most k dt s).2 ∧ ∀ j, X' j → X j ∨ w.heap.size ≤ j) ∧ Fr X w w' := by
  have HA := hide h
  have HN := hide (cnone_ok h)
  have HE := hide (fun w => pg_enc_long ⟨dt.toArray⟩ (by show 122 < dt.toArray.size; simpa using hd) w)
  have HR : Hid (cput room most k dt s = (3, s)) := by
    show cput room most k dt s = _
    unfold cput
    rw [if_pos hd]
  rw [HR.out]
  clear h hI HR
  go_enter Tryz.func38, Tryz.ntmps38
  go_wp2_with fail
  go_at_call 61
  refine HN.out.mono ?_
  rintro e w1 ⟨rfl, rfl⟩
  go_wp2_with fail
  go_at_call 17
  refine (HE.out _).mono ?_
  rintro e w2 ⟨rfl, rfl⟩
  go_wp2
  go_ret
  exact ⟨rfl, ⟨X, HA.out, fun j hj => .inl hj⟩, Fr.refl _ _⟩
theorem cput_there (h : CAt w cb fb X room most s) (hI : CInv room most s) (k : CKey) (dt : List UInt8) (hc : s.clk + 1 ≤ 9223372036854775806) (hkn : k.1.length ≤ 9223372036854775807) (hd : dt.length ≤ 122) {y : CE} (hy : lget k s.L = some y) : Calls Tryz.prog 38 #[.pointer (some ⟨cb, 0, none⟩), .string ⟨k.1.toArray⟩, .int .i64 k.2, .string ⟨dt.toArray⟩] w fun e w' => e = .returned (.int .i64 (cput room most k dt s).1) ∧ (∃ X', CAt w' cb fb X' room most (cput room most k dt s).2 ∧ ∀ j, X' j → X j ∨ w.heap.size ≤ j) ∧ Fr X w w' := by
  have HN := hide (cnone_ok h)
  obtain ⟨tb, X1, XF, ME, Q, clock, h⟩ := h.q
  have HQ := hide h
  have e0 : ((⟨dt.toArray⟩ : ByteArray)).data.toList = dt := by simp
  have HE := hide (fun w => pg_enc ⟨dt.toArray⟩ (by show dt.toArray.size ≤ 122; simpa using hd) w)
  rw [e0] at HE
  have HPL : Hid ((encB dt).length = 128) := encB_len hd
  have HP := hide (fun W (hf : Fr (fun _ => False) w W) => fput_any (h.rep.fs.up hf) hI.fs k.1 k.2 (encB dt) hkn (by rw [HPL.out]; omega))
  have HERR : Hid ((fsput room s.F k.1 k.2 (encB dt)).1 ≠ 0 → (fsput room s.F k.1 k.2 (encB dt)).2 = s.F) := fsput_err
  obtain ⟨r, hr⟩ : ∃ r, fsput room s.F k.1 k.2 (encB dt) = r := ⟨_, rfl⟩
  have hgx : ∃ x ∈ Q, x.key = k := by
    rcases key_cases Q k with h1 | h1
    · exact h1
    · rw [← h.abs, abs_find, List.find?_eq_none.2 (by simpa using h1)] at hy
      cases hy
  obtain ⟨x, hx, hxk⟩ := hgx
  have hg : aget k ME = some (ptr x.blk) := by rw [← hxk]; exact h.rep.get_some hx
  have HX := hide (And.intro hx hxk)
  rw [hr] at HP HERR
  by_cases hz : r.1 = 0
  · have HRR : Hid (cput room most k dt s = (0, { s with F := r.2, L := luse k (fun x => { x with data := dt }) s.L, clk := s.clk + 1 })) := by
      show cput room most k dt s = _
      unfold cput
      rw [if_neg (by omega), hy, hr, if_neg (by simp), if_neg (by simpa using hz), if_pos (by rfl)]
    rw [hz] at HP
    clear h hI hr hz hx hxk
    go_enter Tryz.func38, Tryz.ntmps38
    go_wp2_with fail
    go_at_call 61
    refine HN.out.mono ?_
    rintro e w1 ⟨rfl, rfl⟩
    go_wp2_with fail
    go_at_call 17
    refine (HE.out _).mono ?_
    rintro e W2 ⟨rfl, hf2⟩
    have HF2 := hide hf2
    clear hf2
    go_wp2_with fail
    obtain ⟨kb, hkb⟩ : ∃ kb, W2.heap.size = kb := ⟨_, rfl⟩
    rw [hkb]
    obtain ⟨W3, hW3⟩ : ∃ W3, W3 = W2.alloc (.cells #[.string ⟨k.1.toArray⟩, .int .i64 k.2] 139) := ⟨_, rfl⟩
    rw [← hW3]
    have HF3 := hide (show Fr (fun _ => False) w W3 by rw [hW3]; exact HF2.out.alloc _)
    have HKB : Hid (Blk W3 kb 139 (kcells k)) := by rw [hW3, ← hkb]; exact Blk.new W2 139 _
    have HKG := hide (show w.heap.size ≤ kb by rw [← hkb]; exact HF2.out.size)
    clear hW3 hkb
    have HLK := hide (fun W (hS : Fr (fun _ => False) W3 W) => (⟨(HKB.out.fr hS id).cell 0 |>.trans rfl, (HKB.out.fr hS id).cell 1 |>.trans rfl, ((HQ.out.rep.blk.fr (HF3.out.then_ hS) id).cell 2).trans rfl, by
        have := lookup_ok (P := Tryz.prog) key_ck mapc framep_zero (HQ.out.rep.map.fr (HF3.out.then_ hS) id) k
        rw [hg] at this
        exact this⟩ : W.cell? ⟨kb, 0, none⟩ = some (.string ⟨k.1.toArray⟩) ∧ W.cell? ⟨kb, 1, none⟩ = some (.int .i64 k.2) ∧ W.cell? ⟨cb, 2, none⟩ = some (.map (some tb)) ∧ (Instr.lookup 59 (.map (some tb)) (.agg #[.string ⟨k.1.toArray⟩, .int .i64 k.2]) true).run Tryz.prog W = .ok (.tuple #[.pointer (some ⟨x.blk, 0, none⟩), .bool true]) W))
    refine wp_region_reads (fun W => Fr (fun _ => False) W3 W) (by kernel_rfl) (by kernel_rfl) (Fr.refl _ _).drew ?_
    iterate 11
      refine readsY_cons ?_ ?_ (fun W hS => ?_) ?_
      · rfl
      rotate_left
      · (obtain ⟨s1, s2, s3, s4⟩ := HLK.out W hS; go_simp; try with_reducible rfl)
      simp only [List.getElem_toArray, List.getElem_cons_zero, List.getElem_cons_succ, Act.put, List.setIfInBounds_toArray, List.set_cons_zero, List.set_cons_succ]
    simp only [wpReadsY]
    refine NoPanic.normal ?_
    obtain ⟨W4, hW4⟩ : ∃ W4, W4 = W3.drew := ⟨_, rfl⟩
    rw [← hW4]
    have F34 : Fr (fun _ => False) W3 W4 := by rw [hW4]; exact (Fr.refl _ _).drew
    have HF4 := hide (HF3.out.then_ F34)
    have HKB4 := hide (HKB.out.fr F34 id)
    clear F34 hW4
    have f0 : W4.cell? ⟨cb, 0, none⟩ = some (.pointer (some ⟨fb, 0, none⟩)) := ((HQ.out.rep.blk.fr HF4.out id).cell 0).trans rfl
    go_wp2_with fail
    go_at_call 19
    refine (HP.out _ HF4.out).mono ?_
    rintro e W5 ⟨rfl, ⟨XF', hat, hx5⟩, hf5⟩
    have hsz4 := HF4.out.size
    have HR5 := hide ((HQ.out.rep.keep HF4.out (fun _ _ h => h)).fsop hf5 (fun _ h => h) hat hx5)
    have HF5 := hide ((HF4.out.mono (S' := X) (fun _ h => h.elim)).trans hf5 (fun _ h => .inl (HQ.out.xf _ h)))
    have HX5 := hide (show ∀ j, XF' j → X j ∨ w.heap.size ≤ j from fun j hj => by
      rcases hx5 j hj with h | h
      · exact .inl (HQ.out.xf _ h)
      · exact .inr (by omega))
    have HKB5 := hide (HKB4.out.fr hf5 (fun hx => by have := HQ.out.rep.fs.lt _ hx; have := HKG.out; omega))
    clear hat hx5 hf5 f0 hsz4
    have hfx := HR5.out.frm x HX.out.1
    have hzz : W5.frozen? ⟨x.blk, 0, none⟩ = false := hfx.1.frozen 0
    obtain ⟨W6, hW6⟩ : ∃ W6, W6 = W5.setCell ⟨x.blk, 0, none⟩ (.string ⟨dt.toArray⟩) := ⟨_, rfl⟩
    have hx0 : ∃ v, W5.cell? ⟨x.blk, 0, none⟩ = some v := ⟨_, (hfx.1.cell 0).trans rfl⟩
    obtain ⟨v0, hv0⟩ := hx0
    have hq6 : CAtQ W6 cb fb (fun j => X1 j ∨ XF' j) room most { s with F := r.2, L := lmap x.key (fun x => { x with data := dt }) s.L } tb X1 XF' ME (Q.map fun y => if y.key = x.key then { x with data := dt } else y) clock := by
      rw [hW6]
      exact CAtQ.turn (s := { s with F := r.2 }) ⟨HR5.out, HQ.out.ord, HQ.out.abs, fun j hj => .inl hj, fun j hj => .inr hj, fun j hj => hj⟩ HX.out.1 { x with data := dt } 0 (.string ⟨dt.toArray⟩) rfl rfl rfl rfl (by unfold CF.cells strv; simp) (fun x => { x with data := dt }) rfl
    have hxm : { x with data := dt } ∈ (Q.map fun y => if y.key = x.key then { x with data := dt } else y) := List.mem_map.2 ⟨x, HX.out.1, by rw [if_pos rfl]⟩
    have HU := hide (cuse_ok hq6.rep hxm (by omega) (by simp only; omega))
    have HC := hide (hq6.use hxm)
    have HF6 := hide (show Fr X w W6 by rw [hW6]; exact HF5.out.setCell (p := ⟨x.blk, 0, none⟩) (.inl (HQ.out.x1 _ hfx.2.1)) _)
    have HW6 := hide hW6
    clear hW6 hq6 hxm hfx
    go_wp2_with fail
    rw [← HW6.out]
    go_at_call 86
    refine HU.out.mono ?_
    rintro e W8 ⟨rfl, rfl⟩
    go_wp2
    go_ret
    rw [HRR.out]
    refine ⟨rfl, ⟨fun j => X1 j ∨ XF' j, ?_, fun j hj => hj.elim (fun hj => .inl (HQ.out.x1 _ hj)) (HX5.out j)⟩, ?_⟩
    · have := HC.out
      rw [HX.out.2, luse_lmap (k := k) (f := fun x => { x with data := dt }) (fun _ => rfl)] at this
      exact this
    · have hfx := (HQ.out.rep.frm x HX.out.1).2.1
      exact (HF6.out.setCell (p := ⟨cb, 3, none⟩) (.inl (HQ.out.x1 _ HQ.out.rep.xc)) _).setCell (p := ⟨x.blk, 2, none⟩) (.inl (HQ.out.x1 _ hfx)) _
  · have HRR : Hid (cput room most k dt s = (r.1, s)) := by
      show cput room most k dt s = _
      unfold cput
      rw [if_neg (by omega), hy, hr, if_neg (by simp), if_pos (by simpa using hz)]
    clear h hI hr hx hxk
    go_enter Tryz.func38, Tryz.ntmps38
    go_wp2_with fail
    go_at_call 61
    refine HN.out.mono ?_
    rintro e w1 ⟨rfl, rfl⟩
    go_wp2_with fail
    go_at_call 17
    refine (HE.out _).mono ?_
    rintro e W2 ⟨rfl, hf2⟩
    have HF2 := hide hf2
    clear hf2
    go_wp2_with fail
    obtain ⟨kb, hkb⟩ : ∃ kb, W2.heap.size = kb := ⟨_, rfl⟩
    rw [hkb]
    obtain ⟨W3, hW3⟩ : ∃ W3, W3 = W2.alloc (.cells #[.string ⟨k.1.toArray⟩, .int .i64 k.2] 139) := ⟨_, rfl⟩
    rw [← hW3]
    have HF3 := hide (show Fr (fun _ => False) w W3 by rw [hW3]; exact HF2.out.alloc _)
    have HKB : Hid (Blk W3 kb 139 (kcells k)) := by rw [hW3, ← hkb]; exact Blk.new W2 139 _
    have HKG := hide (show w.heap.size ≤ kb by rw [← hkb]; exact HF2.out.size)
    clear hW3 hkb
    have HLK := hide (fun W (hS : Fr (fun _ => False) W3 W) => (⟨(HKB.out.fr hS id).cell 0 |>.trans rfl, (HKB.out.fr hS id).cell 1 |>.trans rfl, ((HQ.out.rep.blk.fr (HF3.out.then_ hS) id).cell 2).trans rfl, by
        have := lookup_ok (P := Tryz.prog) key_ck mapc framep_zero (HQ.out.rep.map.fr (HF3.out.then_ hS) id) k
        rw [hg] at this
        exact this⟩ : W.cell? ⟨kb, 0, none⟩ = some (.string ⟨k.1.toArray⟩) ∧ W.cell? ⟨kb, 1, none⟩ = some (.int .i64 k.2) ∧ W.cell? ⟨cb, 2, none⟩ = some (.map (some tb)) ∧ (Instr.lookup 59 (.map (some tb)) (.agg #[.string ⟨k.1.toArray⟩, .int .i64 k.2]) true).run Tryz.prog W = .ok (.tuple #[.pointer (some ⟨x.blk, 0, none⟩), .bool true]) W))
    refine wp_region_reads (fun W => Fr (fun _ => False) W3 W) (by kernel_rfl) (by kernel_rfl) (Fr.refl _ _).drew ?_
    iterate 11
      refine readsY_cons ?_ ?_ (fun W hS => ?_) ?_
      · rfl
      rotate_left
      · (obtain ⟨s1, s2, s3, s4⟩ := HLK.out W hS; go_simp; try with_reducible rfl)
      simp only [List.getElem_toArray, List.getElem_cons_zero, List.getElem_cons_succ, Act.put, List.setIfInBounds_toArray, List.set_cons_zero, List.set_cons_succ]
    simp only [wpReadsY]
    refine NoPanic.normal ?_
    obtain ⟨W4, hW4⟩ : ∃ W4, W4 = W3.drew := ⟨_, rfl⟩
    rw [← hW4]
    have F34 : Fr (fun _ => False) W3 W4 := by rw [hW4]; exact (Fr.refl _ _).drew
    have HF4 := hide (HF3.out.then_ F34)
    have HKB4 := hide (HKB.out.fr F34 id)
    clear F34 hW4
    have f0 : W4.cell? ⟨cb, 0, none⟩ = some (.pointer (some ⟨fb, 0, none⟩)) := ((HQ.out.rep.blk.fr HF4.out id).cell 0).trans rfl
    go_wp2_with fail
    go_at_call 19
    refine (HP.out _ HF4.out).mono ?_
    rintro e W5 ⟨rfl, ⟨XF', hat, hx5⟩, hf5⟩
    have hsz4 := HF4.out.size
    have HR5 := hide ((HQ.out.rep.keep HF4.out (fun _ _ h => h)).fsop hf5 (fun _ h => h) hat hx5)
    have HF5 := hide ((HF4.out.mono (S' := X) (fun _ h => h.elim)).trans hf5 (fun _ h => .inl (HQ.out.xf _ h)))
    have HX5 := hide (show ∀ j, XF' j → X j ∨ w.heap.size ≤ j from fun j hj => by
      rcases hx5 j hj with h | h
      · exact .inl (HQ.out.xf _ h)
      · exact .inr (by omega))
    have HKB5 := hide (HKB4.out.fr hf5 (fun hx => by have := HQ.out.rep.fs.lt _ hx; have := HKG.out; omega))
    clear hat hx5 hf5 f0 hsz4
    have b0 : (r.1 == 0) = false := by simpa using hz
    have b1 : (r.1 != 0) = true := by simpa using hz
    go_wp2
    go_ret
    rw [HRR.out]
    refine ⟨rfl, ⟨fun j => X1 j ∨ XF' j, ⟨tb, X1, XF', ME, Q, clock, by have := HR5.out; rw [HERR.out hz] at this; exact this, HQ.out.ord, HQ.out.abs, fun j hj => .inl hj, fun j hj => .inr hj, fun j hj => hj⟩, fun j hj => hj.elim (fun hj => .inl (HQ.out.x1 _ hj)) (HX5.out j)⟩, HF5.out⟩
theorem cput_new (h : CAt w cb fb X room most s) (hI : CInv room most s) (k : CKey) (dt : List UInt8) (hc : s.clk + 1 ≤ 9223372036854775806) (hkn : k.1.length ≤ 9223372036854775807) (hd : dt.length ≤ 122) (hy : lget k s.L = none) : Calls Tryz.prog 38 #[.pointer (some ⟨cb, 0, none⟩), .string ⟨k.1.toArray⟩, .int .i64 k.2, .string ⟨dt.toArray⟩] w fun e w' => e = .returned (.int .i64 (cput room most k dt s).1) ∧ (∃ X', CAt w' cb fb X' room most (cput room most k dt s).2 ∧ ∀ j, X' j → X j ∨ w.heap.size ≤ j) ∧ Fr X w w' := by
  have HN := hide (cnone_ok h)
  obtain ⟨tb, X1, XF, ME, Q, clock, h⟩ := h.q
  have HQ := hide h
  have e0 : ((⟨dt.toArray⟩ : ByteArray)).data.toList = dt := by simp
  have HE := hide (fun w => pg_enc ⟨dt.toArray⟩ (by show dt.toArray.size ≤ 122; simpa using hd) w)
  rw [e0] at HE
  have HPL : Hid ((encB dt).length = 128) := encB_len hd
  have HP := hide (fun W (hf : Fr (fun _ => False) w W) => fput_any (h.rep.fs.up hf) hI.fs k.1 k.2 (encB dt) hkn (by rw [HPL.out]; omega))
  have HERR : Hid ((fsput room s.F k.1 k.2 (encB dt)).1 ≠ 0 → (fsput room s.F k.1 k.2 (encB dt)).2 = s.F) := fsput_err
  obtain ⟨r, hr⟩ : ∃ r, fsput room s.F k.1 k.2 (encB dt) = r := ⟨_, rfl⟩
  have hno : ∀ x ∈ Q, x.key ≠ k := fun x hx e => by
    have := get_none_iff.1 hy x.abs (by rw [← h.abs]; exact List.mem_map_of_mem hx)
    exact this e
  have hg := h.rep.get_none hno
  have HNO := hide hno
  have HFU := hide (fun W (hf : Fr (fun _ => False) w W) => cfull_ok (h.rep.keep hf (fun _ _ h => h)) h.ord)
  rw [h.abs] at HFU
  rw [hr] at HP HERR
  cases hf : lfull most s.L with
  | true =>
    have HRR : Hid (cput room most k dt s = (70, s)) := by
      show cput room most k dt s = _
      unfold cput
      rw [if_neg (by omega), hy, hf, if_pos (by rfl)]
    rw [hf] at HFU
    clear h hI hr hno
    go_enter Tryz.func38, Tryz.ntmps38
    go_wp2_with fail
    go_at_call 61
    refine HN.out.mono ?_
    rintro e w1 ⟨rfl, rfl⟩
    go_wp2_with fail
    go_at_call 17
    refine (HE.out _).mono ?_
    rintro e W2 ⟨rfl, hf2⟩
    have HF2 := hide hf2
    clear hf2
    go_wp2_with fail
    obtain ⟨kb, hkb⟩ : ∃ kb, W2.heap.size = kb := ⟨_, rfl⟩
    rw [hkb]
    obtain ⟨W3, hW3⟩ : ∃ W3, W3 = W2.alloc (.cells #[.string ⟨k.1.toArray⟩, .int .i64 k.2] 139) := ⟨_, rfl⟩
    rw [← hW3]
    have HF3 := hide (show Fr (fun _ => False) w W3 by rw [hW3]; exact HF2.out.alloc _)
    have HKB : Hid (Blk W3 kb 139 (kcells k)) := by rw [hW3, ← hkb]; exact Blk.new W2 139 _
    have HKG := hide (show w.heap.size ≤ kb by rw [← hkb]; exact HF2.out.size)
    clear hW3 hkb
    have HLK := hide (fun W (hS : Fr (fun _ => False) W3 W) => (⟨(HKB.out.fr hS id).cell 0 |>.trans rfl, (HKB.out.fr hS id).cell 1 |>.trans rfl, ((HQ.out.rep.blk.fr (HF3.out.then_ hS) id).cell 2).trans rfl, by
        have := lookup_ok (P := Tryz.prog) key_ck mapc framep_zero (HQ.out.rep.map.fr (HF3.out.then_ hS) id) k
        rw [hg] at this
        exact this⟩ : W.cell? ⟨kb, 0, none⟩ = some (.string ⟨k.1.toArray⟩) ∧ W.cell? ⟨kb, 1, none⟩ = some (.int .i64 k.2) ∧ W.cell? ⟨cb, 2, none⟩ = some (.map (some tb)) ∧ (Instr.lookup 59 (.map (some tb)) (.agg #[.string ⟨k.1.toArray⟩, .int .i64 k.2]) true).run Tryz.prog W = .ok (.tuple #[.pointer none, .bool false]) W))
    refine wp_region_reads (fun W => Fr (fun _ => False) W3 W) (by kernel_rfl) (by kernel_rfl) (Fr.refl _ _).drew ?_
    iterate 11
      refine readsY_cons ?_ ?_ (fun W hS => ?_) ?_
      · rfl
      rotate_left
      · (obtain ⟨s1, s2, s3, s4⟩ := HLK.out W hS; go_simp; try with_reducible rfl)
      simp only [List.getElem_toArray, List.getElem_cons_zero, List.getElem_cons_succ, Act.put, List.setIfInBounds_toArray, List.set_cons_zero, List.set_cons_succ]
    simp only [wpReadsY]
    refine NoPanic.normal ?_
    obtain ⟨W4, hW4⟩ : ∃ W4, W4 = W3.drew := ⟨_, rfl⟩
    rw [← hW4]
    have HF4 := hide (show Fr (fun _ => False) w W4 by rw [hW4]; exact HF3.out.drew)
    clear hW4
    go_wp2_with fail
    go_at_call 84
    refine (HFU.out _ HF4.out).mono ?_
    rintro e W5 ⟨rfl, hf5⟩
    have HF5 := hide (HF4.out.then_ hf5)
    clear hf5
    go_wp2
    go_ret
    rw [HRR.out]
    exact ⟨rfl, ⟨X, HQ.out.at.up HF5.out, fun j hj => .inl hj⟩, HF5.out.mono (fun _ h => h.elim)⟩
  | false =>
    rw [hf] at HFU
    by_cases hz : r.1 = 0
    · have HRR : Hid (cput room most k dt s = (0, { s with F := r.2, L := lroom most s.L ++ [⟨k, dt, 0⟩], clk := s.clk + 1 })) := by
        show cput room most k dt s = _
        unfold cput
        rw [if_neg (by omega), hy, hf, hr, if_neg (by simp), if_neg (by simpa using hz), if_neg (by simp)]
      rw [hz] at HP
      clear h hI hr hz hno
      go_enter Tryz.func38, Tryz.ntmps38
      go_wp2_with fail
      go_at_call 61
      refine HN.out.mono ?_
      rintro e w1 ⟨rfl, rfl⟩
      go_wp2_with fail
      go_at_call 17
      refine (HE.out _).mono ?_
      rintro e W2 ⟨rfl, hf2⟩
      have HF2 := hide hf2
      clear hf2
      go_wp2_with fail
      obtain ⟨kb, hkb⟩ : ∃ kb, W2.heap.size = kb := ⟨_, rfl⟩
      rw [hkb]
      obtain ⟨W3, hW3⟩ : ∃ W3, W3 = W2.alloc (.cells #[.string ⟨k.1.toArray⟩, .int .i64 k.2] 139) := ⟨_, rfl⟩
      rw [← hW3]
      have HF3 := hide (show Fr (fun _ => False) w W3 by rw [hW3]; exact HF2.out.alloc _)
      have HKB : Hid (Blk W3 kb 139 (kcells k)) := by rw [hW3, ← hkb]; exact Blk.new W2 139 _
      have HKG := hide (show w.heap.size ≤ kb by rw [← hkb]; exact HF2.out.size)
      clear hW3 hkb
      have HLK := hide (fun W (hS : Fr (fun _ => False) W3 W) => (⟨(HKB.out.fr hS id).cell 0 |>.trans rfl, (HKB.out.fr hS id).cell 1 |>.trans rfl, ((HQ.out.rep.blk.fr (HF3.out.then_ hS) id).cell 2).trans rfl, by
          have := lookup_ok (P := Tryz.prog) key_ck mapc framep_zero (HQ.out.rep.map.fr (HF3.out.then_ hS) id) k
          rw [hg] at this
          exact this⟩ : W.cell? ⟨kb, 0, none⟩ = some (.string ⟨k.1.toArray⟩) ∧ W.cell? ⟨kb, 1, none⟩ = some (.int .i64 k.2) ∧ W.cell? ⟨cb, 2, none⟩ = some (.map (some tb)) ∧ (Instr.lookup 59 (.map (some tb)) (.agg #[.string ⟨k.1.toArray⟩, .int .i64 k.2]) true).run Tryz.prog W = .ok (.tuple #[.pointer none, .bool false]) W))
      refine wp_region_reads (fun W => Fr (fun _ => False) W3 W) (by kernel_rfl) (by kernel_rfl) (Fr.refl _ _).drew ?_
      iterate 11
        refine readsY_cons ?_ ?_ (fun W hS => ?_) ?_
        · rfl
        rotate_left
        · (obtain ⟨s1, s2, s3, s4⟩ := HLK.out W hS; go_simp; try with_reducible rfl)
        simp only [List.getElem_toArray, List.getElem_cons_zero, List.getElem_cons_succ, Act.put, List.setIfInBounds_toArray, List.set_cons_zero, List.set_cons_succ]
      simp only [wpReadsY]
      refine NoPanic.normal ?_
      obtain ⟨W4a, hW4a⟩ : ∃ W4a, W4a = W3.drew := ⟨_, rfl⟩
      rw [← hW4a]
      have HFa := hide (show Fr (fun _ => False) W3 W4a by rw [hW4a]; exact (Fr.refl _ _).drew)
      clear hW4a
      go_wp2_with fail
      go_at_call 84
      refine (HFU.out _ (HF3.out.then_ HFa.out)).mono ?_
      rintro e W4f ⟨rfl, hf4⟩
      have HFf := hide (HFa.out.then_ hf4)
      clear hf4
      have f0 : W4f.cell? ⟨cb, 0, none⟩ = some (.pointer (some ⟨fb, 0, none⟩)) := ((HQ.out.rep.blk.fr (HF3.out.then_ HFf.out) id).cell 0).trans rfl
      obtain ⟨W4, hW4⟩ : ∃ W4, W4 = W4f := ⟨_, rfl⟩
      rw [← hW4]
      have F34 : Fr (fun _ => False) W3 W4 := by rw [hW4]; exact HFf.out
      have HF4 := hide (HF3.out.then_ F34)
      have HKB4 := hide (HKB.out.fr F34 id)
      clear F34 hW4
      have f0 : W4.cell? ⟨cb, 0, none⟩ = some (.pointer (some ⟨fb, 0, none⟩)) := ((HQ.out.rep.blk.fr HF4.out id).cell 0).trans rfl
      go_wp2_with fail
      go_at_call 19
      refine (HP.out _ HF4.out).mono ?_
      rintro e W5 ⟨rfl, ⟨XF', hat, hx5⟩, hf5⟩
      have hsz4 := HF4.out.size
      have HR5 := hide ((HQ.out.rep.keep HF4.out (fun _ _ h => h)).fsop hf5 (fun _ h => h) hat hx5)
      have HF5 := hide ((HF4.out.mono (S' := X) (fun _ h => h.elim)).trans hf5 (fun _ h => .inl (HQ.out.xf _ h)))
      have HX5 := hide (show ∀ j, XF' j → X j ∨ w.heap.size ≤ j from fun j hj => by
        rcases hx5 j hj with h | h
        · exact .inl (HQ.out.xf _ h)
        · exact .inr (by omega))
      have HKB5 := hide (HKB4.out.fr hf5 (fun hx => by have := HQ.out.rep.fs.lt _ hx; have := HKG.out; omega))
      clear hat hx5 hf5 f0 hsz4
      have k0 : W5.cell? ⟨kb, 0, none⟩ = some (.string ⟨k.1.toArray⟩) := (HKB5.out.cell 0).trans rfl
      have k1 : W5.cell? ⟨kb, 1, none⟩ = some (.int .i64 k.2) := (HKB5.out.cell 1).trans rfl
      have HCO := hide (ccome_ok HR5.out HQ.out.ord k HNO.out dt)
      go_wp2_with fail
      go_at_call 85
      refine HCO.out.mono ?_
      rintro e W7 ⟨g, X', ME', Q1, clock', b, rfl, hr7, hq7, ho7, hx7, hf7⟩
      have hwl := wo_last hr7.nd
      have hfx := hr7.frm ⟨k, dt, 0, 0, g, b⟩ (by simp)
      have hzz : W7.frozen? ⟨g, 0, none⟩ = false := hfx.1.frozen 0
      have hv0 : W7.cell? ⟨g, 0, none⟩ = some (.string ⟨dt.toArray⟩) := (hfx.1.cell 0).trans rfl
      obtain ⟨W8, hW8⟩ : ∃ W8, W8 = W7.setCell ⟨g, 0, none⟩ (.string ⟨dt.toArray⟩) := ⟨_, rfl⟩
      have hr8 : CRep W8 cb fb tb X' XF' room s.left r.2 (most : Int) ME' (Q1 ++ [⟨k, dt, 0, 0, g, b⟩]) (s.clk : Int) clock' := by
        rw [hW8]
        have := hr7.turn (x := ⟨k, dt, 0, 0, g, b⟩) (by simp) ⟨k, dt, 0, 0, g, b⟩ 0 (.string ⟨dt.toArray⟩) rfl rfl rfl (by unfold CF.cells strv; simp)
        have e : ((Q1 ++ [(⟨k, dt, 0, 0, g, b⟩ : CF)]).map fun y => if y.key = k then ⟨k, dt, 0, 0, g, b⟩ else y) = Q1 ++ [⟨k, dt, 0, 0, g, b⟩] := by
          conv => rhs; rw [← List.map_id (Q1 ++ [(⟨k, dt, 0, 0, g, b⟩ : CF)])]
          refine List.map_congr_left fun y hy => ?_
          split
          · next e => exact (nodup_inj hr7.nd hy (x := y) (y := ⟨k, dt, 0, 0, g, b⟩) (by simp) e).symm
          · rfl
        rw [e] at this
        exact this
      have HU := hide (cuse_ok hr8 (x := ⟨k, dt, 0, 0, g, b⟩) (by simp) (by omega) (by omega))
      have HRP := hide (use_rep hr8 (x := ⟨k, dt, 0, 0, g, b⟩) (by simp) (by rw [hwl]; exact ho7))
      have hsz5 := HF5.out.size
      have HX7 := hide (show ∀ j, X' j → X j ∨ w.heap.size ≤ j from fun j hj => by
        rcases hx7 j hj with h | h
        · exact .inl (HQ.out.x1 _ h)
        · exact .inr (by omega))
      have HF8 := hide (show Fr X w W8 by
        rw [hW8]
        exact (HF5.out.trans hf7 (fun j hj => .inl (HQ.out.x1 _ hj))).setCell (p := ⟨g, 0, none⟩) (HX7.out _ hfx.2.1) _)
      have HWL := hide (And.intro hwl (And.intro hq7 hfx.2.1))
      have HW8 := hide hW8
      clear hr7 hq7 ho7 hx7 hf7 hwl hfx hW8 hr8 hsz5 k0 k1
      go_wp2_with fail
      rw [← HW8.out]
      go_at_call 86
      refine HU.out.mono ?_
      rintro e W9 ⟨rfl, rfl⟩
      go_wp2
      go_ret
      rw [HRR.out]
      obtain ⟨r1, r2, r3⟩ := HRP.out
      obtain ⟨hwl, hq7, hxg⟩ := HWL.out
      refine ⟨rfl, ⟨fun j => X' j ∨ XF' j, ⟨tb, X', XF', ME', ((Q1 ++ [(⟨k, dt, 0, 0, g, b⟩ : CF)]).filter fun y : CF => decide (y.key ≠ k)) ++ [⟨k, dt, 0, (s.clk : Int) + 1, g, b⟩], clock', r1, r2, ?_, fun j hj => .inl hj, fun j hj => .inr hj, fun j hj => hj⟩, fun j hj => hj.elim (HX7.out j) (HX5.out j)⟩, ?_⟩
      · rw [hwl, List.map_append, hq7, HQ.out.abs]
        rfl
      · exact (HF8.out.setCell (p := ⟨cb, 3, none⟩) (.inl (HQ.out.x1 _ HQ.out.rep.xc)) _).setCell (p := ⟨g, 2, none⟩) (HX7.out _ hxg) _
    · have HRR : Hid (cput room most k dt s = (r.1, s)) := by
        show cput room most k dt s = _
        unfold cput
        rw [if_neg (by omega), hy, hf, hr, if_neg (by simp), if_pos (by simpa using hz)]
      clear h hI hr hno
      go_enter Tryz.func38, Tryz.ntmps38
      go_wp2_with fail
      go_at_call 61
      refine HN.out.mono ?_
      rintro e w1 ⟨rfl, rfl⟩
      go_wp2_with fail
      go_at_call 17
      refine (HE.out _).mono ?_
      rintro e W2 ⟨rfl, hf2⟩
      have HF2 := hide hf2
      clear hf2
      go_wp2_with fail
      obtain ⟨kb, hkb⟩ : ∃ kb, W2.heap.size = kb := ⟨_, rfl⟩
      rw [hkb]
      obtain ⟨W3, hW3⟩ : ∃ W3, W3 = W2.alloc (.cells #[.string ⟨k.1.toArray⟩, .int .i64 k.2] 139) := ⟨_, rfl⟩
      rw [← hW3]
      have HF3 := hide (show Fr (fun _ => False) w W3 by rw [hW3]; exact HF2.out.alloc _)
      have HKB : Hid (Blk W3 kb 139 (kcells k)) := by rw [hW3, ← hkb]; exact Blk.new W2 139 _
      have HKG := hide (show w.heap.size ≤ kb by rw [← hkb]; exact HF2.out.size)
      clear hW3 hkb
      have HLK := hide (fun W (hS : Fr (fun _ => False) W3 W) => (⟨(HKB.out.fr hS id).cell 0 |>.trans rfl, (HKB.out.fr hS id).cell 1 |>.trans rfl, ((HQ.out.rep.blk.fr (HF3.out.then_ hS) id).cell 2).trans rfl, by
          have := lookup_ok (P := Tryz.prog) key_ck mapc framep_zero (HQ.out.rep.map.fr (HF3.out.then_ hS) id) k
          rw [hg] at this
          exact this⟩ : W.cell? ⟨kb, 0, none⟩ = some (.string ⟨k.1.toArray⟩) ∧ W.cell? ⟨kb, 1, none⟩ = some (.int .i64 k.2) ∧ W.cell? ⟨cb, 2, none⟩ = some (.map (some tb)) ∧ (Instr.lookup 59 (.map (some tb)) (.agg #[.string ⟨k.1.toArray⟩, .int .i64 k.2]) true).run Tryz.prog W = .ok (.tuple #[.pointer none, .bool false]) W))
      refine wp_region_reads (fun W => Fr (fun _ => False) W3 W) (by kernel_rfl) (by kernel_rfl) (Fr.refl _ _).drew ?_
      iterate 11
        refine readsY_cons ?_ ?_ (fun W hS => ?_) ?_
        · rfl
        rotate_left
        · (obtain ⟨s1, s2, s3, s4⟩ := HLK.out W hS; go_simp; try with_reducible rfl)
        simp only [List.getElem_toArray, List.getElem_cons_zero, List.getElem_cons_succ, Act.put, List.setIfInBounds_toArray, List.set_cons_zero, List.set_cons_succ]
      simp only [wpReadsY]
      refine NoPanic.normal ?_
      obtain ⟨W4a, hW4a⟩ : ∃ W4a, W4a = W3.drew := ⟨_, rfl⟩
      rw [← hW4a]
      have HFa := hide (show Fr (fun _ => False) W3 W4a by rw [hW4a]; exact (Fr.refl _ _).drew)
      clear hW4a
      go_wp2_with fail
      go_at_call 84
      refine (HFU.out _ (HF3.out.then_ HFa.out)).mono ?_
      rintro e W4f ⟨rfl, hf4⟩
      have HFf := hide (HFa.out.then_ hf4)
      clear hf4
      have f0 : W4f.cell? ⟨cb, 0, none⟩ = some (.pointer (some ⟨fb, 0, none⟩)) := ((HQ.out.rep.blk.fr (HF3.out.then_ HFf.out) id).cell 0).trans rfl
      obtain ⟨W4, hW4⟩ : ∃ W4, W4 = W4f := ⟨_, rfl⟩
      rw [← hW4]
      have F34 : Fr (fun _ => False) W3 W4 := by rw [hW4]; exact HFf.out
      have HF4 := hide (HF3.out.then_ F34)
      have HKB4 := hide (HKB.out.fr F34 id)
      clear F34 hW4
      have f0 : W4.cell? ⟨cb, 0, none⟩ = some (.pointer (some ⟨fb, 0, none⟩)) := ((HQ.out.rep.blk.fr HF4.out id).cell 0).trans rfl
      go_wp2_with fail
      go_at_call 19
      refine (HP.out _ HF4.out).mono ?_
      rintro e W5 ⟨rfl, ⟨XF', hat, hx5⟩, hf5⟩
      have hsz4 := HF4.out.size
      have HR5 := hide ((HQ.out.rep.keep HF4.out (fun _ _ h => h)).fsop hf5 (fun _ h => h) hat hx5)
      have HF5 := hide ((HF4.out.mono (S' := X) (fun _ h => h.elim)).trans hf5 (fun _ h => .inl (HQ.out.xf _ h)))
      have HX5 := hide (show ∀ j, XF' j → X j ∨ w.heap.size ≤ j from fun j hj => by
        rcases hx5 j hj with h | h
        · exact .inl (HQ.out.xf _ h)
        · exact .inr (by omega))
      have HKB5 := hide (HKB4.out.fr hf5 (fun hx => by have := HQ.out.rep.fs.lt _ hx; have := HKG.out; omega))
      clear hat hx5 hf5 f0 hsz4
      have b0 : (r.1 == 0) = false := by simpa using hz
      have b1 : (r.1 != 0) = true := by simpa using hz
      go_wp2
      go_ret
      rw [HRR.out]
      refine ⟨rfl, ⟨fun j => X1 j ∨ XF' j, ⟨tb, X1, XF', ME, Q, clock, by have := HR5.out; rw [HERR.out hz] at this; exact this, HQ.out.ord, HQ.out.abs, fun j hj => .inl hj, fun j hj => .inr hj, fun j hj => hj⟩, fun j hj => hj.elim (fun hj => .inl (HQ.out.x1 _ hj)) (HX5.out j)⟩, HF5.out⟩
theorem cput_ok (h : CAt w cb fb X room most s) (hI : CInv room most s) (k : CKey) (dt : List UInt8) (hc : s.clk + 1 ≤ 9223372036854775806) (hkn : k.1.length ≤ 9223372036854775807) (hd2 : dt.length ≤ 9223372036854775807) : Calls Tryz.prog 38 #[.pointer (some ⟨cb, 0, none⟩), .string ⟨k.1.toArray⟩, .int .i64 k.2, .string ⟨dt.toArray⟩] w fun e w' => e = .returned (.int .i64 (cput room most k dt s).1) ∧ (∃ X', CAt w' cb fb X' room most (cput room most k dt s).2 ∧ ∀ j, X' j → X j ∨ w.heap.size ≤ j) ∧ Fr X w w' := by
  by_cases hd : 122 < dt.length
  · exact cput_long h hI k dt hc hkn hd hd2
  · cases hy : lget k s.L with
    | some y => exact cput_there h hI k dt hc hkn (by omega) hy
    | none => exact cput_new h hI k dt hc hkn (by omega) hy
end
end Go.Proofs.YtkhbemmcegmdaaaGreatDoor
end
section
set_option linter.all false
set_option linter.unusedVariables false
set_option maxRecDepth 100000
namespace Go.Proofs.YtkhbemmcegmdaaaGreatDoor
open Go.RowKit
open Go.ChangeMaps (setBlock)

/-- what a step of a range hands out -/
theorem next_q {wr : World} {r tb clock c0 : Nat} {seen : Array Nat} {ME : List (Ent CKey)} {Q : List CF} (hit : wr.heap[r]? = some (.mapIter (some tb) clock seen c0)) (hm : MBlk wr tb ckey ME clock) (hp : ME.Perm (Q.map CF.ent)) (hbc : ∀ x ∈ Q, x.born < clock) (hbn : (Q.map (·.born)).Nodup) (hc0 : clock ≤ c0) (hrt : r ≠ tb) :
    ((∀ y ∈ Q, seen.contains y.born = true) ∧ ∀ ty, (Instr.next (.pointer (some ⟨r, 0, none⟩)) false ty).run Tryz.prog wr = .ok (.tuple #[.bool false]) wr) ∨
    ∃ (x : CF) (W5 : World), x ∈ Q ∧ seen.contains x.born = false ∧ W5.heap[r]? = some (.mapIter (some tb) clock (seen.push x.born) clock) ∧ Fr (fun k => k = r) wr W5 ∧
      (∀ ty, (Instr.next (.pointer (some ⟨r, 0, none⟩)) false ty).run Tryz.prog wr = .ok (.tuple #[.bool true, .agg #[.string ⟨x.key.1.toArray⟩, .int .i64 x.key.2], .pointer (some ⟨x.blk, 0, none⟩)]) W5) ∧
      (Instr.entry (.pointer (some ⟨r, 0, none⟩))).run Tryz.prog W5 = .ok (.tuple #[.agg #[.string ⟨x.key.1.toArray⟩, .int .i64 x.key.2], .pointer (some ⟨x.blk, 0, none⟩)]) W5 ∧
      (leftOf (ME.map (ent ckey)).toArray (seen.push x.born)).size < (leftOf (ME.map (ent ckey)).toArray seen).size := by
  have hold : ∀ x ∈ (ME.map (ent ckey)).toArray.toList, x.born < clock := fun x hx => by
    rw [List.toList_toArray] at hx
    obtain ⟨y, hy, rfl⟩ := List.mem_map.1 hx
    obtain ⟨z, hz, rfl⟩ := List.mem_map.1 (hp.subset hy)
    exact hbc z hz
  have hnext := fun ty => run_next_at (P := Tryz.prog) wr ty r tb clock c0 seen _ clock hit hm hold hc0
  have hborn : ((ME.map (ent ckey)).toArray.toList.map (·.born)).Nodup := by
    rw [List.toList_toArray, List.map_map]
    have := (hp.map (fun x : Ent CKey => x.2.2)).nodup_iff
    refine this.2 ?_
    rw [List.map_map]
    exact hbn
  by_cases hz : (leftOf (ME.map (ent ckey)).toArray seen).size = 0
  · refine .inl ⟨left_none hp hz, fun ty => ?_⟩
    rcases hnext ty with ⟨_, h⟩ | ⟨e, he, _⟩
    · exact h
    · have h0 := Array.eq_empty_of_size_eq_zero hz
      rw [h0] at he
      simp at he
  · rcases hnext 0 with ⟨h, _⟩ | ⟨e, he, w1, hw1, hn⟩
    · exact absurd h hz
    · have hes : e ∈ (ME.map (ent ckey)).toArray.toList ∧ seen.contains e.born = false := by
        unfold leftOf at he
        rw [Array.toList_filter] at he
        obtain ⟨h1, h2⟩ := List.mem_filter.1 he
        exact ⟨h1, by simpa using h2⟩
      obtain ⟨hem, hsn⟩ := hes
      have hless := left_less he
      have hem2 := hem
      rw [List.toList_toArray] at hem2
      obtain ⟨y, hy, rfl⟩ := List.mem_map.1 hem2
      obtain ⟨x, hx, rfl⟩ := List.mem_map.1 (hp.subset hy)
      have hw1h : w1.heap = wr.heap := by rcases hw1 with rfl | rfl <;> rfl
      have hrlt : r < wr.heap.size := (Array.getElem?_eq_some_iff.1 hit).1
      have hfr1 : Fr (fun k => k = r) wr w1 := by
        rcases hw1 with rfl | rfl
        · exact Fr.refl _ _
        · exact (Fr.refl _ _).drew
      have hfr5 := hfr1.trans (fr_setBlock w1 r (.mapIter (some tb) clock (seen.push x.born) clock)) (fun k hk => .inl hk)
      have hit5 : (setBlock w1 r (.mapIter (some tb) clock (seen.push x.born) clock)).heap[r]? = some (.mapIter (some tb) clock (seen.push x.born) clock) := by
        unfold setBlock
        simp only
        rw [Array.getElem?_setIfInBounds_self_of_lt (by rw [hw1h]; exact hrlt)]
      refine .inr ⟨x, _, hx, hsn, hit5, hfr5, fun ty => ?_, ?_, hless⟩
      · exact hn
      · exact run_entry_at (P := Tryz.prog) _ r tb clock seen _ clock (ent ckey x.ent) hit5 (hm.fr hfr5 (Ne.symm hrt)) hem hborn
theorem count_push {Q : List CF} {x : CF} {seen : Array Nat} (p : CF → Bool) (hb : (Q.map (·.born)).Nodup) (hx : x ∈ Q) (hs : seen.contains x.born = false) :
    (Q.filter fun y => (seen.push x.born).contains y.born && p y).length = (Q.filter fun y => seen.contains y.born && p y).length + if p x then 1 else 0 := by
  induction Q with
  | nil => cases hx
  | cons y Q ih =>
    rw [List.map_cons, List.nodup_cons] at hb
    have hc : ∀ z : CF, (seen.push x.born).contains z.born = (seen.contains z.born || z.born == x.born) := fun z => by
      rw [Bool.eq_iff_iff]; simp
    by_cases e : y.born = x.born
    · have hyx : y = x := by
        rcases List.mem_cons.1 hx with h | h
        · exact h.symm
        · exact absurd (by rw [e]; exact List.mem_map_of_mem h) hb.1
      subst hyx
      have hrest : (Q.filter fun z => (seen.push y.born).contains z.born && p z) = Q.filter fun z => seen.contains z.born && p z := by
        refine List.filter_congr fun z hz => ?_
        have : ¬ z.born = y.born := fun e2 => hb.1 (by rw [← e2]; exact List.mem_map_of_mem hz)
        have hb2 : (z.born == y.born) = false := by simpa using this
        rw [hc, hb2, Bool.or_false]
      by_cases hp : p y = true
      · rw [List.filter_cons_of_pos (by rw [hc]; simp [hp]), List.filter_cons_of_neg (by rw [hs]; simp), hrest, if_pos hp]; rfl
      · rw [List.filter_cons_of_neg (by simp [hp]), List.filter_cons_of_neg (by rw [hs]; simp), hrest, if_neg hp]; rfl
    · have hxQ : x ∈ Q := (List.mem_cons.1 hx).resolve_left (fun h => e (by rw [h]))
      have ih := ih hb.2 hxQ
      have hy : ((seen.push x.born).contains y.born && p y) = (seen.contains y.born && p y) := by
        have hb2 : (y.born == x.born) = false := by simpa using e
        rw [hc, hb2, Bool.or_false]
      by_cases hk : (seen.contains y.born && p y) = true
      · rw [List.filter_cons_of_pos (by rw [hy]; exact hk), List.filter_cons_of_pos (p := fun y : CF => seen.contains y.born && p y) hk, List.length_cons, List.length_cons, ih]; omega
      · rw [List.filter_cons_of_neg (by rw [hy]; exact hk), List.filter_cons_of_neg (p := fun y : CF => seen.contains y.born && p y) hk, ih]
def pinned (L : List CE) : Nat := (L.filter fun x => decide (0 < x.pins)).length
section
variable {w w1 : World} {cb fb tb clock most : Nat} {X X1 XF : Nat → Prop} {room left clk : Int} {F : FileL} {ME : List (Ent CKey)} {Q : List CF} {s : CSt}
theorem cpinned_ok (h : CAt w cb fb X room most s) (hl : s.L.length ≤ 100000) : Calls Tryz.prog 29 #[.pointer (some ⟨cb, 0, none⟩)] w fun e w' => e = .returned (.int .i64 (pinned s.L : Int)) ∧ Fr (fun _ => False) w w' := by
  have HN := hide (cnone_ok h)
  obtain ⟨tb, X1, XF, ME, Q, clock, h⟩ := h.q
  have c2 : w.cell? ⟨cb, 2, none⟩ = some (.map (some tb)) := (h.rep.blk.cell 2).trans rfl
  have hrg := run_range_map (P := Tryz.prog) w _ _ _ tb _ clock mapc h.rep.map
  have HQ := hide h
  have HL : Hid (Q.length ≤ 100000) := by have := hl; rw [← h.abs, List.length_map] at this; exact this
  clear h hl
  go_enter Tryz.func29, Tryz.ntmps29
  go_wp2_with fail
  go_at_call 61
  refine HN.out.mono ?_
  rintro e w1 ⟨rfl, rfl⟩
  go_wp2
  go_loopw [3] (fun n wr => ∃ seen c0, n = .int .i64 (((Q.filter fun y => seen.contains y.born && decide (0 < y.pins)).length : Nat) : Int) ∧ clock ≤ c0 ∧ wr.heap[w.heap.size]? = some (.mapIter (some tb) clock seen c0) ∧ Fr (fun _ => False) w wr) (fun _ wr => itLeft wr w.heap.size tb)
  case atStart =>
    refine ⟨#[], clock, ?_, Nat.le_refl _, heap_alloc_new w _, (Fr.refl _ _).alloc _⟩
    have : (Q.filter fun y => (#[] : Array Nat).contains y.born && decide (0 < y.pins)) = [] := List.filter_eq_nil_iff.2 (fun y _ => by simp)
    rw [this]
    rfl
  case round =>
    obtain ⟨seen, c0, rfl, hc0, hit, hfr⟩ := hrel
    have hm := HQ.out.rep.map.fr hfr id
    have hrt : w.heap.size ≠ tb := fun e => by have := HQ.out.rep.lt tb HQ.out.rep.xt; omega
    have HM : Hid (itLeft wr w.heap.size tb = (leftOf (ME.map (ent ckey)).toArray seen).size) := by
      show _ = _
      unfold itLeft
      rw [hit, show wr.heap[tb]? = some (.map (ME.map (ent ckey)).toArray clock) from hm]
    rcases next_q hit hm HQ.out.rep.pm HQ.out.rep.bclk HQ.out.rep.bnd hc0 hrt with ⟨hall, hnext⟩ | ⟨x, W5, hx, hsn, hit5, hf5, hnext, hentry, hless⟩
    · have HALL := hide hall
      have HFR := hide hfr
      clear hall hm hit hfr
      generalize hn : (Q.filter fun y => seen.contains y.born && decide (0 < y.pins)).length = n at *
      go_wp2
      go_ret
      refine ⟨?_, HFR.out⟩
      have : pinned s.L = n := by
        rw [← hn, ← HQ.out.abs]
        unfold pinned
        rw [List.filter_map, List.length_map]
        congr 1
        refine List.filter_congr fun y hy => ?_
        rw [HALL.out y hy]
        rfl
      rw [this]
      rfl
    · have hfx := (HQ.out.rep.frm x hx).1.fr (hfr.trans hf5 (fun k hk => .inr (by omega))) (fun h => h)
      have d1 : W5.cell? ⟨x.blk, 1, none⟩ = some (.int .i64 (x.pins : Int)) := (hfx.cell 1).trans rfl
      have hcp := count_push (fun y => decide (0 < y.pins)) HQ.out.rep.bnd hx hsn
      have hle := List.length_filter_le (fun y => seen.contains y.born && decide (0 < y.pins)) Q
      have H5 := hide (And.intro hcp (And.intro hit5 (And.intro (hfr.trans hf5 (fun k hk => .inr (by omega))) hless)))
      have HTB : Hid (W5.heap[tb]? = some (.map (ME.map (ent ckey)).toArray clock)) := hm.fr hf5 (Ne.symm hrt)
      have HLL := hide (Nat.le_trans hle HL.out)
      clear hcp hit5 hf5 hless hm hfx hle hit hfr hsn hx
      generalize (Q.filter fun y => seen.contains y.born && decide (0 < y.pins)).length = n at *
      by_cases hp : 0 < x.pins
      · have b0 : decide ((x.pins : Int) > 0) = true := by simp; omega
        have b1 : decide ((0 : Int) < (x.pins : Int)) = true := by simp; omega
        have hw1 : IntKind.i64.wrap ((n : Int) + 1) = ((n + 1 : Nat) : Int) := by have := HLL.out; simp only [IntKind.wrap, IntKind.bits, IntKind.signed]; simp; omega
        go_wp2
        go_roundw
        case rel =>
          obtain ⟨h1, h2, h3, h4⟩ := H5.out
          refine ⟨seen.push x.born, clock, ?_, Nat.le_refl _, h2, h3⟩
          rw [h1]
          simp [hp]
        case measure =>
          rw [HM.out]
          refine Nat.lt_of_le_of_lt (Nat.le_of_eq ?_) H5.out.2.2.2
          unfold itLeft
          rw [H5.out.2.1, HTB.out]
      · have b0 : decide ((x.pins : Int) > 0) = false := by simp; omega
        have b1 : decide ((0 : Int) < (x.pins : Int)) = false := by simp; omega
        go_wp2
        go_roundw
        case rel =>
          obtain ⟨h1, h2, h3, h4⟩ := H5.out
          refine ⟨seen.push x.born, clock, ?_, Nat.le_refl _, h2, h3⟩
          rw [h1]
          simp [hp]
        case measure =>
          rw [HM.out]
          refine Nat.lt_of_le_of_lt (Nat.le_of_eq ?_) H5.out.2.2.2
          unfold itLeft
          rw [H5.out.2.1, HTB.out]
theorem drop1_ok (k : CKey) (v : Value) (nb : Nat) (n : Name) (w : World) (hb : w.cell? ⟨nb, 0, none⟩ = some (.string ⟨n.toArray⟩)) : Calls Tryz.prog 81 #[.agg #[.string ⟨k.1.toArray⟩, .int .i64 k.2], v, .pointer (some ⟨nb, 0, none⟩)] w fun e w' => e = .returned (.bool (decide (k.1 = n))) ∧ Fr (fun _ => False) w w' := by
  have HF : Hid (Fr (fun _ => False) w (w.alloc (.cells #[.string ⟨k.1.toArray⟩, .int .i64 k.2] 139))) := (Fr.refl _ _).alloc _
  have hb2 : (w.alloc (.cells #[.string ⟨k.1.toArray⟩, .int .i64 k.2] 139)).cell? ⟨nb, 0, none⟩ = some (.string ⟨n.toArray⟩) := HF.out.cell hb id
  have he : ((⟨k.1.toArray⟩ : ByteArray) == ⟨n.toArray⟩) = decide (k.1 = n) := by
    rw [Bool.eq_iff_iff, MapKept.bytes_beq]
    simp
  have he2 : (k.1 == n) = decide (k.1 = n) := by
    rw [Bool.eq_iff_iff]
    simp
  go_enter Tryz.func81, Tryz.ntmps81
  go_wp2
  go_ret
  refine ⟨?_, HF.out⟩
  rw [← he2]
  rfl
theorem left_mono {es es' : Array MapEntry} {seen : Array Nat} (h : es'.toList.Sublist es.toList) : (leftOf es' seen).size ≤ (leftOf es seen).size := by
  have hs : ∀ es : Array MapEntry, (leftOf es seen).size = (es.toList.filter fun e => !seen.contains e.born).length := fun es => by
    unfold leftOf
    rw [← Array.length_toList, Array.toList_filter]
  rw [hs, hs]
  exact (h.filter _).length_le
def gone (n : Name) (seen : Array Nat) (y : CF) : Bool := !(seen.contains y.born && decide (y.key.1 = n))
theorem gone_all {Q : List CF} {n : Name} {seen : Array Nat} (h : ∀ y ∈ Q.filter (gone n seen), seen.contains y.born = true) : Q.filter (gone n seen) = Q.filter fun y => decide (y.key.1 ≠ n) := by
  refine List.filter_congr fun y hy => ?_
  by_cases e : y.key.1 = n
  · cases hs : seen.contains y.born with
    | true => unfold gone; rw [hs]; simp [e]
    | false =>
      have := h y (List.mem_filter.2 ⟨hy, by unfold gone; rw [hs]; rfl⟩)
      rw [hs] at this
      cases this
  · unfold gone
    simp [e]
theorem gone_push {Q : List CF} {n : Name} {seen : Array Nat} {x : CF} (hx : x ∈ Q) (hb : (Q.map (·.born)).Nodup) (hk : (Q.map (·.key)).Nodup) :
    Q.filter (gone n (seen.push x.born)) = if x.key.1 = n then (Q.filter (gone n seen)).filter fun y => decide (y.key ≠ x.key) else Q.filter (gone n seen) := by
  have hc : ∀ z : CF, (seen.push x.born).contains z.born = (seen.contains z.born || z.born == x.born) := fun z => by
    rw [Bool.eq_iff_iff]; simp
  split
  · next hn =>
    rw [List.filter_filter]
    refine List.filter_congr fun y hy => ?_
    unfold gone
    rw [hc]
    by_cases e : y = x
    · subst e
      simp [hn]
    · have h1 : (y.born == x.born) = false := by simpa using fun h => e (nodup_inj hb hy hx h)
      have h2 : decide (y.key ≠ x.key) = true := by simpa using fun h => e (nodup_inj hk hy hx h)
      rw [h1, h2, Bool.or_false, Bool.true_and]
  · next hn =>
    refine List.filter_congr fun y hy => ?_
    unfold gone
    rw [hc]
    by_cases e : y = x
    · subst e
      simp [hn]
    · have h1 : (y.born == x.born) = false := by simpa using fun h => e (nodup_inj hb hy hx h)
      rw [h1, Bool.or_false]
theorem delf_ok {most : Int} (h : CRep w cb fb tb X XF room left F most ME Q clk clock) (nb : Nat) (n : Name) (hnb : w.cell? ⟨nb, 0, none⟩ = some (.string ⟨n.toArray⟩)) (hnt : nb ≠ tb) : Calls Tryz.prog 80 #[.map (some tb), .func (.func 81) #[] #[.pointer (some ⟨nb, 0, none⟩)]] w fun e w' => e = .returned (.tuple #[]) ∧
    ∃ ME', CRep w' cb fb tb X XF room left F most ME' (Q.filter fun y => decide (y.key.1 ≠ n)) clk clock ∧ Fr (fun j => j = tb) w w' := by
  have hrg := run_range_map (P := Tryz.prog) w _ _ _ tb _ clock mapc h.map
  have HH := hide h
  have HNB := hide hnb
  clear h hnb
  go_enter Tryz.func80, Tryz.ntmps80
  go_wp2
  go_loopw [5] (fun _ wr => ∃ seen c0 ME', clock ≤ c0 ∧ wr.heap[w.heap.size]? = some (.mapIter (some tb) clock seen c0) ∧ CRep wr cb fb tb X XF room left F most ME' (Q.filter (gone n seen)) clk clock ∧ Fr (fun j => j = tb) w wr) (fun _ wr => itLeft wr w.heap.size tb)
  case atStart =>
    refine ⟨#[], clock, ME, Nat.le_refl _, heap_alloc_new w _, ?_, (Fr.refl _ _).alloc _⟩
    have e : Q.filter (gone n #[]) = Q := List.filter_eq_self.2 (fun y _ => by simp [gone])
    rw [e]
    exact HH.out.keep ((Fr.refl (fun _ => False) w).alloc _) (fun _ _ h => h)
  case round =>
    obtain ⟨seen, c0, ME', hc0, hit, hrep, hfr⟩ := hrel
    have hrt : w.heap.size ≠ tb := fun e => by have := HH.out.lt tb HH.out.xt; omega
    have HM : Hid (itLeft wr w.heap.size tb = (leftOf (ME'.map (ent ckey)).toArray seen).size) := by
      show _ = _
      unfold itLeft
      rw [hit, show wr.heap[tb]? = some (.map (ME'.map (ent ckey)).toArray clock) from hrep.map]
    rcases next_q hit hrep.map hrep.pm hrep.bclk hrep.bnd hc0 hrt with ⟨hall, hnext⟩ | ⟨x, W5, hx, hsn, hit5, hf5, hnext, hentry, hless⟩
    · have HALL := hide hall
      have HR := hide (And.intro hrep hfr)
      clear hall hrep hit hfr
      go_wp2
      go_end0
      refine ⟨rfl, ME', ?_, HR.out.2⟩
      rw [← gone_all HALL.out]
      exact HR.out.1
    · have hXlt := hrep.lt
      have hXFlt := HH.out.fs.lt
      have hr5 := hrep.keep hf5 (fun k hk h => by
        rcases hk with hk | hk
        · have := HH.out.lt k hk; omega
        · have := hXFlt k hk; omega)
      have hfr5 : Fr (fun j => j = tb) w W5 := hfr.trans hf5 (fun k hk => .inr (by omega))
      have hxQ : x ∈ Q := (List.mem_filter.1 hx).1
      have H5 := hide (And.intro hr5 (And.intro hit5 (And.intro hfr5 (And.intro hless hxQ))))
      have hnb5 : W5.cell? ⟨nb, 0, none⟩ = some (.string ⟨n.toArray⟩) := hfr5.cell HNB.out hnt
      clear hrep hit hfr hr5 hit5 hf5 hfr5 hless hx hxQ hXlt hXFlt
      go_wp2_with fail
      obtain ⟨kb, hkb⟩ : ∃ kb, W5.heap.size = kb := ⟨_, rfl⟩
      try rw [hkb]
      obtain ⟨W6, hW6⟩ : ∃ W6, W6 = W5.alloc (.cells #[.string ⟨x.key.1.toArray⟩, .int .i64 x.key.2] 139) := ⟨_, rfl⟩
      rw [← hW6]
      have F56 : Fr (fun _ => False) W5 W6 := by rw [hW6]; exact (Fr.refl _ _).alloc _
      have HKB : Hid (Blk W6 kb 139 (kcells x.key)) := by rw [hW6, ← hkb]; exact Blk.new W5 139 _
      have HKG := hide (show w.heap.size ≤ kb by rw [← hkb]; exact H5.out.2.2.1.size)
      have HD := hide (drop1_ok x.key (.pointer (some ⟨x.blk, 0, none⟩)) nb n W6 (F56.cell hnb5 id))
      have HF6 := hide F56
      clear hW6 F56 hkb hnb5
      go_at_call 81
      refine HD.out.mono ?_
      rintro e W7 ⟨rfl, hf7⟩
      have HF7 := hide (HF6.out.then_ hf7)
      have HKB7 := hide (HKB.out.fr hf7 id)
      clear hf7
      have HIT7 : Hid (W7.heap[w.heap.size]? = some (.mapIter (some tb) clock (seen.push x.born) clock)) := by
        have := (Array.getElem?_eq_some_iff.1 H5.out.2.1).1
        exact (HF7.out.block _ this id).trans H5.out.2.1
      have k0 : W7.cell? ⟨kb, 0, none⟩ = some (.string ⟨x.key.1.toArray⟩) := (HKB7.out.cell 0).trans rfl
      have k1 : W7.cell? ⟨kb, 1, none⟩ = some (.int .i64 x.key.2) := (HKB7.out.cell 1).trans rfl
      have HR7 := hide (H5.out.1.keep HF7.out (fun _ _ h => h))
      by_cases hxn : x.key.1 = n
      · have hb : decide (x.key.1 = n) = true := by simpa using hxn
        rw [hb]
        have hd : ∀ ty, (Builtin.delete_ #[59, 139] ty #[.map (some tb), .agg #[.string ⟨x.key.1.toArray⟩, .int .i64 x.key.2]]).run Tryz.prog W7 = .ok (.tuple #[]) (setBlock W7 tb (.map ((adel x.key ME').map (ent ckey)).toArray clock)) := fun ty => delete_ok (P := Tryz.prog) key_ck mapc HR7.out.map x.key ty
        have HG := hide (gone_push (n := n) (seen := seen) H5.out.2.2.2.2 HH.out.bnd HH.out.nd)
        have HXN := hide hxn
        clear hxn hb
        go_wp2
        go_roundw
        case rel =>
          have hfs := fr_setBlock W7 tb (.map ((adel x.key ME').map (ent ckey)).toArray clock)
          refine ⟨seen.push x.born, clock, adel x.key ME', Nat.le_refl _, ?_, ?_, ((H5.out.2.2.1.then_ HF7.out)).trans hfs (fun k hk => .inl hk)⟩
          · exact (hfs.block _ (Array.getElem?_eq_some_iff.1 HIT7.out).1 hrt).trans HIT7.out
          · rw [HG.out, if_pos HXN.out]
            exact HR7.out.del x.key
        case measure =>
          have hfs := fr_setBlock W7 tb (.map ((adel x.key ME').map (ent ckey)).toArray clock)
          rw [HM.out]
          refine Nat.lt_of_le_of_lt ?_ H5.out.2.2.2.1
          unfold itLeft
          rw [(hfs.block _ (Array.getElem?_eq_some_iff.1 HIT7.out).1 hrt).trans HIT7.out, (HR7.out.map.set (adel x.key ME') clock)]
          refine left_mono ?_
          rw [List.toList_toArray, List.toList_toArray, adel_filter x.key HR7.out.kn]
          exact List.filter_sublist.map _
      · have hb : decide (x.key.1 = n) = false := by simpa using hxn
        rw [hb]
        have HG := hide (gone_push (n := n) (seen := seen) H5.out.2.2.2.2 HH.out.bnd HH.out.nd)
        have HXN := hide hxn
        clear hxn hb
        go_wp2
        go_roundw
        case rel =>
          refine ⟨seen.push x.born, clock, ME', Nat.le_refl _, HIT7.out, ?_, H5.out.2.2.1.then_ HF7.out⟩
          rw [HG.out, if_neg HXN.out]
          exact HR7.out
        case measure =>
          rw [HM.out]
          refine Nat.lt_of_le_of_lt (Nat.le_of_eq ?_) H5.out.2.2.2.1
          unfold itLeft
          rw [HIT7.out, HR7.out.map]
theorem cdrop_ok (h : CAt w cb fb X room most s) (n : Name) : Calls Tryz.prog 35 #[.pointer (some ⟨cb, 0, none⟩), .string ⟨n.toArray⟩] w fun e w' => e = .returned (.tuple #[]) ∧ CAt w' cb fb X room most (cdrop n s) ∧ Fr X w w' := by
  obtain ⟨W3, hW3⟩ : ∃ W3, W3 = w.alloc (.cells #[.string ⟨n.toArray⟩] 9) := ⟨_, rfl⟩
  have F3 : Fr (fun _ => False) w W3 := by rw [hW3]; exact (Fr.refl _ _).alloc _
  have HN := hide (cnone_ok (h.up F3))
  obtain ⟨tb, X1, XF, ME, Q, clock, h⟩ := h.q
  have c2 : W3.cell? ⟨cb, 2, none⟩ = some (.map (some tb)) := ((h.rep.blk.fr F3 id).cell 2).trans rfl
  have hnb : W3.cell? ⟨w.heap.size, 0, none⟩ = some (.string ⟨n.toArray⟩) := by rw [hW3]; exact ((Blk.new w 9 #[.string ⟨n.toArray⟩]).cell 0).trans rfl
  have HD := hide (delf_ok (h.rep.keep F3 (fun _ _ h => h)) w.heap.size n hnb (fun e => by have := h.rep.lt tb h.rep.xt; omega))
  have HQ := hide h
  have HF3 := hide F3
  clear h hnb F3
  go_enter Tryz.func35, Tryz.ntmps35
  go_wp2_with fail
  rw [← hW3]
  clear hW3
  go_at_call 61
  refine HN.out.mono ?_
  rintro e w1 ⟨rfl, rfl⟩
  go_wp2_with fail
  go_at_call 80
  refine HD.out.mono ?_
  rintro e W5 ⟨rfl, ME', hr5, hf5⟩
  have H5 := hide (And.intro hr5 hf5)
  clear hr5 hf5
  go_wp2
  go_end0
  refine ⟨rfl, ⟨tb, X1, XF, ME', _, clock, H5.out.1, HQ.out.ord.wo _, ?_, HQ.out.x1, HQ.out.xf, HQ.out.xs⟩, (HF3.out.mono (S' := X) (fun _ h => h.elim)).trans H5.out.2 (fun k hk => .inl (by rw [hk]; exact HQ.out.x1 _ HQ.out.rep.xt))⟩
  unfold cdrop
  rw [← HQ.out.abs, List.filter_map]
  rfl
end
end Go.Proofs.YtkhbemmcegmdaaaGreatDoor
end
section
set_option linter.all false
set_option linter.unusedVariables false
set_option maxRecDepth 100000
namespace Go.Proofs.YtkhbemmcegmdaaaGreatDoor
open Go.RowKit
open Go.ChangeMaps (setBlock)

def actc (a : CAct) : Array Value := #[.int .u8 (a.kind : Int), .string ⟨a.name.toArray⟩, .int .i64 a.i, .string ⟨a.data.toArray⟩, .int .u8 (a.x.toNat : Int)]
/-- an act that is gone through -/
structure ActOk (a : CAct) : Prop where
  kind : a.kind < 256
  name : a.name.length ≤ 40
  data : a.data.length ≤ 400
  lo : -9223372036854775808 ≤ a.i
  hi : a.i ≤ 9223372036854775807
section
variable {w : World} {fb cb most : Nat} {X : Nat → Prop} {room left : Int} {F : FileL} {s : CSt}
theorem done_get0 (h : CAt w cb fb X room most s) (hI : CInv room most s) (a : CAct) (ha : ActOk a) (hc : s.clk + 1 ≤ 9223372036854775806) (hk : a.kind % 10 = 0) : Calls Tryz.prog 27 #[.pointer (some ⟨cb, 0, none⟩), .agg #[.int .u8 (a.kind : Int), .string ⟨a.name.toArray⟩, .int .i64 a.i, .string ⟨a.data.toArray⟩, .int .u8 (a.x.toNat : Int)]] w fun e w' =>
    e = .returned (.tuple #[.string ⟨(cstep room most a s).1.toArray⟩, .int .i64 (cstep room most a s).2.1]) ∧ (∃ X', CAt w' cb fb X' room most (cstep room most a s).2.2 ∧ ∀ j, X' j → X j ∨ w.heap.size ≤ j) ∧ Fr X w w' := by
  obtain ⟨W3, hW3⟩ : ∃ W3, W3 = w.alloc (.cells #[.int .u8 (a.kind : Int), .string ⟨a.name.toArray⟩, .int .i64 a.i, .string ⟨a.data.toArray⟩, .int .u8 (a.x.toNat : Int)] 52) := ⟨_, rfl⟩
  have F3 : Fr (fun _ => False) w W3 := by rw [hW3]; exact (Fr.refl _ _).alloc _
  have HF3 := hide F3
  have HAB : Hid (Blk W3 w.heap.size 52 (actc a)) := by rw [hW3]; exact Blk.new w 52 _
  have HNX : Hid (¬ X w.heap.size) := fun hx => by have := h.lt _ hx; omega
  have HH := hide h
  have HS := hide (fun W (hS : Fr X W3 W) => (⟨((HAB.out.fr hS HNX.out).cell 0).trans rfl, ((HAB.out.fr hS HNX.out).cell 1).trans rfl, ((HAB.out.fr hS HNX.out).cell 2).trans rfl, ((HAB.out.fr hS HNX.out).cell 3).trans rfl, ((HAB.out.fr hS HNX.out).cell 4).trans rfl⟩ : W.cell? ⟨w.heap.size, 0, none⟩ = some (.int .u8 (a.kind : Int)) ∧ W.cell? ⟨w.heap.size, 1, none⟩ = some (.string ⟨a.name.toArray⟩) ∧ W.cell? ⟨w.heap.size, 2, none⟩ = some (.int .i64 a.i) ∧ W.cell? ⟨w.heap.size, 3, none⟩ = some (.string ⟨a.data.toArray⟩) ∧ W.cell? ⟨w.heap.size, 4, none⟩ = some (.int .u8 (a.x.toNat : Int))))
  obtain ⟨s0, s1, s2, s3, s4⟩ := HS.out W3 (Fr.refl _ _)
  have HCS : Hid (cstep room most a s = cget most a.key s) := by
    show cstep room most a s = _
    unfold cstep
    rw [hk]
    try rfl
  rw [HCS.out]
  have hk1 : ((a.kind : Nat) : Int) % 10 = (0 : Int) := by omega
  have hk2 : Int.tmod ((a.kind : Nat) : Int) 10 = (0 : Int) := by rw [Int.tmod_eq_emod_of_nonneg (by omega)]; exact hk1
  have h2 := h.up F3
  have HC := hide (cget_ok h2 hI a.key hc)
  have hkey : a.key = (a.name, a.i) := rfl
  rw [hkey] at HC ⊢
  clear hkey
  have HW3 := hide hW3
  clear h h2 hW3 F3 hI ha hk hk1
  go_enter Tryz.func27, Tryz.ntmps27
  go_wp2_with fail
  rw [← HW3.out]
  go_wp2_with fail
  go_at_call 20
  refine HC.out.mono ?_
  rintro e W5 ⟨rfl, ⟨X', h5, hx5⟩, hf5⟩
  have H5 := hide (And.intro h5 (And.intro hx5 hf5))
  clear h5 hx5 hf5
  go_wp2
  go_ret2
  have hsz := HF3.out.size
  refine ⟨rfl, ⟨X', H5.out.1, fun j hj => ?_⟩, (HF3.out.mono (S' := X) (fun _ h => h.elim)).trans H5.out.2.2 (fun _ h => .inl h)⟩
  rcases H5.out.2.1 j hj with h | h
  · exact .inl h
  · exact .inr (by omega)
theorem done_get1 (h : CAt w cb fb X room most s) (hI : CInv room most s) (a : CAct) (ha : ActOk a) (hc : s.clk + 1 ≤ 9223372036854775806) (hk : a.kind % 10 = 1) : Calls Tryz.prog 27 #[.pointer (some ⟨cb, 0, none⟩), .agg #[.int .u8 (a.kind : Int), .string ⟨a.name.toArray⟩, .int .i64 a.i, .string ⟨a.data.toArray⟩, .int .u8 (a.x.toNat : Int)]] w fun e w' =>
    e = .returned (.tuple #[.string ⟨(cstep room most a s).1.toArray⟩, .int .i64 (cstep room most a s).2.1]) ∧ (∃ X', CAt w' cb fb X' room most (cstep room most a s).2.2 ∧ ∀ j, X' j → X j ∨ w.heap.size ≤ j) ∧ Fr X w w' := by
  obtain ⟨W3, hW3⟩ : ∃ W3, W3 = w.alloc (.cells #[.int .u8 (a.kind : Int), .string ⟨a.name.toArray⟩, .int .i64 a.i, .string ⟨a.data.toArray⟩, .int .u8 (a.x.toNat : Int)] 52) := ⟨_, rfl⟩
  have F3 : Fr (fun _ => False) w W3 := by rw [hW3]; exact (Fr.refl _ _).alloc _
  have HF3 := hide F3
  have HAB : Hid (Blk W3 w.heap.size 52 (actc a)) := by rw [hW3]; exact Blk.new w 52 _
  have HNX : Hid (¬ X w.heap.size) := fun hx => by have := h.lt _ hx; omega
  have HH := hide h
  have HS := hide (fun W (hS : Fr X W3 W) => (⟨((HAB.out.fr hS HNX.out).cell 0).trans rfl, ((HAB.out.fr hS HNX.out).cell 1).trans rfl, ((HAB.out.fr hS HNX.out).cell 2).trans rfl, ((HAB.out.fr hS HNX.out).cell 3).trans rfl, ((HAB.out.fr hS HNX.out).cell 4).trans rfl⟩ : W.cell? ⟨w.heap.size, 0, none⟩ = some (.int .u8 (a.kind : Int)) ∧ W.cell? ⟨w.heap.size, 1, none⟩ = some (.string ⟨a.name.toArray⟩) ∧ W.cell? ⟨w.heap.size, 2, none⟩ = some (.int .i64 a.i) ∧ W.cell? ⟨w.heap.size, 3, none⟩ = some (.string ⟨a.data.toArray⟩) ∧ W.cell? ⟨w.heap.size, 4, none⟩ = some (.int .u8 (a.x.toNat : Int))))
  obtain ⟨s0, s1, s2, s3, s4⟩ := HS.out W3 (Fr.refl _ _)
  have HCS : Hid (cstep room most a s = cget most a.key s) := by
    show cstep room most a s = _
    unfold cstep
    rw [hk]
    try rfl
  rw [HCS.out]
  have hk1 : ((a.kind : Nat) : Int) % 10 = (1 : Int) := by omega
  have hk2 : Int.tmod ((a.kind : Nat) : Int) 10 = (1 : Int) := by rw [Int.tmod_eq_emod_of_nonneg (by omega)]; exact hk1
  have h2 := h.up F3
  have HC := hide (cget_ok h2 hI a.key hc)
  have hkey : a.key = (a.name, a.i) := rfl
  rw [hkey] at HC ⊢
  clear hkey
  have HW3 := hide hW3
  clear h h2 hW3 F3 hI ha hk hk1
  go_enter Tryz.func27, Tryz.ntmps27
  go_wp2_with fail
  rw [← HW3.out]
  go_wp2_with fail
  go_at_call 20
  refine HC.out.mono ?_
  rintro e W5 ⟨rfl, ⟨X', h5, hx5⟩, hf5⟩
  have H5 := hide (And.intro h5 (And.intro hx5 hf5))
  clear h5 hx5 hf5
  go_wp2
  go_ret2
  have hsz := HF3.out.size
  refine ⟨rfl, ⟨X', H5.out.1, fun j hj => ?_⟩, (HF3.out.mono (S' := X) (fun _ h => h.elim)).trans H5.out.2.2 (fun _ h => .inl h)⟩
  rcases H5.out.2.1 j hj with h | h
  · exact .inl h
  · exact .inr (by omega)
theorem done_pin (h : CAt w cb fb X room most s) (hI : CInv room most s) (a : CAct) (ha : ActOk a) (hc : s.clk + 1 ≤ 9223372036854775806) (hk : a.kind % 10 = 2) : Calls Tryz.prog 27 #[.pointer (some ⟨cb, 0, none⟩), .agg #[.int .u8 (a.kind : Int), .string ⟨a.name.toArray⟩, .int .i64 a.i, .string ⟨a.data.toArray⟩, .int .u8 (a.x.toNat : Int)]] w fun e w' =>
    e = .returned (.tuple #[.string ⟨(cstep room most a s).1.toArray⟩, .int .i64 (cstep room most a s).2.1]) ∧ (∃ X', CAt w' cb fb X' room most (cstep room most a s).2.2 ∧ ∀ j, X' j → X j ∨ w.heap.size ≤ j) ∧ Fr X w w' := by
  obtain ⟨W3, hW3⟩ : ∃ W3, W3 = w.alloc (.cells #[.int .u8 (a.kind : Int), .string ⟨a.name.toArray⟩, .int .i64 a.i, .string ⟨a.data.toArray⟩, .int .u8 (a.x.toNat : Int)] 52) := ⟨_, rfl⟩
  have F3 : Fr (fun _ => False) w W3 := by rw [hW3]; exact (Fr.refl _ _).alloc _
  have HF3 := hide F3
  have HAB : Hid (Blk W3 w.heap.size 52 (actc a)) := by rw [hW3]; exact Blk.new w 52 _
  have HNX : Hid (¬ X w.heap.size) := fun hx => by have := h.lt _ hx; omega
  have HH := hide h
  have HS := hide (fun W (hS : Fr X W3 W) => (⟨((HAB.out.fr hS HNX.out).cell 0).trans rfl, ((HAB.out.fr hS HNX.out).cell 1).trans rfl, ((HAB.out.fr hS HNX.out).cell 2).trans rfl, ((HAB.out.fr hS HNX.out).cell 3).trans rfl, ((HAB.out.fr hS HNX.out).cell 4).trans rfl⟩ : W.cell? ⟨w.heap.size, 0, none⟩ = some (.int .u8 (a.kind : Int)) ∧ W.cell? ⟨w.heap.size, 1, none⟩ = some (.string ⟨a.name.toArray⟩) ∧ W.cell? ⟨w.heap.size, 2, none⟩ = some (.int .i64 a.i) ∧ W.cell? ⟨w.heap.size, 3, none⟩ = some (.string ⟨a.data.toArray⟩) ∧ W.cell? ⟨w.heap.size, 4, none⟩ = some (.int .u8 (a.x.toNat : Int))))
  obtain ⟨s0, s1, s2, s3, s4⟩ := HS.out W3 (Fr.refl _ _)
  have HCS : Hid (cstep room most a s = cpin most a.key s) := by
    show cstep room most a s = _
    unfold cstep
    rw [hk]
    try rfl
  rw [HCS.out]
  have hk1 : ((a.kind : Nat) : Int) % 10 = (2 : Int) := by omega
  have hk2 : Int.tmod ((a.kind : Nat) : Int) 10 = (2 : Int) := by rw [Int.tmod_eq_emod_of_nonneg (by omega)]; exact hk1
  have h2 := h.up F3
  have HC := hide (cpin_ok h2 hI a.key hc)
  have hkey : a.key = (a.name, a.i) := rfl
  rw [hkey] at HC ⊢
  clear hkey
  have HW3 := hide hW3
  clear h h2 hW3 F3 hI ha hk hk1
  go_enter Tryz.func27, Tryz.ntmps27
  go_wp2_with fail
  rw [← HW3.out]
  go_wp2_with fail
  go_at_call 39
  refine HC.out.mono ?_
  rintro e W5 ⟨rfl, ⟨X', h5, hx5⟩, hf5⟩
  have H5 := hide (And.intro h5 (And.intro hx5 hf5))
  clear h5 hx5 hf5
  go_wp2
  go_ret2
  have hsz := HF3.out.size
  refine ⟨rfl, ⟨X', H5.out.1, fun j hj => ?_⟩, (HF3.out.mono (S' := X) (fun _ h => h.elim)).trans H5.out.2.2 (fun _ h => .inl h)⟩
  rcases H5.out.2.1 j hj with h | h
  · exact .inl h
  · exact .inr (by omega)
theorem done_unpin (h : CAt w cb fb X room most s) (hI : CInv room most s) (a : CAct) (ha : ActOk a) (hc : s.clk + 1 ≤ 9223372036854775806) (hk : a.kind % 10 = 3) : Calls Tryz.prog 27 #[.pointer (some ⟨cb, 0, none⟩), .agg #[.int .u8 (a.kind : Int), .string ⟨a.name.toArray⟩, .int .i64 a.i, .string ⟨a.data.toArray⟩, .int .u8 (a.x.toNat : Int)]] w fun e w' =>
    e = .returned (.tuple #[.string ⟨(cstep room most a s).1.toArray⟩, .int .i64 (cstep room most a s).2.1]) ∧ (∃ X', CAt w' cb fb X' room most (cstep room most a s).2.2 ∧ ∀ j, X' j → X j ∨ w.heap.size ≤ j) ∧ Fr X w w' := by
  obtain ⟨W3, hW3⟩ : ∃ W3, W3 = w.alloc (.cells #[.int .u8 (a.kind : Int), .string ⟨a.name.toArray⟩, .int .i64 a.i, .string ⟨a.data.toArray⟩, .int .u8 (a.x.toNat : Int)] 52) := ⟨_, rfl⟩
  have F3 : Fr (fun _ => False) w W3 := by rw [hW3]; exact (Fr.refl _ _).alloc _
  have HF3 := hide F3
  have HAB : Hid (Blk W3 w.heap.size 52 (actc a)) := by rw [hW3]; exact Blk.new w 52 _
  have HNX : Hid (¬ X w.heap.size) := fun hx => by have := h.lt _ hx; omega
  have HH := hide h
  have HS := hide (fun W (hS : Fr X W3 W) => (⟨((HAB.out.fr hS HNX.out).cell 0).trans rfl, ((HAB.out.fr hS HNX.out).cell 1).trans rfl, ((HAB.out.fr hS HNX.out).cell 2).trans rfl, ((HAB.out.fr hS HNX.out).cell 3).trans rfl, ((HAB.out.fr hS HNX.out).cell 4).trans rfl⟩ : W.cell? ⟨w.heap.size, 0, none⟩ = some (.int .u8 (a.kind : Int)) ∧ W.cell? ⟨w.heap.size, 1, none⟩ = some (.string ⟨a.name.toArray⟩) ∧ W.cell? ⟨w.heap.size, 2, none⟩ = some (.int .i64 a.i) ∧ W.cell? ⟨w.heap.size, 3, none⟩ = some (.string ⟨a.data.toArray⟩) ∧ W.cell? ⟨w.heap.size, 4, none⟩ = some (.int .u8 (a.x.toNat : Int))))
  obtain ⟨s0, s1, s2, s3, s4⟩ := HS.out W3 (Fr.refl _ _)
  have HCS : Hid (cstep room most a s = ([], cunpin a.key s)) := by
    show cstep room most a s = _
    unfold cstep
    rw [hk]
    try rfl
  rw [HCS.out]
  have hk1 : ((a.kind : Nat) : Int) % 10 = (3 : Int) := by omega
  have hk2 : Int.tmod ((a.kind : Nat) : Int) 10 = (3 : Int) := by rw [Int.tmod_eq_emod_of_nonneg (by omega)]; exact hk1
  have h2 := h.up F3
  have HC := hide (cunpin_ok h2 hI a.key (by omega))
  have hkey : a.key = (a.name, a.i) := rfl
  rw [hkey] at HC ⊢
  clear hkey
  have HW3 := hide hW3
  clear h h2 hW3 F3 hI ha hk hk1
  go_enter Tryz.func27, Tryz.ntmps27
  go_wp2_with fail
  rw [← HW3.out]
  go_wp2_with fail
  go_at_call 40
  refine HC.out.mono ?_
  rintro e W5 ⟨rfl, h5, hf5⟩
  have H5 := hide (And.intro h5 hf5)
  clear h5 hf5
  go_wp2
  go_ret2
  exact ⟨rfl, ⟨X, H5.out.1, fun j hj => .inl hj⟩, (HF3.out.mono (S' := X) (fun _ h => h.elim)).trans H5.out.2 (fun _ h => .inl h)⟩
theorem done_put (h : CAt w cb fb X room most s) (hI : CInv room most s) (a : CAct) (ha : ActOk a) (hc : s.clk + 1 ≤ 9223372036854775806) (hk : a.kind % 10 = 4) : Calls Tryz.prog 27 #[.pointer (some ⟨cb, 0, none⟩), .agg #[.int .u8 (a.kind : Int), .string ⟨a.name.toArray⟩, .int .i64 a.i, .string ⟨a.data.toArray⟩, .int .u8 (a.x.toNat : Int)]] w fun e w' =>
    e = .returned (.tuple #[.string ⟨(cstep room most a s).1.toArray⟩, .int .i64 (cstep room most a s).2.1]) ∧ (∃ X', CAt w' cb fb X' room most (cstep room most a s).2.2 ∧ ∀ j, X' j → X j ∨ w.heap.size ≤ j) ∧ Fr X w w' := by
  obtain ⟨W3, hW3⟩ : ∃ W3, W3 = w.alloc (.cells #[.int .u8 (a.kind : Int), .string ⟨a.name.toArray⟩, .int .i64 a.i, .string ⟨a.data.toArray⟩, .int .u8 (a.x.toNat : Int)] 52) := ⟨_, rfl⟩
  have F3 : Fr (fun _ => False) w W3 := by rw [hW3]; exact (Fr.refl _ _).alloc _
  have HF3 := hide F3
  have HAB : Hid (Blk W3 w.heap.size 52 (actc a)) := by rw [hW3]; exact Blk.new w 52 _
  have HNX : Hid (¬ X w.heap.size) := fun hx => by have := h.lt _ hx; omega
  have HH := hide h
  have HS := hide (fun W (hS : Fr X W3 W) => (⟨((HAB.out.fr hS HNX.out).cell 0).trans rfl, ((HAB.out.fr hS HNX.out).cell 1).trans rfl, ((HAB.out.fr hS HNX.out).cell 2).trans rfl, ((HAB.out.fr hS HNX.out).cell 3).trans rfl, ((HAB.out.fr hS HNX.out).cell 4).trans rfl⟩ : W.cell? ⟨w.heap.size, 0, none⟩ = some (.int .u8 (a.kind : Int)) ∧ W.cell? ⟨w.heap.size, 1, none⟩ = some (.string ⟨a.name.toArray⟩) ∧ W.cell? ⟨w.heap.size, 2, none⟩ = some (.int .i64 a.i) ∧ W.cell? ⟨w.heap.size, 3, none⟩ = some (.string ⟨a.data.toArray⟩) ∧ W.cell? ⟨w.heap.size, 4, none⟩ = some (.int .u8 (a.x.toNat : Int))))
  obtain ⟨s0, s1, s2, s3, s4⟩ := HS.out W3 (Fr.refl _ _)
  have HCS : Hid (cstep room most a s = ([], cput room most a.key a.data s)) := by
    show cstep room most a s = _
    unfold cstep
    rw [hk]
    try rfl
  rw [HCS.out]
  have hk1 : ((a.kind : Nat) : Int) % 10 = (4 : Int) := by omega
  have hk2 : Int.tmod ((a.kind : Nat) : Int) 10 = (4 : Int) := by rw [Int.tmod_eq_emod_of_nonneg (by omega)]; exact hk1
  have h2 := h.up F3
  have HC := hide (cput_ok h2 hI a.key a.data hc (by have := ha.name; simp only [CAct.key]; omega) (by have := ha.data; omega))
  have hkey : a.key = (a.name, a.i) := rfl
  rw [hkey] at HC ⊢
  clear hkey
  have HW3 := hide hW3
  clear h h2 hW3 F3 hI ha hk hk1
  go_enter Tryz.func27, Tryz.ntmps27
  go_wp2_with fail
  rw [← HW3.out]
  go_wp2_with fail
  go_at_call 38
  refine HC.out.mono ?_
  rintro e W5 ⟨rfl, ⟨X', h5, hx5⟩, hf5⟩
  have H5 := hide (And.intro h5 (And.intro hx5 hf5))
  clear h5 hx5 hf5
  go_wp2
  go_ret2
  have hsz := HF3.out.size
  refine ⟨rfl, ⟨X', H5.out.1, fun j hj => ?_⟩, (HF3.out.mono (S' := X) (fun _ h => h.elim)).trans H5.out.2.2 (fun _ h => .inl h)⟩
  rcases H5.out.2.1 j hj with h | h
  · exact .inl h
  · exact .inr (by omega)
theorem done_drop (h : CAt w cb fb X room most s) (hI : CInv room most s) (a : CAct) (ha : ActOk a) (hc : s.clk + 1 ≤ 9223372036854775806) (hk : a.kind % 10 = 5) : Calls Tryz.prog 27 #[.pointer (some ⟨cb, 0, none⟩), .agg #[.int .u8 (a.kind : Int), .string ⟨a.name.toArray⟩, .int .i64 a.i, .string ⟨a.data.toArray⟩, .int .u8 (a.x.toNat : Int)]] w fun e w' =>
    e = .returned (.tuple #[.string ⟨(cstep room most a s).1.toArray⟩, .int .i64 (cstep room most a s).2.1]) ∧ (∃ X', CAt w' cb fb X' room most (cstep room most a s).2.2 ∧ ∀ j, X' j → X j ∨ w.heap.size ≤ j) ∧ Fr X w w' := by
  obtain ⟨W3, hW3⟩ : ∃ W3, W3 = w.alloc (.cells #[.int .u8 (a.kind : Int), .string ⟨a.name.toArray⟩, .int .i64 a.i, .string ⟨a.data.toArray⟩, .int .u8 (a.x.toNat : Int)] 52) := ⟨_, rfl⟩
  have F3 : Fr (fun _ => False) w W3 := by rw [hW3]; exact (Fr.refl _ _).alloc _
  have HF3 := hide F3
  have HAB : Hid (Blk W3 w.heap.size 52 (actc a)) := by rw [hW3]; exact Blk.new w 52 _
  have HNX : Hid (¬ X w.heap.size) := fun hx => by have := h.lt _ hx; omega
  have HH := hide h
  have HS := hide (fun W (hS : Fr X W3 W) => (⟨((HAB.out.fr hS HNX.out).cell 0).trans rfl, ((HAB.out.fr hS HNX.out).cell 1).trans rfl, ((HAB.out.fr hS HNX.out).cell 2).trans rfl, ((HAB.out.fr hS HNX.out).cell 3).trans rfl, ((HAB.out.fr hS HNX.out).cell 4).trans rfl⟩ : W.cell? ⟨w.heap.size, 0, none⟩ = some (.int .u8 (a.kind : Int)) ∧ W.cell? ⟨w.heap.size, 1, none⟩ = some (.string ⟨a.name.toArray⟩) ∧ W.cell? ⟨w.heap.size, 2, none⟩ = some (.int .i64 a.i) ∧ W.cell? ⟨w.heap.size, 3, none⟩ = some (.string ⟨a.data.toArray⟩) ∧ W.cell? ⟨w.heap.size, 4, none⟩ = some (.int .u8 (a.x.toNat : Int))))
  obtain ⟨s0, s1, s2, s3, s4⟩ := HS.out W3 (Fr.refl _ _)
  have HCS : Hid (cstep room most a s = ([], 0, cdrop a.name s)) := by
    show cstep room most a s = _
    unfold cstep
    rw [hk]
    try rfl
  rw [HCS.out]
  have hk1 : ((a.kind : Nat) : Int) % 10 = (5 : Int) := by omega
  have hk2 : Int.tmod ((a.kind : Nat) : Int) 10 = (5 : Int) := by rw [Int.tmod_eq_emod_of_nonneg (by omega)]; exact hk1
  have h2 := h.up F3
  have HC := hide (cdrop_ok h2 a.name)
  have HW3 := hide hW3
  clear h h2 hW3 F3 hI ha hk hk1
  go_enter Tryz.func27, Tryz.ntmps27
  go_wp2_with fail
  rw [← HW3.out]
  go_wp2_with fail
  go_at_call 35
  refine HC.out.mono ?_
  rintro e W5 ⟨rfl, h5, hf5⟩
  have H5 := hide (And.intro h5 hf5)
  clear h5 hf5
  go_wp2
  go_ret2
  exact ⟨rfl, ⟨X, H5.out.1, fun j hj => .inl hj⟩, (HF3.out.mono (S' := X) (fun _ h => h.elim)).trans H5.out.2 (fun _ h => .inl h)⟩
theorem done_write (h : CAt w cb fb X room most s) (hI : CInv room most s) (a : CAct) (ha : ActOk a) (hc : s.clk + 1 ≤ 9223372036854775806) (hk : a.kind % 10 = 6) : Calls Tryz.prog 27 #[.pointer (some ⟨cb, 0, none⟩), .agg #[.int .u8 (a.kind : Int), .string ⟨a.name.toArray⟩, .int .i64 a.i, .string ⟨a.data.toArray⟩, .int .u8 (a.x.toNat : Int)]] w fun e w' =>
    e = .returned (.tuple #[.string ⟨(cstep room most a s).1.toArray⟩, .int .i64 (cstep room most a s).2.1]) ∧ (∃ X', CAt w' cb fb X' room most (cstep room most a s).2.2 ∧ ∀ j, X' j → X j ∨ w.heap.size ≤ j) ∧ Fr X w w' := by
  obtain ⟨W3, hW3⟩ : ∃ W3, W3 = w.alloc (.cells #[.int .u8 (a.kind : Int), .string ⟨a.name.toArray⟩, .int .i64 a.i, .string ⟨a.data.toArray⟩, .int .u8 (a.x.toNat : Int)] 52) := ⟨_, rfl⟩
  have F3 : Fr (fun _ => False) w W3 := by rw [hW3]; exact (Fr.refl _ _).alloc _
  have HF3 := hide F3
  have HAB : Hid (Blk W3 w.heap.size 52 (actc a)) := by rw [hW3]; exact Blk.new w 52 _
  have HNX : Hid (¬ X w.heap.size) := fun hx => by have := h.lt _ hx; omega
  have HH := hide h
  have HS := hide (fun W (hS : Fr X W3 W) => (⟨((HAB.out.fr hS HNX.out).cell 0).trans rfl, ((HAB.out.fr hS HNX.out).cell 1).trans rfl, ((HAB.out.fr hS HNX.out).cell 2).trans rfl, ((HAB.out.fr hS HNX.out).cell 3).trans rfl, ((HAB.out.fr hS HNX.out).cell 4).trans rfl⟩ : W.cell? ⟨w.heap.size, 0, none⟩ = some (.int .u8 (a.kind : Int)) ∧ W.cell? ⟨w.heap.size, 1, none⟩ = some (.string ⟨a.name.toArray⟩) ∧ W.cell? ⟨w.heap.size, 2, none⟩ = some (.int .i64 a.i) ∧ W.cell? ⟨w.heap.size, 3, none⟩ = some (.string ⟨a.data.toArray⟩) ∧ W.cell? ⟨w.heap.size, 4, none⟩ = some (.int .u8 (a.x.toNat : Int))))
  obtain ⟨s0, s1, s2, s3, s4⟩ := HS.out W3 (Fr.refl _ _)
  have HCS : Hid (cstep room most a s = ([], (fswrite room s.F a.name (splitB a.data)).1, { s with F := (fswrite room s.F a.name (splitB a.data)).2 })) := by
    show cstep room most a s = _
    unfold cstep
    rw [hk]
    try rfl
  rw [HCS.out]
  have hk1 : ((a.kind : Nat) : Int) % 10 = (6 : Int) := by omega
  have hk2 : Int.tmod ((a.kind : Nat) : Int) 10 = (6 : Int) := by rw [Int.tmod_eq_emod_of_nonneg (by omega)]; exact hk1
  have h2 := h.up F3
  have HI := hide hI
  have HA := hide ha
  have HW3 := hide hW3
  clear h h2 hW3 F3 hI ha hk hk1
  go_enter Tryz.func27, Tryz.ntmps27
  go_wp2_with fail
  rw [← HW3.out]
  go_wp2_with fail
  refine wp_region_ord [(0, true), (2, true), (3, true), (4, true), (5, true), (1, false), (6, false), (7, false), (8, true), (9, true)] (fun W => W.cell? ⟨w.heap.size, 0, none⟩ = some (.int .u8 (a.kind : Int)) ∧ W.cell? ⟨w.heap.size, 1, none⟩ = some (.string ⟨a.name.toArray⟩) ∧ W.cell? ⟨w.heap.size, 2, none⟩ = some (.int .i64 a.i) ∧ W.cell? ⟨w.heap.size, 3, none⟩ = some (.string ⟨a.data.toArray⟩) ∧ W.cell? ⟨w.heap.size, 4, none⟩ = some (.int .u8 (a.x.toNat : Int))) (by kernel_rfl) (by kernel_rfl) (HS.out _ (Fr.refl _ _).drew) ?_
  iterate 5
    refine ord_read rfl ?_ ?_ (fun W hS => ?_) ?_
    · rfl
    rotate_left
    · (obtain ⟨z0, z1, z2, z3, z4⟩ := hS; go_simp; try with_reducible rfl)
    simp only [List.getElem_toArray, List.getElem_cons_zero, List.getElem_cons_succ, Act.put, List.setIfInBounds_toArray, List.set_cons_zero, List.set_cons_succ]
  refine ord_act rfl ?_
  have HCF := hide (cfs_ok (HH.out.up HF3.out.drew))
  go_wp2_with fail
  go_at_call 18
  refine HCF.out.mono ?_
  rintro e W4 ⟨rfl, rfl⟩
  go_wp2
  refine midQ_ok (HS.out _ (Fr.refl _ _).drew) ?_
  refine ord_act rfl ?_
  have e0 : ((⟨a.data.toArray⟩ : ByteArray)).data.toList = a.data := by simp
  have HSP := hide (pg_split ⟨a.data.toArray⟩ W3.drew (by show a.data.toArray.size ≤ 12000; have := HA.out.data; simp; omega))
  rw [e0] at HSP
  clear e0
  go_wp2_with fail
  go_at_call 56
  refine HSP.out.mono ?_
  rintro e W5 ⟨A, c, rfl, _, _, hrd, hf5⟩
  have HF5 := hide (HF3.out.drew.then_ hf5)
  have HF35 : Hid (Fr (fun _ => False) W3 W5) := (Fr.refl _ _).drew.then_ hf5
  have HS5 := HS.out W5 (HF35.out.mono (fun _ h => h.elim))
  have hlen : (splitB a.data).length ≤ 100000 := by
    have h1 := chunks_count _ a.data (Nat.le_refl _)
    have h2 := HA.out.data
    unfold splitB
    rw [List.length_map]
    omega
  have HWR := hide ((HH.out.up HF5.out).lift (fun XF hat => fwrite_any hat HI.out.fs a.name (by have := HA.out.name; omega) A c _ (splitB a.data) hrd (Nat.le_refl _) (split_pages _).2 hlen (split_pages _).1))
  clear hrd hf5 hlen
  generalize hsp : (splitB a.data) = sp at *
  have HSPE := hide hsp
  clear hsp
  go_wp2
  refine midQ_ok HS5 ?_
  clear HS5
  refine ord_act rfl ?_
  go_wp2_with fail
  go_at_call 55
  refine (HWR.out).mono ?_
  rintro e W6 ⟨rfl, ⟨X', h6, hx6⟩, hf6⟩
  have HS6 := HS.out W6 ((HF35.out.mono (S' := X) (fun _ h => h.elim)).trans hf6 (fun _ h => .inl h))
  have H6 := hide (And.intro h6 (And.intro hx6 hf6))
  clear h6 hx6 hf6
  go_wp2
  refine midQ_ok HS6 ?_
  iterate 2
    refine ord_read rfl ?_ ?_ (fun W hS => ?_) ?_
    · rfl
    rotate_left
    · (skip; go_simp; try with_reducible rfl)
    simp only [List.getElem_toArray, List.getElem_cons_zero, List.getElem_cons_succ, Act.put, List.setIfInBounds_toArray, List.set_cons_zero, List.set_cons_succ]
  refine ord_done ?_
  refine NoPanic.normal ?_
  clear HS6
  go_wp2
  go_ret2
  have hsz := HF5.out.size
  rw [HSPE.out]
  refine ⟨rfl, ⟨X', H6.out.1, fun j hj => ?_⟩, (HF5.out.mono (S' := X) (fun _ h => h.elim)).trans H6.out.2.2 (fun _ h => .inl h)⟩
  rcases H6.out.2.1 j hj with h | h
  · exact .inl h
  · exact .inr (by omega)
theorem done_fail (h : CAt w cb fb X room most s) (hI : CInv room most s) (a : CAct) (ha : ActOk a) (hc : s.clk + 1 ≤ 9223372036854775806) (hk : a.kind % 10 = 7) : Calls Tryz.prog 27 #[.pointer (some ⟨cb, 0, none⟩), .agg #[.int .u8 (a.kind : Int), .string ⟨a.name.toArray⟩, .int .i64 a.i, .string ⟨a.data.toArray⟩, .int .u8 (a.x.toNat : Int)]] w fun e w' =>
    e = .returned (.tuple #[.string ⟨(cstep room most a s).1.toArray⟩, .int .i64 (cstep room most a s).2.1]) ∧ (∃ X', CAt w' cb fb X' room most (cstep room most a s).2.2 ∧ ∀ j, X' j → X j ∨ w.heap.size ≤ j) ∧ Fr X w w' := by
  obtain ⟨W3, hW3⟩ : ∃ W3, W3 = w.alloc (.cells #[.int .u8 (a.kind : Int), .string ⟨a.name.toArray⟩, .int .i64 a.i, .string ⟨a.data.toArray⟩, .int .u8 (a.x.toNat : Int)] 52) := ⟨_, rfl⟩
  have F3 : Fr (fun _ => False) w W3 := by rw [hW3]; exact (Fr.refl _ _).alloc _
  have HF3 := hide F3
  have HAB : Hid (Blk W3 w.heap.size 52 (actc a)) := by rw [hW3]; exact Blk.new w 52 _
  have HNX : Hid (¬ X w.heap.size) := fun hx => by have := h.lt _ hx; omega
  have HH := hide h
  have HS := hide (fun W (hS : Fr X W3 W) => (⟨((HAB.out.fr hS HNX.out).cell 0).trans rfl, ((HAB.out.fr hS HNX.out).cell 1).trans rfl, ((HAB.out.fr hS HNX.out).cell 2).trans rfl, ((HAB.out.fr hS HNX.out).cell 3).trans rfl, ((HAB.out.fr hS HNX.out).cell 4).trans rfl⟩ : W.cell? ⟨w.heap.size, 0, none⟩ = some (.int .u8 (a.kind : Int)) ∧ W.cell? ⟨w.heap.size, 1, none⟩ = some (.string ⟨a.name.toArray⟩) ∧ W.cell? ⟨w.heap.size, 2, none⟩ = some (.int .i64 a.i) ∧ W.cell? ⟨w.heap.size, 3, none⟩ = some (.string ⟨a.data.toArray⟩) ∧ W.cell? ⟨w.heap.size, 4, none⟩ = some (.int .u8 (a.x.toNat : Int))))
  obtain ⟨s0, s1, s2, s3, s4⟩ := HS.out W3 (Fr.refl _ _)
  have HCS : Hid (cstep room most a s = ([], (fsfail s.left a.i).1, { s with left := (fsfail s.left a.i).2 })) := by
    show cstep room most a s = _
    unfold cstep
    rw [hk]
    try rfl
  rw [HCS.out]
  have hk1 : ((a.kind : Nat) : Int) % 10 = (7 : Int) := by omega
  have hk2 : Int.tmod ((a.kind : Nat) : Int) 10 = (7 : Int) := by rw [Int.tmod_eq_emod_of_nonneg (by omega)]; exact hk1
  have h2 := h.up F3
  skip
  have HW3 := hide hW3
  clear h h2 hW3 F3 hI ha hk hk1
  go_enter Tryz.func27, Tryz.ntmps27
  go_wp2_with fail
  rw [← HW3.out]
  go_wp2_with fail
  refine wp_region_ord [(0, true), (2, true), (3, true), (1, false), (4, false), (5, true), (6, true)] (fun W => W.cell? ⟨w.heap.size, 0, none⟩ = some (.int .u8 (a.kind : Int)) ∧ W.cell? ⟨w.heap.size, 1, none⟩ = some (.string ⟨a.name.toArray⟩) ∧ W.cell? ⟨w.heap.size, 2, none⟩ = some (.int .i64 a.i) ∧ W.cell? ⟨w.heap.size, 3, none⟩ = some (.string ⟨a.data.toArray⟩) ∧ W.cell? ⟨w.heap.size, 4, none⟩ = some (.int .u8 (a.x.toNat : Int))) (by kernel_rfl) (by kernel_rfl) (HS.out _ (Fr.refl _ _).drew) ?_
  iterate 3
    refine ord_read rfl ?_ ?_ (fun W hS => ?_) ?_
    · rfl
    rotate_left
    · (obtain ⟨z0, z1, z2, z3, z4⟩ := hS; go_simp; try with_reducible rfl)
    simp only [List.getElem_toArray, List.getElem_cons_zero, List.getElem_cons_succ, Act.put, List.setIfInBounds_toArray, List.set_cons_zero, List.set_cons_succ]
  refine ord_act rfl ?_
  have HCF := hide (cfs_ok (HH.out.up HF3.out.drew))
  go_wp2_with fail
  go_at_call 18
  refine HCF.out.mono ?_
  rintro e W4 ⟨rfl, rfl⟩
  go_wp2
  refine midQ_ok (HS.out _ (Fr.refl _ _).drew) ?_
  have HF5 := hide HF3.out.drew
  have HF35 : Hid (Fr (fun _ => False) W3 W3.drew) := (Fr.refl _ _).drew
  have HWR := hide ((HH.out.up HF5.out).lift (fun XF hat => ffail_any hat a.i))
  refine ord_act rfl ?_
  go_wp2_with fail
  go_at_call 22
  refine (HWR.out).mono ?_
  rintro e W6 ⟨rfl, ⟨X', h6, hx6⟩, hf6⟩
  have HS6 := HS.out W6 ((HF35.out.mono (S' := X) (fun _ h => h.elim)).trans hf6 (fun _ h => .inl h))
  have H6 := hide (And.intro h6 (And.intro hx6 hf6))
  clear h6 hx6 hf6
  go_wp2
  refine midQ_ok HS6 ?_
  iterate 2
    refine ord_read rfl ?_ ?_ (fun W hS => ?_) ?_
    · rfl
    rotate_left
    · (skip; go_simp; try with_reducible rfl)
    simp only [List.getElem_toArray, List.getElem_cons_zero, List.getElem_cons_succ, Act.put, List.setIfInBounds_toArray, List.set_cons_zero, List.set_cons_succ]
  refine ord_done ?_
  refine NoPanic.normal ?_
  clear HS6
  go_wp2
  go_ret2
  have hsz := HF5.out.size
  refine ⟨rfl, ⟨X', H6.out.1, fun j hj => ?_⟩, (HF5.out.mono (S' := X) (fun _ h => h.elim)).trans H6.out.2.2 (fun _ h => .inl h)⟩
  rcases H6.out.2.1 j hj with h | h
  · exact .inl h
  · exact .inr (by omega)
theorem done_flip (h : CAt w cb fb X room most s) (hI : CInv room most s) (a : CAct) (ha : ActOk a) (hc : s.clk + 1 ≤ 9223372036854775806) (hk : a.kind % 10 = 8) : Calls Tryz.prog 27 #[.pointer (some ⟨cb, 0, none⟩), .agg #[.int .u8 (a.kind : Int), .string ⟨a.name.toArray⟩, .int .i64 a.i, .string ⟨a.data.toArray⟩, .int .u8 (a.x.toNat : Int)]] w fun e w' =>
    e = .returned (.tuple #[.string ⟨(cstep room most a s).1.toArray⟩, .int .i64 (cstep room most a s).2.1]) ∧ (∃ X', CAt w' cb fb X' room most (cstep room most a s).2.2 ∧ ∀ j, X' j → X j ∨ w.heap.size ≤ j) ∧ Fr X w w' := by
  obtain ⟨W3, hW3⟩ : ∃ W3, W3 = w.alloc (.cells #[.int .u8 (a.kind : Int), .string ⟨a.name.toArray⟩, .int .i64 a.i, .string ⟨a.data.toArray⟩, .int .u8 (a.x.toNat : Int)] 52) := ⟨_, rfl⟩
  have F3 : Fr (fun _ => False) w W3 := by rw [hW3]; exact (Fr.refl _ _).alloc _
  have HF3 := hide F3
  have HAB : Hid (Blk W3 w.heap.size 52 (actc a)) := by rw [hW3]; exact Blk.new w 52 _
  have HNX : Hid (¬ X w.heap.size) := fun hx => by have := h.lt _ hx; omega
  have HH := hide h
  have HS := hide (fun W (hS : Fr X W3 W) => (⟨((HAB.out.fr hS HNX.out).cell 0).trans rfl, ((HAB.out.fr hS HNX.out).cell 1).trans rfl, ((HAB.out.fr hS HNX.out).cell 2).trans rfl, ((HAB.out.fr hS HNX.out).cell 3).trans rfl, ((HAB.out.fr hS HNX.out).cell 4).trans rfl⟩ : W.cell? ⟨w.heap.size, 0, none⟩ = some (.int .u8 (a.kind : Int)) ∧ W.cell? ⟨w.heap.size, 1, none⟩ = some (.string ⟨a.name.toArray⟩) ∧ W.cell? ⟨w.heap.size, 2, none⟩ = some (.int .i64 a.i) ∧ W.cell? ⟨w.heap.size, 3, none⟩ = some (.string ⟨a.data.toArray⟩) ∧ W.cell? ⟨w.heap.size, 4, none⟩ = some (.int .u8 (a.x.toNat : Int))))
  obtain ⟨s0, s1, s2, s3, s4⟩ := HS.out W3 (Fr.refl _ _)
  have HCS : Hid (cstep room most a s = ([], (fsflip s.F a.name a.i a.x).1, { s with F := (fsflip s.F a.name a.i a.x).2 })) := by
    show cstep room most a s = _
    unfold cstep
    rw [hk]
    try rfl
  rw [HCS.out]
  have hk1 : ((a.kind : Nat) : Int) % 10 = (8 : Int) := by omega
  have hk2 : Int.tmod ((a.kind : Nat) : Int) 10 = (8 : Int) := by rw [Int.tmod_eq_emod_of_nonneg (by omega)]; exact hk1
  have h2 := h.up F3
  have HI := hide hI
  have HW3 := hide hW3
  clear h h2 hW3 F3 hI ha hk hk1
  go_enter Tryz.func27, Tryz.ntmps27
  go_wp2_with fail
  rw [← HW3.out]
  go_wp2_with fail
  refine wp_region_ord [(0, true), (2, true), (3, true), (4, true), (5, true), (6, true), (7, true), (1, false), (8, false), (9, true), (10, true)] (fun W => W.cell? ⟨w.heap.size, 0, none⟩ = some (.int .u8 (a.kind : Int)) ∧ W.cell? ⟨w.heap.size, 1, none⟩ = some (.string ⟨a.name.toArray⟩) ∧ W.cell? ⟨w.heap.size, 2, none⟩ = some (.int .i64 a.i) ∧ W.cell? ⟨w.heap.size, 3, none⟩ = some (.string ⟨a.data.toArray⟩) ∧ W.cell? ⟨w.heap.size, 4, none⟩ = some (.int .u8 (a.x.toNat : Int))) (by kernel_rfl) (by kernel_rfl) (HS.out _ (Fr.refl _ _).drew) ?_
  iterate 7
    refine ord_read rfl ?_ ?_ (fun W hS => ?_) ?_
    · rfl
    rotate_left
    · (obtain ⟨z0, z1, z2, z3, z4⟩ := hS; go_simp; try with_reducible rfl)
    simp only [List.getElem_toArray, List.getElem_cons_zero, List.getElem_cons_succ, Act.put, List.setIfInBounds_toArray, List.set_cons_zero, List.set_cons_succ]
  refine ord_act rfl ?_
  have HCF := hide (cfs_ok (HH.out.up HF3.out.drew))
  go_wp2_with fail
  go_at_call 18
  refine HCF.out.mono ?_
  rintro e W4 ⟨rfl, rfl⟩
  go_wp2
  refine midQ_ok (HS.out _ (Fr.refl _ _).drew) ?_
  have HF5 := hide HF3.out.drew
  have HF35 : Hid (Fr (fun _ => False) W3 W3.drew) := (Fr.refl _ _).drew
  have HWR := hide ((HH.out.up HF5.out).lift (fun XF hat => fflip_any hat HI.out.fs a.name a.i a.x))
  refine ord_act rfl ?_
  go_wp2_with fail
  go_at_call 67
  refine (HWR.out).mono ?_
  rintro e W6 ⟨rfl, ⟨X', h6, hx6⟩, hf6⟩
  have HS6 := HS.out W6 ((HF35.out.mono (S' := X) (fun _ h => h.elim)).trans hf6 (fun _ h => .inl h))
  have H6 := hide (And.intro h6 (And.intro hx6 hf6))
  clear h6 hx6 hf6
  go_wp2
  refine midQ_ok HS6 ?_
  iterate 2
    refine ord_read rfl ?_ ?_ (fun W hS => ?_) ?_
    · rfl
    rotate_left
    · (skip; go_simp; try with_reducible rfl)
    simp only [List.getElem_toArray, List.getElem_cons_zero, List.getElem_cons_succ, Act.put, List.setIfInBounds_toArray, List.set_cons_zero, List.set_cons_succ]
  refine ord_done ?_
  refine NoPanic.normal ?_
  clear HS6
  go_wp2
  go_ret2
  have hsz := HF5.out.size
  refine ⟨rfl, ⟨X', H6.out.1, fun j hj => ?_⟩, (HF5.out.mono (S' := X) (fun _ h => h.elim)).trans H6.out.2.2 (fun _ h => .inl h)⟩
  rcases H6.out.2.1 j hj with h | h
  · exact .inl h
  · exact .inr (by omega)
theorem done_remove (h : CAt w cb fb X room most s) (hI : CInv room most s) (a : CAct) (ha : ActOk a) (hc : s.clk + 1 ≤ 9223372036854775806) (hk : a.kind % 10 = 9) : Calls Tryz.prog 27 #[.pointer (some ⟨cb, 0, none⟩), .agg #[.int .u8 (a.kind : Int), .string ⟨a.name.toArray⟩, .int .i64 a.i, .string ⟨a.data.toArray⟩, .int .u8 (a.x.toNat : Int)]] w fun e w' =>
    e = .returned (.tuple #[.string ⟨(cstep room most a s).1.toArray⟩, .int .i64 (cstep room most a s).2.1]) ∧ (∃ X', CAt w' cb fb X' room most (cstep room most a s).2.2 ∧ ∀ j, X' j → X j ∨ w.heap.size ≤ j) ∧ Fr X w w' := by
  obtain ⟨W3, hW3⟩ : ∃ W3, W3 = w.alloc (.cells #[.int .u8 (a.kind : Int), .string ⟨a.name.toArray⟩, .int .i64 a.i, .string ⟨a.data.toArray⟩, .int .u8 (a.x.toNat : Int)] 52) := ⟨_, rfl⟩
  have F3 : Fr (fun _ => False) w W3 := by rw [hW3]; exact (Fr.refl _ _).alloc _
  have HF3 := hide F3
  have HAB : Hid (Blk W3 w.heap.size 52 (actc a)) := by rw [hW3]; exact Blk.new w 52 _
  have HNX : Hid (¬ X w.heap.size) := fun hx => by have := h.lt _ hx; omega
  have HH := hide h
  have HS := hide (fun W (hS : Fr X W3 W) => (⟨((HAB.out.fr hS HNX.out).cell 0).trans rfl, ((HAB.out.fr hS HNX.out).cell 1).trans rfl, ((HAB.out.fr hS HNX.out).cell 2).trans rfl, ((HAB.out.fr hS HNX.out).cell 3).trans rfl, ((HAB.out.fr hS HNX.out).cell 4).trans rfl⟩ : W.cell? ⟨w.heap.size, 0, none⟩ = some (.int .u8 (a.kind : Int)) ∧ W.cell? ⟨w.heap.size, 1, none⟩ = some (.string ⟨a.name.toArray⟩) ∧ W.cell? ⟨w.heap.size, 2, none⟩ = some (.int .i64 a.i) ∧ W.cell? ⟨w.heap.size, 3, none⟩ = some (.string ⟨a.data.toArray⟩) ∧ W.cell? ⟨w.heap.size, 4, none⟩ = some (.int .u8 (a.x.toNat : Int))))
  obtain ⟨s0, s1, s2, s3, s4⟩ := HS.out W3 (Fr.refl _ _)
  have HCS : Hid (cstep room most a s = ([], (fsremove s.F a.name).1, { s with F := (fsremove s.F a.name).2 })) := by
    show cstep room most a s = _
    unfold cstep
    rw [hk]
    try rfl
  rw [HCS.out]
  have hk1 : ((a.kind : Nat) : Int) % 10 = (9 : Int) := by omega
  have hk2 : Int.tmod ((a.kind : Nat) : Int) 10 = (9 : Int) := by rw [Int.tmod_eq_emod_of_nonneg (by omega)]; exact hk1
  have h2 := h.up F3
  skip
  have HW3 := hide hW3
  clear h h2 hW3 F3 hI ha hk hk1
  go_enter Tryz.func27, Tryz.ntmps27
  go_wp2_with fail
  rw [← HW3.out]
  go_wp2_with fail
  refine wp_region_ord [(0, true), (2, true), (3, true), (1, false), (4, false), (5, true), (6, true)] (fun W => W.cell? ⟨w.heap.size, 0, none⟩ = some (.int .u8 (a.kind : Int)) ∧ W.cell? ⟨w.heap.size, 1, none⟩ = some (.string ⟨a.name.toArray⟩) ∧ W.cell? ⟨w.heap.size, 2, none⟩ = some (.int .i64 a.i) ∧ W.cell? ⟨w.heap.size, 3, none⟩ = some (.string ⟨a.data.toArray⟩) ∧ W.cell? ⟨w.heap.size, 4, none⟩ = some (.int .u8 (a.x.toNat : Int))) (by kernel_rfl) (by kernel_rfl) (HS.out _ (Fr.refl _ _).drew) ?_
  iterate 3
    refine ord_read rfl ?_ ?_ (fun W hS => ?_) ?_
    · rfl
    rotate_left
    · (obtain ⟨z0, z1, z2, z3, z4⟩ := hS; go_simp; try with_reducible rfl)
    simp only [List.getElem_toArray, List.getElem_cons_zero, List.getElem_cons_succ, Act.put, List.setIfInBounds_toArray, List.set_cons_zero, List.set_cons_succ]
  refine ord_act rfl ?_
  have HCF := hide (cfs_ok (HH.out.up HF3.out.drew))
  go_wp2_with fail
  go_at_call 18
  refine HCF.out.mono ?_
  rintro e W4 ⟨rfl, rfl⟩
  go_wp2
  refine midQ_ok (HS.out _ (Fr.refl _ _).drew) ?_
  have HF5 := hide HF3.out.drew
  have HF35 : Hid (Fr (fun _ => False) W3 W3.drew) := (Fr.refl _ _).drew
  have HWR := hide ((HH.out.up HF5.out).lift (fun XF hat => fremove_any hat a.name))
  refine ord_act rfl ?_
  go_wp2_with fail
  go_at_call 68
  refine (HWR.out).mono ?_
  rintro e W6 ⟨rfl, ⟨X', h6, hx6⟩, hf6⟩
  have HS6 := HS.out W6 ((HF35.out.mono (S' := X) (fun _ h => h.elim)).trans hf6 (fun _ h => .inl h))
  have H6 := hide (And.intro h6 (And.intro hx6 hf6))
  clear h6 hx6 hf6
  go_wp2
  refine midQ_ok HS6 ?_
  iterate 2
    refine ord_read rfl ?_ ?_ (fun W hS => ?_) ?_
    · rfl
    rotate_left
    · (skip; go_simp; try with_reducible rfl)
    simp only [List.getElem_toArray, List.getElem_cons_zero, List.getElem_cons_succ, Act.put, List.setIfInBounds_toArray, List.set_cons_zero, List.set_cons_succ]
  refine ord_done ?_
  refine NoPanic.normal ?_
  clear HS6
  go_wp2
  go_ret2
  have hsz := HF5.out.size
  refine ⟨rfl, ⟨X', H6.out.1, fun j hj => ?_⟩, (HF5.out.mono (S' := X) (fun _ h => h.elim)).trans H6.out.2.2 (fun _ h => .inl h)⟩
  rcases H6.out.2.1 j hj with h | h
  · exact .inl h
  · exact .inr (by omega)
theorem done_ok (h : CAt w cb fb X room most s) (hI : CInv room most s) (a : CAct) (ha : ActOk a) (hc : s.clk + 1 ≤ 9223372036854775806) : Calls Tryz.prog 27 #[.pointer (some ⟨cb, 0, none⟩), .agg #[.int .u8 (a.kind : Int), .string ⟨a.name.toArray⟩, .int .i64 a.i, .string ⟨a.data.toArray⟩, .int .u8 (a.x.toNat : Int)]] w fun e w' =>
    e = .returned (.tuple #[.string ⟨(cstep room most a s).1.toArray⟩, .int .i64 (cstep room most a s).2.1]) ∧ (∃ X', CAt w' cb fb X' room most (cstep room most a s).2.2 ∧ ∀ j, X' j → X j ∨ w.heap.size ≤ j) ∧ Fr X w w' := by
  rcases kind_cases a.kind with e | e | e | e | e | e | e | e | e | e
  · exact done_get0 h hI a ha hc e
  · exact done_get1 h hI a ha hc e
  · exact done_pin h hI a ha hc e
  · exact done_unpin h hI a ha hc e
  · exact done_put h hI a ha hc e
  · exact done_drop h hI a ha hc e
  · exact done_write h hI a ha hc e
  · exact done_fail h hI a ha hc e
  · exact done_flip h hI a ha hc e
  · exact done_remove h hI a ha hc e
theorem made_ok (y : Nat) (hy : y < 256) (w : World) : Calls Tryz.prog 16 #[.int .u8 (y : Int)] w fun e w' => ∃ cb fb X, e = .returned (.pointer (some ⟨cb, 0, none⟩)) ∧ CAt w' cb fb X 60 (1 + y % 9) ⟨-1, [], [], 0⟩ ∧ (∀ j, X j → w.heap.size ≤ j) ∧ w.heap.size ≤ cb ∧ Fr (fun _ => False) w w' := by
  have HN := hide (fnew_ok 60 (by omega) (by omega) w)
  have hm : ((1 + y % 9 : Nat) : Int) = 1 + (y : Int) % 9 := by omega
  have ht : Int.tmod ((y : Nat) : Int) 9 = (y : Int) % 9 := by rw [Int.tmod_eq_emod_of_nonneg (by omega)]
  go_enter Tryz.func16, Tryz.ntmps16
  go_wp2_with fail
  go_at_call 24
  refine HN.out.mono ?_
  rintro e W1 ⟨fb, XF, rfl, hat, hx1, hf1⟩
  have HC := hide (cnew_ok hat (1 + y % 9) (by omega) (by omega))
  have H1 := hide (And.intro hx1 hf1)
  clear hat hx1 hf1
  rw [hm] at HC
  go_wp2_with fail
  go_at_call 26
  refine HC.out.mono ?_
  rintro e W2 ⟨cb, X, rfl, hat, hx2, _, hcb, hf2⟩
  have H2 := hide (And.intro hat (And.intro hx2 (And.intro hcb hf2)))
  clear hat hx2 hcb hf2
  go_wp2
  go_ret
  have hsz := H1.out.2.size
  refine ⟨cb, fb, X, rfl, H2.out.1, fun j hj => ?_, by have := H2.out.2.2.1; omega, H1.out.2.then_ H2.out.2.2.2⟩
  rcases H2.out.2.1 j hj with h | h
  · exact H1.out.1 j h
  · omega
end
end Go.Proofs.YtkhbemmcegmdaaaGreatDoor
end
