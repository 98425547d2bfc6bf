/- A cache's Put, by contract. -/
import Derived.Test.YtkhbemmcegmdaaaGreatDoorCi
import Derived.Test.YtkhbemmcegmdaaaGreatDoorFb
set_option linter.all false
set_option linter.unusedVariables false
set_option maxRecDepth 100000
namespace Go.Proofs.YtkhbemmcegmdaaaGreatDoor
open Go.RowKit
open Go.ChangeMaps (setBlock)

theorem luse_lmap {k : CKey} {f : CE → CE} (hf : ∀ x, (f x).key = x.key) (L : List CE) : luse k id (lmap k f L) = luse k f L := by
  unfold luse lwo lmap
  congr 1
  · induction L with
    | nil => rfl
    | cons x L ih =>
      rw [List.map_cons]
      by_cases h : x.key = k
      · rw [if_pos h, List.filter_cons_of_neg (by simp [hf, h]), List.filter_cons_of_neg (by simp [h]), ih]
      · rw [if_neg h, List.filter_cons_of_pos (by simp [h]), List.filter_cons_of_pos (by simp [h]), ih]
  · induction L with
    | nil => rfl
    | cons x L ih =>
      rw [List.map_cons]
      by_cases h : x.key = k
      · rw [if_pos h, List.filter_cons_of_pos (by simp [hf, h]), List.filter_cons_of_pos (by simp [h]), List.map_cons, List.map_cons, ih]
        rfl
      · rw [if_neg h, List.filter_cons_of_neg (by simp [h]), List.filter_cons_of_neg (by simp [h]), ih]
theorem fsput_err {room : Int} {F : FileL} {n : Name} {i : Int} {p : List UInt8} (h : (fsput room F n i p).1 ≠ 0) : (fsput room F n i p).2 = F := by
  unfold fsput at h ⊢
  split at h
  · next hb => rw [if_pos hb]
  · next hb =>
    rw [if_neg hb]
    split at h
    · exact absurd rfl h
    · next hi =>
      rw [if_neg hi]
      split at h
      · next ht => rw [if_pos ht]
      · exact absurd rfl h
section
variable {w w1 : World} {cb fb tb clock most : Nat} {X X1 XF : Nat → Prop} {room left clk : Int} {F : FileL} {ME : List (Ent CKey)} {Q : List CF} {s : CSt}
theorem CAtQ.use (h : CAtQ w cb fb X room most s tb X1 XF ME Q clock) {x : CF} (hx : x ∈ Q) : CAt ((w.setCell ⟨cb, 3, none⟩ (.int .i64 ((s.clk : Int) + 1))).setCell ⟨x.blk, 2, none⟩ (.int .i64 ((s.clk : Int) + 1))) cb fb X room most { s with L := luse x.key id s.L, clk := s.clk + 1 } := by
  obtain ⟨r1, r2, r3⟩ := use_rep h.rep hx (h.ord.wo _)
  exact ⟨tb, X1, XF, ME, _, clock, r1, r2, by rw [r3, h.abs], h.x1, h.xf, h.xs⟩
theorem cput_long (h : CAt w cb fb X room most s) (hI : CInv room most s) (k : CKey) (dt : List UInt8) (hc : s.clk + 1 ≤ 9223372036854775806) (hkn : k.1.length ≤ 9223372036854775807) (hd : 122 < dt.length) (hd2 : dt.length ≤ 9223372036854775807) : Calls Tryz.prog 38 #[.pointer (some ⟨cb, 0, none⟩), .string ⟨k.1.toArray⟩, .int .i64 k.2, .string ⟨dt.toArray⟩] w fun e w' => e = .returned (.int .i64 (cput room most k dt s).1) ∧ (∃ X', CAt w' cb fb X' room most (cput room most k dt s).2 ∧ ∀ j, X' j → X j ∨ w.heap.size ≤ j) ∧ Fr X w w' := by
  have HA := hide h
  have HN := hide (cnone_ok h)
  have HE := hide (fun w => pg_enc_long ⟨dt.toArray⟩ (by show 122 < dt.toArray.size; simpa using hd) w)
  have HR : Hid (cput room most k dt s = (3, s)) := by
    show cput room most k dt s = _
    unfold cput
    rw [if_pos hd]
  rw [HR.out]
  clear h hI HR
  go_enter Tryz.func38, Tryz.ntmps38
  go_wp2_with fail
  go_at_call 61
  refine HN.out.mono ?_
  rintro e w1 ⟨rfl, rfl⟩
  go_wp2_with fail
  go_at_call 17
  refine (HE.out _).mono ?_
  rintro e w2 ⟨rfl, rfl⟩
  go_wp2
  go_ret
  exact ⟨rfl, ⟨X, HA.out, fun j hj => .inl hj⟩, Fr.refl _ _⟩
theorem cput_there (h : CAt w cb fb X room most s) (hI : CInv room most s) (k : CKey) (dt : List UInt8) (hc : s.clk + 1 ≤ 9223372036854775806) (hkn : k.1.length ≤ 9223372036854775807) (hd : dt.length ≤ 122) {y : CE} (hy : lget k s.L = some y) : Calls Tryz.prog 38 #[.pointer (some ⟨cb, 0, none⟩), .string ⟨k.1.toArray⟩, .int .i64 k.2, .string ⟨dt.toArray⟩] w fun e w' => e = .returned (.int .i64 (cput room most k dt s).1) ∧ (∃ X', CAt w' cb fb X' room most (cput room most k dt s).2 ∧ ∀ j, X' j → X j ∨ w.heap.size ≤ j) ∧ Fr X w w' := by
  have HN := hide (cnone_ok h)
  obtain ⟨tb, X1, XF, ME, Q, clock, h⟩ := h.q
  have HQ := hide h
  have e0 : ((⟨dt.toArray⟩ : ByteArray)).data.toList = dt := by simp
  have HE := hide (fun w => pg_enc ⟨dt.toArray⟩ (by show dt.toArray.size ≤ 122; simpa using hd) w)
  rw [e0] at HE
  have HPL : Hid ((encB dt).length = 128) := encB_len hd
  have HP := hide (fun W (hf : Fr (fun _ => False) w W) => fput_any (h.rep.fs.up hf) hI.fs k.1 k.2 (encB dt) hkn (by rw [HPL.out]; omega))
  have HERR : Hid ((fsput room s.F k.1 k.2 (encB dt)).1 ≠ 0 → (fsput room s.F k.1 k.2 (encB dt)).2 = s.F) := fsput_err
  obtain ⟨r, hr⟩ : ∃ r, fsput room s.F k.1 k.2 (encB dt) = r := ⟨_, rfl⟩
  have hgx : ∃ x ∈ Q, x.key = k := by
    rcases key_cases Q k with h1 | h1
    · exact h1
    · rw [← h.abs, abs_find, List.find?_eq_none.2 (by simpa using h1)] at hy
      cases hy
  obtain ⟨x, hx, hxk⟩ := hgx
  have hg : aget k ME = some (ptr x.blk) := by rw [← hxk]; exact h.rep.get_some hx
  have HX := hide (And.intro hx hxk)
  rw [hr] at HP HERR
  by_cases hz : r.1 = 0
  · have HRR : Hid (cput room most k dt s = (0, { s with F := r.2, L := luse k (fun x => { x with data := dt }) s.L, clk := s.clk + 1 })) := by
      show cput room most k dt s = _
      unfold cput
      rw [if_neg (by omega), hy, hr, if_neg (by simp), if_neg (by simpa using hz), if_pos (by rfl)]
    rw [hz] at HP
    clear h hI hr hz hx hxk
    go_enter Tryz.func38, Tryz.ntmps38
    go_wp2_with fail
    go_at_call 61
    refine HN.out.mono ?_
    rintro e w1 ⟨rfl, rfl⟩
    go_wp2_with fail
    go_at_call 17
    refine (HE.out _).mono ?_
    rintro e W2 ⟨rfl, hf2⟩
    have HF2 := hide hf2
    clear hf2
    go_wp2_with fail
    obtain ⟨kb, hkb⟩ : ∃ kb, W2.heap.size = kb := ⟨_, rfl⟩
    rw [hkb]
    obtain ⟨W3, hW3⟩ : ∃ W3, W3 = W2.alloc (.cells #[.string ⟨k.1.toArray⟩, .int .i64 k.2] 139) := ⟨_, rfl⟩
    rw [← hW3]
    have HF3 := hide (show Fr (fun _ => False) w W3 by rw [hW3]; exact HF2.out.alloc _)
    have HKB : Hid (Blk W3 kb 139 (kcells k)) := by rw [hW3, ← hkb]; exact Blk.new W2 139 _
    have HKG := hide (show w.heap.size ≤ kb by rw [← hkb]; exact HF2.out.size)
    clear hW3 hkb
    have HLK := hide (fun W (hS : Fr (fun _ => False) W3 W) => (⟨(HKB.out.fr hS id).cell 0 |>.trans rfl, (HKB.out.fr hS id).cell 1 |>.trans rfl, ((HQ.out.rep.blk.fr (HF3.out.then_ hS) id).cell 2).trans rfl, by
        have := lookup_ok (P := Tryz.prog) key_ck mapc framep_zero (HQ.out.rep.map.fr (HF3.out.then_ hS) id) k
        rw [hg] at this
        exact this⟩ : W.cell? ⟨kb, 0, none⟩ = some (.string ⟨k.1.toArray⟩) ∧ W.cell? ⟨kb, 1, none⟩ = some (.int .i64 k.2) ∧ W.cell? ⟨cb, 2, none⟩ = some (.map (some tb)) ∧ (Instr.lookup 59 (.map (some tb)) (.agg #[.string ⟨k.1.toArray⟩, .int .i64 k.2]) true).run Tryz.prog W = .ok (.tuple #[.pointer (some ⟨x.blk, 0, none⟩), .bool true]) W))
    refine wp_region_reads (fun W => Fr (fun _ => False) W3 W) (by kernel_rfl) (by kernel_rfl) (Fr.refl _ _).drew ?_
    iterate 11
      refine readsY_cons ?_ ?_ (fun W hS => ?_) ?_
      · rfl
      rotate_left
      · (obtain ⟨s1, s2, s3, s4⟩ := HLK.out W hS; go_simp; try with_reducible rfl)
      simp only [List.getElem_toArray, List.getElem_cons_zero, List.getElem_cons_succ, Act.put, List.setIfInBounds_toArray, List.set_cons_zero, List.set_cons_succ]
    simp only [wpReadsY]
    refine NoPanic.normal ?_
    obtain ⟨W4, hW4⟩ : ∃ W4, W4 = W3.drew := ⟨_, rfl⟩
    rw [← hW4]
    have F34 : Fr (fun _ => False) W3 W4 := by rw [hW4]; exact (Fr.refl _ _).drew
    have HF4 := hide (HF3.out.then_ F34)
    have HKB4 := hide (HKB.out.fr F34 id)
    clear F34 hW4
    have f0 : W4.cell? ⟨cb, 0, none⟩ = some (.pointer (some ⟨fb, 0, none⟩)) := ((HQ.out.rep.blk.fr HF4.out id).cell 0).trans rfl
    go_wp2_with fail
    go_at_call 19
    refine (HP.out _ HF4.out).mono ?_
    rintro e W5 ⟨rfl, ⟨XF', hat, hx5⟩, hf5⟩
    have hsz4 := HF4.out.size
    have HR5 := hide ((HQ.out.rep.keep HF4.out (fun _ _ h => h)).fsop hf5 (fun _ h => h) hat hx5)
    have HF5 := hide ((HF4.out.mono (S' := X) (fun _ h => h.elim)).trans hf5 (fun _ h => .inl (HQ.out.xf _ h)))
    have HX5 := hide (show ∀ j, XF' j → X j ∨ w.heap.size ≤ j from fun j hj => by
      rcases hx5 j hj with h | h
      · exact .inl (HQ.out.xf _ h)
      · exact .inr (by omega))
    have HKB5 := hide (HKB4.out.fr hf5 (fun hx => by have := HQ.out.rep.fs.lt _ hx; have := HKG.out; omega))
    clear hat hx5 hf5 f0 hsz4
    have hfx := HR5.out.frm x HX.out.1
    have hzz : W5.frozen? ⟨x.blk, 0, none⟩ = false := hfx.1.frozen 0
    obtain ⟨W6, hW6⟩ : ∃ W6, W6 = W5.setCell ⟨x.blk, 0, none⟩ (.string ⟨dt.toArray⟩) := ⟨_, rfl⟩
    have hx0 : ∃ v, W5.cell? ⟨x.blk, 0, none⟩ = some v := ⟨_, (hfx.1.cell 0).trans rfl⟩
    obtain ⟨v0, hv0⟩ := hx0
    have hq6 : CAtQ W6 cb fb (fun j => X1 j ∨ XF' j) room most { s with F := r.2, L := lmap x.key (fun x => { x with data := dt }) s.L } tb X1 XF' ME (Q.map fun y => if y.key = x.key then { x with data := dt } else y) clock := by
      rw [hW6]
      exact CAtQ.turn (s := { s with F := r.2 }) ⟨HR5.out, HQ.out.ord, HQ.out.abs, fun j hj => .inl hj, fun j hj => .inr hj, fun j hj => hj⟩ HX.out.1 { x with data := dt } 0 (.string ⟨dt.toArray⟩) rfl rfl rfl rfl (by unfold CF.cells strv; simp) (fun x => { x with data := dt }) rfl
    have hxm : { x with data := dt } ∈ (Q.map fun y => if y.key = x.key then { x with data := dt } else y) := List.mem_map.2 ⟨x, HX.out.1, by rw [if_pos rfl]⟩
    have HU := hide (cuse_ok hq6.rep hxm (by omega) (by simp only; omega))
    have HC := hide (hq6.use hxm)
    have HF6 := hide (show Fr X w W6 by rw [hW6]; exact HF5.out.setCell (p := ⟨x.blk, 0, none⟩) (.inl (HQ.out.x1 _ hfx.2.1)) _)
    have HW6 := hide hW6
    clear hW6 hq6 hxm hfx
    go_wp2_with fail
    rw [← HW6.out]
    go_at_call 86
    refine HU.out.mono ?_
    rintro e W8 ⟨rfl, rfl⟩
    go_wp2
    go_ret
    rw [HRR.out]
    refine ⟨rfl, ⟨fun j => X1 j ∨ XF' j, ?_, fun j hj => hj.elim (fun hj => .inl (HQ.out.x1 _ hj)) (HX5.out j)⟩, ?_⟩
    · have := HC.out
      rw [HX.out.2, luse_lmap (k := k) (f := fun x => { x with data := dt }) (fun _ => rfl)] at this
      exact this
    · have hfx := (HQ.out.rep.frm x HX.out.1).2.1
      exact (HF6.out.setCell (p := ⟨cb, 3, none⟩) (.inl (HQ.out.x1 _ HQ.out.rep.xc)) _).setCell (p := ⟨x.blk, 2, none⟩) (.inl (HQ.out.x1 _ hfx)) _
  · have HRR : Hid (cput room most k dt s = (r.1, s)) := by
      show cput room most k dt s = _
      unfold cput
      rw [if_neg (by omega), hy, hr, if_neg (by simp), if_pos (by simpa using hz)]
    clear h hI hr hx hxk
    go_enter Tryz.func38, Tryz.ntmps38
    go_wp2_with fail
    go_at_call 61
    refine HN.out.mono ?_
    rintro e w1 ⟨rfl, rfl⟩
    go_wp2_with fail
    go_at_call 17
    refine (HE.out _).mono ?_
    rintro e W2 ⟨rfl, hf2⟩
    have HF2 := hide hf2
    clear hf2
    go_wp2_with fail
    obtain ⟨kb, hkb⟩ : ∃ kb, W2.heap.size = kb := ⟨_, rfl⟩
    rw [hkb]
    obtain ⟨W3, hW3⟩ : ∃ W3, W3 = W2.alloc (.cells #[.string ⟨k.1.toArray⟩, .int .i64 k.2] 139) := ⟨_, rfl⟩
    rw [← hW3]
    have HF3 := hide (show Fr (fun _ => False) w W3 by rw [hW3]; exact HF2.out.alloc _)
    have HKB : Hid (Blk W3 kb 139 (kcells k)) := by rw [hW3, ← hkb]; exact Blk.new W2 139 _
    have HKG := hide (show w.heap.size ≤ kb by rw [← hkb]; exact HF2.out.size)
    clear hW3 hkb
    have HLK := hide (fun W (hS : Fr (fun _ => False) W3 W) => (⟨(HKB.out.fr hS id).cell 0 |>.trans rfl, (HKB.out.fr hS id).cell 1 |>.trans rfl, ((HQ.out.rep.blk.fr (HF3.out.then_ hS) id).cell 2).trans rfl, by
        have := lookup_ok (P := Tryz.prog) key_ck mapc framep_zero (HQ.out.rep.map.fr (HF3.out.then_ hS) id) k
        rw [hg] at this
        exact this⟩ : W.cell? ⟨kb, 0, none⟩ = some (.string ⟨k.1.toArray⟩) ∧ W.cell? ⟨kb, 1, none⟩ = some (.int .i64 k.2) ∧ W.cell? ⟨cb, 2, none⟩ = some (.map (some tb)) ∧ (Instr.lookup 59 (.map (some tb)) (.agg #[.string ⟨k.1.toArray⟩, .int .i64 k.2]) true).run Tryz.prog W = .ok (.tuple #[.pointer (some ⟨x.blk, 0, none⟩), .bool true]) W))
    refine wp_region_reads (fun W => Fr (fun _ => False) W3 W) (by kernel_rfl) (by kernel_rfl) (Fr.refl _ _).drew ?_
    iterate 11
      refine readsY_cons ?_ ?_ (fun W hS => ?_) ?_
      · rfl
      rotate_left
      · (obtain ⟨s1, s2, s3, s4⟩ := HLK.out W hS; go_simp; try with_reducible rfl)
      simp only [List.getElem_toArray, List.getElem_cons_zero, List.getElem_cons_succ, Act.put, List.setIfInBounds_toArray, List.set_cons_zero, List.set_cons_succ]
    simp only [wpReadsY]
    refine NoPanic.normal ?_
    obtain ⟨W4, hW4⟩ : ∃ W4, W4 = W3.drew := ⟨_, rfl⟩
    rw [← hW4]
    have F34 : Fr (fun _ => False) W3 W4 := by rw [hW4]; exact (Fr.refl _ _).drew
    have HF4 := hide (HF3.out.then_ F34)
    have HKB4 := hide (HKB.out.fr F34 id)
    clear F34 hW4
    have f0 : W4.cell? ⟨cb, 0, none⟩ = some (.pointer (some ⟨fb, 0, none⟩)) := ((HQ.out.rep.blk.fr HF4.out id).cell 0).trans rfl
    go_wp2_with fail
    go_at_call 19
    refine (HP.out _ HF4.out).mono ?_
    rintro e W5 ⟨rfl, ⟨XF', hat, hx5⟩, hf5⟩
    have hsz4 := HF4.out.size
    have HR5 := hide ((HQ.out.rep.keep HF4.out (fun _ _ h => h)).fsop hf5 (fun _ h => h) hat hx5)
    have HF5 := hide ((HF4.out.mono (S' := X) (fun _ h => h.elim)).trans hf5 (fun _ h => .inl (HQ.out.xf _ h)))
    have HX5 := hide (show ∀ j, XF' j → X j ∨ w.heap.size ≤ j from fun j hj => by
      rcases hx5 j hj with h | h
      · exact .inl (HQ.out.xf _ h)
      · exact .inr (by omega))
    have HKB5 := hide (HKB4.out.fr hf5 (fun hx => by have := HQ.out.rep.fs.lt _ hx; have := HKG.out; omega))
    clear hat hx5 hf5 f0 hsz4
    have b0 : (r.1 == 0) = false := by simpa using hz
    have b1 : (r.1 != 0) = true := by simpa using hz
    go_wp2
    go_ret
    rw [HRR.out]
    refine ⟨rfl, ⟨fun j => X1 j ∨ XF' j, ⟨tb, X1, XF', ME, Q, clock, by have := HR5.out; rw [HERR.out hz] at this; exact this, HQ.out.ord, HQ.out.abs, fun j hj => .inl hj, fun j hj => .inr hj, fun j hj => hj⟩, fun j hj => hj.elim (fun hj => .inl (HQ.out.x1 _ hj)) (HX5.out j)⟩, HF5.out⟩
theorem cput_new (h : CAt w cb fb X room most s) (hI : CInv room most s) (k : CKey) (dt : List UInt8) (hc : s.clk + 1 ≤ 9223372036854775806) (hkn : k.1.length ≤ 9223372036854775807) (hd : dt.length ≤ 122) (hy : lget k s.L = none) : Calls Tryz.prog 38 #[.pointer (some ⟨cb, 0, none⟩), .string ⟨k.1.toArray⟩, .int .i64 k.2, .string ⟨dt.toArray⟩] w fun e w' => e = .returned (.int .i64 (cput room most k dt s).1) ∧ (∃ X', CAt w' cb fb X' room most (cput room most k dt s).2 ∧ ∀ j, X' j → X j ∨ w.heap.size ≤ j) ∧ Fr X w w' := by
  have HN := hide (cnone_ok h)
  obtain ⟨tb, X1, XF, ME, Q, clock, h⟩ := h.q
  have HQ := hide h
  have e0 : ((⟨dt.toArray⟩ : ByteArray)).data.toList = dt := by simp
  have HE := hide (fun w => pg_enc ⟨dt.toArray⟩ (by show dt.toArray.size ≤ 122; simpa using hd) w)
  rw [e0] at HE
  have HPL : Hid ((encB dt).length = 128) := encB_len hd
  have HP := hide (fun W (hf : Fr (fun _ => False) w W) => fput_any (h.rep.fs.up hf) hI.fs k.1 k.2 (encB dt) hkn (by rw [HPL.out]; omega))
  have HERR : Hid ((fsput room s.F k.1 k.2 (encB dt)).1 ≠ 0 → (fsput room s.F k.1 k.2 (encB dt)).2 = s.F) := fsput_err
  obtain ⟨r, hr⟩ : ∃ r, fsput room s.F k.1 k.2 (encB dt) = r := ⟨_, rfl⟩
  have hno : ∀ x ∈ Q, x.key ≠ k := fun x hx e => by
    have := get_none_iff.1 hy x.abs (by rw [← h.abs]; exact List.mem_map_of_mem hx)
    exact this e
  have hg := h.rep.get_none hno
  have HNO := hide hno
  have HFU := hide (fun W (hf : Fr (fun _ => False) w W) => cfull_ok (h.rep.keep hf (fun _ _ h => h)) h.ord)
  rw [h.abs] at HFU
  rw [hr] at HP HERR
  cases hf : lfull most s.L with
  | true =>
    have HRR : Hid (cput room most k dt s = (70, s)) := by
      show cput room most k dt s = _
      unfold cput
      rw [if_neg (by omega), hy, hf, if_pos (by rfl)]
    rw [hf] at HFU
    clear h hI hr hno
    go_enter Tryz.func38, Tryz.ntmps38
    go_wp2_with fail
    go_at_call 61
    refine HN.out.mono ?_
    rintro e w1 ⟨rfl, rfl⟩
    go_wp2_with fail
    go_at_call 17
    refine (HE.out _).mono ?_
    rintro e W2 ⟨rfl, hf2⟩
    have HF2 := hide hf2
    clear hf2
    go_wp2_with fail
    obtain ⟨kb, hkb⟩ : ∃ kb, W2.heap.size = kb := ⟨_, rfl⟩
    rw [hkb]
    obtain ⟨W3, hW3⟩ : ∃ W3, W3 = W2.alloc (.cells #[.string ⟨k.1.toArray⟩, .int .i64 k.2] 139) := ⟨_, rfl⟩
    rw [← hW3]
    have HF3 := hide (show Fr (fun _ => False) w W3 by rw [hW3]; exact HF2.out.alloc _)
    have HKB : Hid (Blk W3 kb 139 (kcells k)) := by rw [hW3, ← hkb]; exact Blk.new W2 139 _
    have HKG := hide (show w.heap.size ≤ kb by rw [← hkb]; exact HF2.out.size)
    clear hW3 hkb
    have HLK := hide (fun W (hS : Fr (fun _ => False) W3 W) => (⟨(HKB.out.fr hS id).cell 0 |>.trans rfl, (HKB.out.fr hS id).cell 1 |>.trans rfl, ((HQ.out.rep.blk.fr (HF3.out.then_ hS) id).cell 2).trans rfl, by
        have := lookup_ok (P := Tryz.prog) key_ck mapc framep_zero (HQ.out.rep.map.fr (HF3.out.then_ hS) id) k
        rw [hg] at this
        exact this⟩ : W.cell? ⟨kb, 0, none⟩ = some (.string ⟨k.1.toArray⟩) ∧ W.cell? ⟨kb, 1, none⟩ = some (.int .i64 k.2) ∧ W.cell? ⟨cb, 2, none⟩ = some (.map (some tb)) ∧ (Instr.lookup 59 (.map (some tb)) (.agg #[.string ⟨k.1.toArray⟩, .int .i64 k.2]) true).run Tryz.prog W = .ok (.tuple #[.pointer none, .bool false]) W))
    refine wp_region_reads (fun W => Fr (fun _ => False) W3 W) (by kernel_rfl) (by kernel_rfl) (Fr.refl _ _).drew ?_
    iterate 11
      refine readsY_cons ?_ ?_ (fun W hS => ?_) ?_
      · rfl
      rotate_left
      · (obtain ⟨s1, s2, s3, s4⟩ := HLK.out W hS; go_simp; try with_reducible rfl)
      simp only [List.getElem_toArray, List.getElem_cons_zero, List.getElem_cons_succ, Act.put, List.setIfInBounds_toArray, List.set_cons_zero, List.set_cons_succ]
    simp only [wpReadsY]
    refine NoPanic.normal ?_
    obtain ⟨W4, hW4⟩ : ∃ W4, W4 = W3.drew := ⟨_, rfl⟩
    rw [← hW4]
    have HF4 := hide (show Fr (fun _ => False) w W4 by rw [hW4]; exact HF3.out.drew)
    clear hW4
    go_wp2_with fail
    go_at_call 84
    refine (HFU.out _ HF4.out).mono ?_
    rintro e W5 ⟨rfl, hf5⟩
    have HF5 := hide (HF4.out.then_ hf5)
    clear hf5
    go_wp2
    go_ret
    rw [HRR.out]
    exact ⟨rfl, ⟨X, HQ.out.at.up HF5.out, fun j hj => .inl hj⟩, HF5.out.mono (fun _ h => h.elim)⟩
  | false =>
    rw [hf] at HFU
    by_cases hz : r.1 = 0
    · have HRR : Hid (cput room most k dt s = (0, { s with F := r.2, L := lroom most s.L ++ [⟨k, dt, 0⟩], clk := s.clk + 1 })) := by
        show cput room most k dt s = _
        unfold cput
        rw [if_neg (by omega), hy, hf, hr, if_neg (by simp), if_neg (by simpa using hz), if_neg (by simp)]
      rw [hz] at HP
      clear h hI hr hz hno
      go_enter Tryz.func38, Tryz.ntmps38
      go_wp2_with fail
      go_at_call 61
      refine HN.out.mono ?_
      rintro e w1 ⟨rfl, rfl⟩
      go_wp2_with fail
      go_at_call 17
      refine (HE.out _).mono ?_
      rintro e W2 ⟨rfl, hf2⟩
      have HF2 := hide hf2
      clear hf2
      go_wp2_with fail
      obtain ⟨kb, hkb⟩ : ∃ kb, W2.heap.size = kb := ⟨_, rfl⟩
      rw [hkb]
      obtain ⟨W3, hW3⟩ : ∃ W3, W3 = W2.alloc (.cells #[.string ⟨k.1.toArray⟩, .int .i64 k.2] 139) := ⟨_, rfl⟩
      rw [← hW3]
      have HF3 := hide (show Fr (fun _ => False) w W3 by rw [hW3]; exact HF2.out.alloc _)
      have HKB : Hid (Blk W3 kb 139 (kcells k)) := by rw [hW3, ← hkb]; exact Blk.new W2 139 _
      have HKG := hide (show w.heap.size ≤ kb by rw [← hkb]; exact HF2.out.size)
      clear hW3 hkb
      have HLK := hide (fun W (hS : Fr (fun _ => False) W3 W) => (⟨(HKB.out.fr hS id).cell 0 |>.trans rfl, (HKB.out.fr hS id).cell 1 |>.trans rfl, ((HQ.out.rep.blk.fr (HF3.out.then_ hS) id).cell 2).trans rfl, by
          have := lookup_ok (P := Tryz.prog) key_ck mapc framep_zero (HQ.out.rep.map.fr (HF3.out.then_ hS) id) k
          rw [hg] at this
          exact this⟩ : W.cell? ⟨kb, 0, none⟩ = some (.string ⟨k.1.toArray⟩) ∧ W.cell? ⟨kb, 1, none⟩ = some (.int .i64 k.2) ∧ W.cell? ⟨cb, 2, none⟩ = some (.map (some tb)) ∧ (Instr.lookup 59 (.map (some tb)) (.agg #[.string ⟨k.1.toArray⟩, .int .i64 k.2]) true).run Tryz.prog W = .ok (.tuple #[.pointer none, .bool false]) W))
      refine wp_region_reads (fun W => Fr (fun _ => False) W3 W) (by kernel_rfl) (by kernel_rfl) (Fr.refl _ _).drew ?_
      iterate 11
        refine readsY_cons ?_ ?_ (fun W hS => ?_) ?_
        · rfl
        rotate_left
        · (obtain ⟨s1, s2, s3, s4⟩ := HLK.out W hS; go_simp; try with_reducible rfl)
        simp only [List.getElem_toArray, List.getElem_cons_zero, List.getElem_cons_succ, Act.put, List.setIfInBounds_toArray, List.set_cons_zero, List.set_cons_succ]
      simp only [wpReadsY]
      refine NoPanic.normal ?_
      obtain ⟨W4a, hW4a⟩ : ∃ W4a, W4a = W3.drew := ⟨_, rfl⟩
      rw [← hW4a]
      have HFa := hide (show Fr (fun _ => False) W3 W4a by rw [hW4a]; exact (Fr.refl _ _).drew)
      clear hW4a
      go_wp2_with fail
      go_at_call 84
      refine (HFU.out _ (HF3.out.then_ HFa.out)).mono ?_
      rintro e W4f ⟨rfl, hf4⟩
      have HFf := hide (HFa.out.then_ hf4)
      clear hf4
      have f0 : W4f.cell? ⟨cb, 0, none⟩ = some (.pointer (some ⟨fb, 0, none⟩)) := ((HQ.out.rep.blk.fr (HF3.out.then_ HFf.out) id).cell 0).trans rfl
      obtain ⟨W4, hW4⟩ : ∃ W4, W4 = W4f := ⟨_, rfl⟩
      rw [← hW4]
      have F34 : Fr (fun _ => False) W3 W4 := by rw [hW4]; exact HFf.out
      have HF4 := hide (HF3.out.then_ F34)
      have HKB4 := hide (HKB.out.fr F34 id)
      clear F34 hW4
      have f0 : W4.cell? ⟨cb, 0, none⟩ = some (.pointer (some ⟨fb, 0, none⟩)) := ((HQ.out.rep.blk.fr HF4.out id).cell 0).trans rfl
      go_wp2_with fail
      go_at_call 19
      refine (HP.out _ HF4.out).mono ?_
      rintro e W5 ⟨rfl, ⟨XF', hat, hx5⟩, hf5⟩
      have hsz4 := HF4.out.size
      have HR5 := hide ((HQ.out.rep.keep HF4.out (fun _ _ h => h)).fsop hf5 (fun _ h => h) hat hx5)
      have HF5 := hide ((HF4.out.mono (S' := X) (fun _ h => h.elim)).trans hf5 (fun _ h => .inl (HQ.out.xf _ h)))
      have HX5 := hide (show ∀ j, XF' j → X j ∨ w.heap.size ≤ j from fun j hj => by
        rcases hx5 j hj with h | h
        · exact .inl (HQ.out.xf _ h)
        · exact .inr (by omega))
      have HKB5 := hide (HKB4.out.fr hf5 (fun hx => by have := HQ.out.rep.fs.lt _ hx; have := HKG.out; omega))
      clear hat hx5 hf5 f0 hsz4
      have k0 : W5.cell? ⟨kb, 0, none⟩ = some (.string ⟨k.1.toArray⟩) := (HKB5.out.cell 0).trans rfl
      have k1 : W5.cell? ⟨kb, 1, none⟩ = some (.int .i64 k.2) := (HKB5.out.cell 1).trans rfl
      have HCO := hide (ccome_ok HR5.out HQ.out.ord k HNO.out dt)
      go_wp2_with fail
      go_at_call 85
      refine HCO.out.mono ?_
      rintro e W7 ⟨g, X', ME', Q1, clock', b, rfl, hr7, hq7, ho7, hx7, hf7⟩
      have hwl := wo_last hr7.nd
      have hfx := hr7.frm ⟨k, dt, 0, 0, g, b⟩ (by simp)
      have hzz : W7.frozen? ⟨g, 0, none⟩ = false := hfx.1.frozen 0
      have hv0 : W7.cell? ⟨g, 0, none⟩ = some (.string ⟨dt.toArray⟩) := (hfx.1.cell 0).trans rfl
      obtain ⟨W8, hW8⟩ : ∃ W8, W8 = W7.setCell ⟨g, 0, none⟩ (.string ⟨dt.toArray⟩) := ⟨_, rfl⟩
      have hr8 : CRep W8 cb fb tb X' XF' room s.left r.2 (most : Int) ME' (Q1 ++ [⟨k, dt, 0, 0, g, b⟩]) (s.clk : Int) clock' := by
        rw [hW8]
        have := hr7.turn (x := ⟨k, dt, 0, 0, g, b⟩) (by simp) ⟨k, dt, 0, 0, g, b⟩ 0 (.string ⟨dt.toArray⟩) rfl rfl rfl (by unfold CF.cells strv; simp)
        have e : ((Q1 ++ [(⟨k, dt, 0, 0, g, b⟩ : CF)]).map fun y => if y.key = k then ⟨k, dt, 0, 0, g, b⟩ else y) = Q1 ++ [⟨k, dt, 0, 0, g, b⟩] := by
          conv => rhs; rw [← List.map_id (Q1 ++ [(⟨k, dt, 0, 0, g, b⟩ : CF)])]
          refine List.map_congr_left fun y hy => ?_
          split
          · next e => exact (nodup_inj hr7.nd hy (x := y) (y := ⟨k, dt, 0, 0, g, b⟩) (by simp) e).symm
          · rfl
        rw [e] at this
        exact this
      have HU := hide (cuse_ok hr8 (x := ⟨k, dt, 0, 0, g, b⟩) (by simp) (by omega) (by omega))
      have HRP := hide (use_rep hr8 (x := ⟨k, dt, 0, 0, g, b⟩) (by simp) (by rw [hwl]; exact ho7))
      have hsz5 := HF5.out.size
      have HX7 := hide (show ∀ j, X' j → X j ∨ w.heap.size ≤ j from fun j hj => by
        rcases hx7 j hj with h | h
        · exact .inl (HQ.out.x1 _ h)
        · exact .inr (by omega))
      have HF8 := hide (show Fr X w W8 by
        rw [hW8]
        exact (HF5.out.trans hf7 (fun j hj => .inl (HQ.out.x1 _ hj))).setCell (p := ⟨g, 0, none⟩) (HX7.out _ hfx.2.1) _)
      have HWL := hide (And.intro hwl (And.intro hq7 hfx.2.1))
      have HW8 := hide hW8
      clear hr7 hq7 ho7 hx7 hf7 hwl hfx hW8 hr8 hsz5 k0 k1
      go_wp2_with fail
      rw [← HW8.out]
      go_at_call 86
      refine HU.out.mono ?_
      rintro e W9 ⟨rfl, rfl⟩
      go_wp2
      go_ret
      rw [HRR.out]
      obtain ⟨r1, r2, r3⟩ := HRP.out
      obtain ⟨hwl, hq7, hxg⟩ := HWL.out
      refine ⟨rfl, ⟨fun j => X' j ∨ XF' j, ⟨tb, X', XF', ME', ((Q1 ++ [(⟨k, dt, 0, 0, g, b⟩ : CF)]).filter fun y : CF => decide (y.key ≠ k)) ++ [⟨k, dt, 0, (s.clk : Int) + 1, g, b⟩], clock', r1, r2, ?_, fun j hj => .inl hj, fun j hj => .inr hj, fun j hj => hj⟩, fun j hj => hj.elim (HX7.out j) (HX5.out j)⟩, ?_⟩
      · rw [hwl, List.map_append, hq7, HQ.out.abs]
        rfl
      · exact (HF8.out.setCell (p := ⟨cb, 3, none⟩) (.inl (HQ.out.x1 _ HQ.out.rep.xc)) _).setCell (p := ⟨g, 2, none⟩) (HX7.out _ hxg) _
    · have HRR : Hid (cput room most k dt s = (r.1, s)) := by
        show cput room most k dt s = _
        unfold cput
        rw [if_neg (by omega), hy, hf, hr, if_neg (by simp), if_pos (by simpa using hz)]
      clear h hI hr hno
      go_enter Tryz.func38, Tryz.ntmps38
      go_wp2_with fail
      go_at_call 61
      refine HN.out.mono ?_
      rintro e w1 ⟨rfl, rfl⟩
      go_wp2_with fail
      go_at_call 17
      refine (HE.out _).mono ?_
      rintro e W2 ⟨rfl, hf2⟩
      have HF2 := hide hf2
      clear hf2
      go_wp2_with fail
      obtain ⟨kb, hkb⟩ : ∃ kb, W2.heap.size = kb := ⟨_, rfl⟩
      rw [hkb]
      obtain ⟨W3, hW3⟩ : ∃ W3, W3 = W2.alloc (.cells #[.string ⟨k.1.toArray⟩, .int .i64 k.2] 139) := ⟨_, rfl⟩
      rw [← hW3]
      have HF3 := hide (show Fr (fun _ => False) w W3 by rw [hW3]; exact HF2.out.alloc _)
      have HKB : Hid (Blk W3 kb 139 (kcells k)) := by rw [hW3, ← hkb]; exact Blk.new W2 139 _
      have HKG := hide (show w.heap.size ≤ kb by rw [← hkb]; exact HF2.out.size)
      clear hW3 hkb
      have HLK := hide (fun W (hS : Fr (fun _ => False) W3 W) => (⟨(HKB.out.fr hS id).cell 0 |>.trans rfl, (HKB.out.fr hS id).cell 1 |>.trans rfl, ((HQ.out.rep.blk.fr (HF3.out.then_ hS) id).cell 2).trans rfl, by
          have := lookup_ok (P := Tryz.prog) key_ck mapc framep_zero (HQ.out.rep.map.fr (HF3.out.then_ hS) id) k
          rw [hg] at this
          exact this⟩ : W.cell? ⟨kb, 0, none⟩ = some (.string ⟨k.1.toArray⟩) ∧ W.cell? ⟨kb, 1, none⟩ = some (.int .i64 k.2) ∧ W.cell? ⟨cb, 2, none⟩ = some (.map (some tb)) ∧ (Instr.lookup 59 (.map (some tb)) (.agg #[.string ⟨k.1.toArray⟩, .int .i64 k.2]) true).run Tryz.prog W = .ok (.tuple #[.pointer none, .bool false]) W))
      refine wp_region_reads (fun W => Fr (fun _ => False) W3 W) (by kernel_rfl) (by kernel_rfl) (Fr.refl _ _).drew ?_
      iterate 11
        refine readsY_cons ?_ ?_ (fun W hS => ?_) ?_
        · rfl
        rotate_left
        · (obtain ⟨s1, s2, s3, s4⟩ := HLK.out W hS; go_simp; try with_reducible rfl)
        simp only [List.getElem_toArray, List.getElem_cons_zero, List.getElem_cons_succ, Act.put, List.setIfInBounds_toArray, List.set_cons_zero, List.set_cons_succ]
      simp only [wpReadsY]
      refine NoPanic.normal ?_
      obtain ⟨W4a, hW4a⟩ : ∃ W4a, W4a = W3.drew := ⟨_, rfl⟩
      rw [← hW4a]
      have HFa := hide (show Fr (fun _ => False) W3 W4a by rw [hW4a]; exact (Fr.refl _ _).drew)
      clear hW4a
      go_wp2_with fail
      go_at_call 84
      refine (HFU.out _ (HF3.out.then_ HFa.out)).mono ?_
      rintro e W4f ⟨rfl, hf4⟩
      have HFf := hide (HFa.out.then_ hf4)
      clear hf4
      have f0 : W4f.cell? ⟨cb, 0, none⟩ = some (.pointer (some ⟨fb, 0, none⟩)) := ((HQ.out.rep.blk.fr (HF3.out.then_ HFf.out) id).cell 0).trans rfl
      obtain ⟨W4, hW4⟩ : ∃ W4, W4 = W4f := ⟨_, rfl⟩
      rw [← hW4]
      have F34 : Fr (fun _ => False) W3 W4 := by rw [hW4]; exact HFf.out
      have HF4 := hide (HF3.out.then_ F34)
      have HKB4 := hide (HKB.out.fr F34 id)
      clear F34 hW4
      have f0 : W4.cell? ⟨cb, 0, none⟩ = some (.pointer (some ⟨fb, 0, none⟩)) := ((HQ.out.rep.blk.fr HF4.out id).cell 0).trans rfl
      go_wp2_with fail
      go_at_call 19
      refine (HP.out _ HF4.out).mono ?_
      rintro e W5 ⟨rfl, ⟨XF', hat, hx5⟩, hf5⟩
      have hsz4 := HF4.out.size
      have HR5 := hide ((HQ.out.rep.keep HF4.out (fun _ _ h => h)).fsop hf5 (fun _ h => h) hat hx5)
      have HF5 := hide ((HF4.out.mono (S' := X) (fun _ h => h.elim)).trans hf5 (fun _ h => .inl (HQ.out.xf _ h)))
      have HX5 := hide (show ∀ j, XF' j → X j ∨ w.heap.size ≤ j from fun j hj => by
        rcases hx5 j hj with h | h
        · exact .inl (HQ.out.xf _ h)
        · exact .inr (by omega))
      have HKB5 := hide (HKB4.out.fr hf5 (fun hx => by have := HQ.out.rep.fs.lt _ hx; have := HKG.out; omega))
      clear hat hx5 hf5 f0 hsz4
      have b0 : (r.1 == 0) = false := by simpa using hz
      have b1 : (r.1 != 0) = true := by simpa using hz
      go_wp2
      go_ret
      rw [HRR.out]
      refine ⟨rfl, ⟨fun j => X1 j ∨ XF' j, ⟨tb, X1, XF', ME, Q, clock, by have := HR5.out; rw [HERR.out hz] at this; exact this, HQ.out.ord, HQ.out.abs, fun j hj => .inl hj, fun j hj => .inr hj, fun j hj => hj⟩, fun j hj => hj.elim (fun hj => .inl (HQ.out.x1 _ hj)) (HX5.out j)⟩, HF5.out⟩
theorem cput_ok (h : CAt w cb fb X room most s) (hI : CInv room most s) (k : CKey) (dt : List UInt8) (hc : s.clk + 1 ≤ 9223372036854775806) (hkn : k.1.length ≤ 9223372036854775807) (hd2 : dt.length ≤ 9223372036854775807) : Calls Tryz.prog 38 #[.pointer (some ⟨cb, 0, none⟩), .string ⟨k.1.toArray⟩, .int .i64 k.2, .string ⟨dt.toArray⟩] w fun e w' => e = .returned (.int .i64 (cput room most k dt s).1) ∧ (∃ X', CAt w' cb fb X' room most (cput room most k dt s).2 ∧ ∀ j, X' j → X j ∨ w.heap.size ≤ j) ∧ Fr X w w' := by
  by_cases hd : 122 < dt.length
  · exact cput_long h hI k dt hc hkn hd hd2
  · cases hy : lget k s.L with
    | some y => exact cput_there h hI k dt hc hkn (by omega) hy
    | none => exact cput_new h hI k dt hc hkn (by omega) hy
end
end Go.Proofs.YtkhbemmcegmdaaaGreatDoor
