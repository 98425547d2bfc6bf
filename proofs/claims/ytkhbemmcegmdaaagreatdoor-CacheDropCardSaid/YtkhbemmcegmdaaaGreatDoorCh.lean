/- A cache's find, Get, Pin, Unpin, Has, Len, by contract. -/
import Derived.Test.YtkhbemmcegmdaaaGreatDoorCg
import Derived.Test.YtkhbemmcegmdaaaGreatDoorCp
set_option linter.all false
set_option linter.unusedVariables false
set_option maxRecDepth 100000
namespace Go.Proofs.YtkhbemmcegmdaaaGreatDoor
open Go.RowKit
open Go.ChangeMaps (setBlock)

structure CAtQ (w : World) (cb fb : Nat) (X : Nat → Prop) (room : Int) (most : Nat) (s : CSt) (tb : Nat) (X1 XF : Nat → Prop) (ME : List (Ent CKey)) (Q : List CF) (clock : Nat) : Prop where
  rep : CRep w cb fb tb X1 XF room s.left s.F (most : Int) ME Q (s.clk : Int) clock
  ord : COrd Q (s.clk : Int)
  abs : Q.map CF.abs = s.L
  x1 : ∀ k, X1 k → X k
  xf : ∀ k, XF k → X k
  xs : ∀ k, X k → X1 k ∨ XF k
section
variable {w w1 : World} {cb fb tb clock most : Nat} {X X1 XF : Nat → Prop} {room left clk : Int} {F : FileL} {ME : List (Ent CKey)} {Q : List CF} {s : CSt}
theorem CAt.q (h : CAt w cb fb X room most s) : ∃ tb X1 XF ME Q clock, CAtQ w cb fb X room most s tb X1 XF ME Q clock := by
  obtain ⟨tb, X1, XF, ME, Q, clock, h1, h2, h3, h4, h5, h6⟩ := h
  exact ⟨tb, X1, XF, ME, Q, clock, ⟨h1, h2, h3, h4, h5, h6⟩⟩
theorem CAtQ.at (h : CAtQ w cb fb X room most s tb X1 XF ME Q clock) : CAt w cb fb X room most s := ⟨tb, X1, XF, ME, Q, clock, h.rep, h.ord, h.abs, h.x1, h.xf, h.xs⟩
theorem use_rep (h : CRep w cb fb tb X XF room left F (most : Int) ME Q clk clock) {x : CF} (hx : x ∈ Q) (ho : COrd (Q.filter fun y : CF => decide (y.key ≠ x.key)) clk) :
    CRep ((w.setCell ⟨cb, 3, none⟩ (.int .i64 (clk + 1))).setCell ⟨x.blk, 2, none⟩ (.int .i64 (clk + 1))) cb fb tb X XF room left F (most : Int) ME ((Q.filter fun y : CF => decide (y.key ≠ x.key)) ++ [{ x with used := clk + 1 }]) (clk + 1) clock ∧
    COrd ((Q.filter fun y : CF => decide (y.key ≠ x.key)) ++ [{ x with used := clk + 1 }]) (clk + 1) ∧ ((Q.filter fun y : CF => decide (y.key ≠ x.key)) ++ [{ x with used := clk + 1 }]).map CF.abs = luse x.key id (Q.map CF.abs) := by
  have h1 := (h.setClk (clk + 1)).turn hx { x with used := clk + 1 } 2 (.int .i64 (clk + 1)) rfl rfl rfl (by unfold CF.cells; simp)
  exact ⟨h1.perm (turn_perm h.nd hx), ho.snoc _ rfl, abs_use h.nd hx id rfl⟩
theorem wo_last {x : CF} {Q1 : List CF} (hn : ((Q1 ++ [x]).map (·.key)).Nodup) : ((Q1 ++ [x]).filter fun y : CF => decide (y.key ≠ x.key)) = Q1 := by
  rw [List.filter_append, List.filter_cons_of_neg (by simp)]
  have : (Q1.filter fun y : CF => decide (y.key ≠ x.key)) = Q1 := List.filter_eq_self.2 fun y hy => by
    rw [List.map_append, List.nodup_append] at hn
    have := hn.2.2 y.key (List.mem_map_of_mem hy) x.key (by simp)
    simpa using this
  rw [this]
  simp
theorem len_pages {room : Int} {F : FileL} (h : FInv room F) (left : Int) (n : Name) (i : Int) : (frd left F n i).2.1.length ≤ 9223372036854775807 := by
  rcases frd_cases left F n i with ⟨e, _⟩ | ⟨e, _⟩ | ⟨e, _, h1, h2⟩
  · rw [e]; simp
  · rw [e]; simp
  · rw [e]
    have hlt : i.toNat < (fpg n F).length := by omega
    simp only
    rw [show (fpg n F).getD i.toNat [] = (fpg n F)[i.toNat] by simp [List.getD, hlt], h.pages n _ (List.getElem_mem hlt)]
    omega
theorem cfind_ok0 (h : CAt w cb fb X room most s) (hI : CInv room most s) (k : CKey) (hc : s.clk + 1 ≤ 9223372036854775807) (h0 : (cfind most k s).1 = 0) : Calls Tryz.prog 66 #[.pointer (some ⟨cb, 0, none⟩), .string ⟨k.1.toArray⟩, .int .i64 k.2] w fun e w' => ∃ tb X' X1 XF ME Q clock x, e = .returned (.tuple #[.pointer (some ⟨x.blk, 0, none⟩), .int .i64 0]) ∧ CAtQ w' cb fb X' room most (cfind most k s).2 tb X1 XF ME Q clock ∧ (∀ j, X' j → X j ∨ w.heap.size ≤ j) ∧ Fr X w w' ∧ x ∈ Q ∧ x.key = k := by
  obtain ⟨tb, X1, XF, ME, Q, clock, h⟩ := h.q
  have HN := hide (fun W (hf : Fr (fun _ => False) w W) => cnone_ok (h.at.up hf))
  have HQ := hide h
  have hw := cfind_ways most k s hI.nd
  have HI := hide hI
  rcases key_cases Q k with ⟨x, hx, rfl⟩ | hno
  · have hg := h.rep.get_some hx
    have HX := hide hx
    have HW : Hid ((cfind most x.key s).2 = { s with L := luse x.key id s.L, clk := s.clk + 1 }) := by
      have : lget x.key s.L = some x.abs := by rw [← h.abs, abs_find, find_key h.rep.nd hx]; rfl
      show (cfind most x.key s).2 = _
      unfold cfind
      rw [this]
      rfl
    generalize hk : x.key = k at *
    clear h hw h0

    go_enter Tryz.func66, Tryz.ntmps66
    go_wp2_with fail
    go_at_call 61
    refine (HN.out _ (Fr.refl _ _)).mono ?_
    rintro e w1 ⟨rfl, rfl⟩
    go_wp2_with fail
    obtain ⟨W3, hW3⟩ : ∃ W3, W3 = w.alloc (.cells #[.string ⟨k.1.toArray⟩, .int .i64 k.2] 139) := ⟨_, rfl⟩
    rw [← hW3]
    have HF3 := hide (show Fr (fun _ => False) w W3 by rw [hW3]; exact (Fr.refl _ _).alloc _)
    have HKB : Hid (Blk W3 w.heap.size 139 (kcells k)) := by rw [hW3]; exact Blk.new w 139 _
    clear hW3
    have HLK := hide (fun W (hS : Fr (fun _ => False) W3 W) => (⟨(HKB.out.fr hS id).cell 0 |>.trans rfl, (HKB.out.fr hS id).cell 1 |>.trans rfl, ((HQ.out.rep.blk.fr (HF3.out.then_ hS) id).cell 2).trans rfl, by
        have := lookup_ok (P := Tryz.prog) key_ck mapc framep_zero (HQ.out.rep.map.fr (HF3.out.then_ hS) id) k
        rw [hg] at this
        exact this⟩ : W.cell? ⟨w.heap.size, 0, none⟩ = some (.string ⟨k.1.toArray⟩) ∧ W.cell? ⟨w.heap.size, 1, none⟩ = some (.int .i64 k.2) ∧ W.cell? ⟨cb, 2, none⟩ = some (.map (some tb)) ∧ (Instr.lookup 59 (.map (some tb)) (.agg #[.string ⟨k.1.toArray⟩, .int .i64 k.2]) true).run Tryz.prog W = .ok (.tuple #[.pointer (some ⟨x.blk, 0, none⟩), .bool true]) W))
    refine wp_region_reads (fun W => Fr (fun _ => False) W3 W) (by kernel_rfl) (by kernel_rfl) (Fr.refl _ _).drew ?_
    iterate 11
      refine readsY_cons ?_ ?_ (fun W hS => ?_) ?_
      · rfl
      rotate_left
      · (obtain ⟨s1, s2, s3, s4⟩ := HLK.out W hS; go_simp; try with_reducible rfl)
      simp only [List.getElem_toArray, List.getElem_cons_zero, List.getElem_cons_succ, Act.put, List.setIfInBounds_toArray, List.set_cons_zero, List.set_cons_succ]
    simp only [wpReadsY]
    refine NoPanic.normal ?_
    have F8 := HF3.out.drew
    have HU := hide (cuse_ok (HQ.out.rep.keep F8 (fun _ _ h => h)) HX.out (by omega) (by omega))
    have HR := hide (use_rep (HQ.out.rep.keep F8 (fun _ _ h => h)) HX.out (HQ.out.ord.wo _))
    have HF8 := hide F8
    clear F8
    go_wp2_with fail
    go_at_call 86
    refine HU.out.mono ?_
    rintro e W8 ⟨rfl, rfl⟩
    go_wp2
    go_ret2
    obtain ⟨r1, r2, r3⟩ := HR.out
    have hxx := HQ.out.rep.frm x HX.out
    refine ⟨tb, X, X1, XF, ME, (Q.filter fun y : CF => decide (y.key ≠ x.key)) ++ [{ x with used := (s.clk : Int) + 1 }], clock, { x with used := (s.clk : Int) + 1 }, rfl, ⟨?_, ?_, ?_, HQ.out.x1, HQ.out.xf, HQ.out.xs⟩, fun j hj => .inl hj, ?_, ?_, hk⟩
    · rw [HW.out]
      exact r1
    · rw [HW.out]
      exact r2
    · rw [HW.out, r3, hk, HQ.out.abs]
    · exact ((HF8.out.mono (S' := X) (fun _ h => h.elim)).setCell (p := ⟨cb, 3, none⟩) (.inl (HQ.out.x1 _ HQ.out.rep.xc)) _).setCell (p := ⟨x.blk, 2, none⟩) (.inl (HQ.out.x1 _ hxx.2.1)) _
    · exact List.mem_append_right _ (List.mem_singleton.2 rfl)
  · have hg := h.rep.get_none hno
    have HNO := hide hno
    have hno2 : ∀ x ∈ s.L, x.key ≠ k := fun x hx => by
      rw [← h.abs] at hx
      obtain ⟨y, hy, rfl⟩ := List.mem_map.1 hx
      exact hno y hy
    have hgn := get_none_iff.2 hno2
    obtain ⟨hf, he, hp⟩ : lfull most s.L = false ∧ (frd s.left s.F k.1 k.2).1 = 0 ∧ pageB (frd s.left s.F k.1 k.2).2.1 = true := by
      unfold cfind at h0
      rw [hgn, if_neg (by simp)] at h0
      cases hf : lfull most s.L with
      | true => rw [hf, if_pos rfl] at h0; cases h0
      | false =>
        rw [hf, if_neg (by simp)] at h0
        by_cases he : (frd s.left s.F k.1 k.2).1 = 0
        · rw [if_neg (by simpa using he)] at h0
          cases hp : pageB (frd s.left s.F k.1 k.2).2.1 with
          | true => exact ⟨rfl, he, rfl⟩
          | false => rw [hp, if_neg (by simp)] at h0; cases h0
        · rw [if_pos (by simpa using he)] at h0; exact absurd h0 he
    have HW : Hid ((cfind most k s).2 = { s with left := (frd s.left s.F k.1 k.2).2.2, L := lroom most s.L ++ [⟨k, datB (frd s.left s.F k.1 k.2).2.1, 0⟩], clk := s.clk + 1 }) := by
      show (cfind most k s).2 = _
      unfold cfind
      rw [hgn, if_neg (by simp), hf, if_neg (by simp), if_neg (by simpa using he), if_pos hp]
    have HCR := hide (fun W (hf3 : Fr (fun _ => False) w W) => cread_come (h.rep.keep hf3 (fun _ _ h => h)) h.ord k hno (by rw [h.abs]; exact hf) ⟨hI.lo, hI.hi⟩ he (len_pages hI.fs _ _ _) hp)
    clear h hw h0 hno hno2 hgn hf he hp
    go_enter Tryz.func66, Tryz.ntmps66
    go_wp2_with fail
    go_at_call 61
    refine (HN.out _ (Fr.refl _ _)).mono ?_
    rintro e w1 ⟨rfl, rfl⟩
    go_wp2_with fail
    obtain ⟨W3, hW3⟩ : ∃ W3, W3 = w.alloc (.cells #[.string ⟨k.1.toArray⟩, .int .i64 k.2] 139) := ⟨_, rfl⟩
    rw [← hW3]
    have HF3 := hide (show Fr (fun _ => False) w W3 by rw [hW3]; exact (Fr.refl _ _).alloc _)
    have HKB : Hid (Blk W3 w.heap.size 139 (kcells k)) := by rw [hW3]; exact Blk.new w 139 _
    clear hW3
    have HLK := hide (fun W (hS : Fr (fun _ => False) W3 W) => (⟨(HKB.out.fr hS id).cell 0 |>.trans rfl, (HKB.out.fr hS id).cell 1 |>.trans rfl, ((HQ.out.rep.blk.fr (HF3.out.then_ hS) id).cell 2).trans rfl, by
        have := lookup_ok (P := Tryz.prog) key_ck mapc framep_zero (HQ.out.rep.map.fr (HF3.out.then_ hS) id) k
        rw [hg] at this
        exact this⟩ : W.cell? ⟨w.heap.size, 0, none⟩ = some (.string ⟨k.1.toArray⟩) ∧ W.cell? ⟨w.heap.size, 1, none⟩ = some (.int .i64 k.2) ∧ W.cell? ⟨cb, 2, none⟩ = some (.map (some tb)) ∧ (Instr.lookup 59 (.map (some tb)) (.agg #[.string ⟨k.1.toArray⟩, .int .i64 k.2]) true).run Tryz.prog W = .ok (.tuple #[.pointer none, .bool false]) W))
    refine wp_region_reads (fun W => Fr (fun _ => False) W3 W) (by kernel_rfl) (by kernel_rfl) (Fr.refl _ _).drew ?_
    iterate 11
      refine readsY_cons ?_ ?_ (fun W hS => ?_) ?_
      · rfl
      rotate_left
      · (obtain ⟨s1, s2, s3, s4⟩ := HLK.out W hS; go_simp; try with_reducible rfl)
      simp only [List.getElem_toArray, List.getElem_cons_zero, List.getElem_cons_succ, Act.put, List.setIfInBounds_toArray, List.set_cons_zero, List.set_cons_succ]
    simp only [wpReadsY]
    refine NoPanic.normal ?_
    obtain ⟨W4, hW4⟩ : ∃ W4, W4 = W3.drew := ⟨_, rfl⟩
    rw [← hW4]
    have F34 : Fr (fun _ => False) W3 W4 := by rw [hW4]; exact (Fr.refl _ _).drew
    have F4 := HF3.out.then_ F34
    have k0 : W4.cell? ⟨w.heap.size, 0, none⟩ = some (.string ⟨k.1.toArray⟩) := (HLK.out W4 F34).1
    have k1 : W4.cell? ⟨w.heap.size, 1, none⟩ = some (.int .i64 k.2) := (HLK.out W4 F34).2.1
    have HF4 := hide F4
    clear F34 F4 hW4
    go_wp2_with fail
    go_at_call 111
    refine (HCR.out _ HF4.out).mono ?_
    rintro e W5 ⟨g, X', ME', Q1, clock', b, rfl, hr5, hq5, ho5, hx5, hf5⟩
    have hwl := wo_last hr5.nd
    have HU := hide (cuse_ok hr5 (x := ⟨k, datB (frd s.left s.F k.1 k.2).2.1, 0, 0, g, b⟩) (by simp) (by omega) (by omega))
    have HR := hide (use_rep hr5 (x := ⟨k, datB (frd s.left s.F k.1 k.2).2.1, 0, 0, g, b⟩) (by simp) (by rw [hwl]; exact ho5))
    have H5 := hide (And.intro hr5 (And.intro hq5 (And.intro hwl (And.intro hx5 hf5))))
    clear hr5 hq5 ho5 hx5 hf5 hwl k0 k1
    go_wp2_with fail
    go_at_call 86
    refine HU.out.mono ?_
    rintro e W8 ⟨rfl, rfl⟩
    go_wp2
    go_ret2
    obtain ⟨hr5, hq5, hwl, hx5, hf5⟩ := H5.out
    obtain ⟨r1, r2, r3⟩ := HR.out
    have hfb := hr5.frm ⟨k, datB (frd s.left s.F k.1 k.2).2.1, 0, 0, g, b⟩ (by simp)
    have hs4 := HF4.out.size
    have hXF := HQ.out.rep.fs.lt
    refine ⟨tb, fun j => X' j ∨ XF j, X', XF, ME', ((Q1 ++ [(⟨k, datB (frd s.left s.F k.1 k.2).2.1, 0, 0, g, b⟩ : CF)]).filter fun y : CF => decide (y.key ≠ k)) ++ [⟨k, datB (frd s.left s.F k.1 k.2).2.1, 0, (s.clk : Int) + 1, g, b⟩], clock', ⟨k, datB (frd s.left s.F k.1 k.2).2.1, 0, (s.clk : Int) + 1, g, b⟩, rfl, ⟨?_, ?_, ?_, fun _ h => .inl h, fun _ h => .inr h, fun _ h => h⟩, fun j hj => ?_, ?_, ?_, rfl⟩
    · rw [HW.out]
      exact r1
    · rw [HW.out]
      exact r2
    · rw [HW.out]
      simp only
      rw [hwl, List.map_append, hq5, HQ.out.abs]
      rfl
    · rcases hj with hj | hj
      · rcases hx5 j hj with h | h
        · exact .inl (HQ.out.x1 _ h)
        · exact .inr (by omega)
      · exact .inl (HQ.out.xf _ hj)
    · have e1 : ∀ j, X' j → X j ∨ w.heap.size ≤ j := fun j hj => by
        rcases hx5 j hj with h | h
        · exact .inl (HQ.out.x1 _ h)
        · exact .inr (by omega)
      have F5 : Fr X w W5 := (HF4.out.mono (S' := X) (fun _ h => h.elim)).trans hf5 (fun j hj => .inl (hj.elim (HQ.out.x1 _) (HQ.out.xf _)))
      exact (F5.setCell (p := ⟨cb, 3, none⟩) (.inl (HQ.out.x1 _ HQ.out.rep.xc)) _).setCell (p := ⟨g, 2, none⟩) (e1 _ hfb.2.1) _
    · exact List.mem_append_right _ (List.mem_singleton.2 rfl)
theorem cfind_oke (h : CAt w cb fb X room most s) (hI : CInv room most s) (k : CKey) (h0 : (cfind most k s).1 ≠ 0) : Calls Tryz.prog 66 #[.pointer (some ⟨cb, 0, none⟩), .string ⟨k.1.toArray⟩, .int .i64 k.2] w fun e w' => e = .returned (.tuple #[.pointer none, .int .i64 (cfind most k s).1]) ∧ (∃ X', CAt w' cb fb X' room most (cfind most k s).2 ∧ ∀ j, X' j → X j ∨ w.heap.size ≤ j) ∧ Fr X w w' := by
  obtain ⟨tb, X1, XF, ME, Q, clock, h⟩ := h.q
  have HN := hide (fun W (hf : Fr (fun _ => False) w W) => cnone_ok (h.at.up hf))
  have HQ := hide h
  have hw := cfind_ways most k s hI.nd
  rcases key_cases Q k with ⟨x, hx, rfl⟩ | hno
  · have hgx : lget x.key s.L = some x.abs := by rw [← h.abs, abs_find, find_key h.rep.nd hx]; rfl
    exfalso
    apply h0
    unfold cfind
    rw [hgx]
    rfl
  · have hg := h.rep.get_none hno
    have hno2 : ∀ x ∈ s.L, x.key ≠ k := fun x hx => by
      rw [← h.abs] at hx
      obtain ⟨y, hy, rfl⟩ := List.mem_map.1 hx
      exact hno y hy
    have hgn := get_none_iff.2 hno2
    have HCR : Hid (∀ W, Fr (fun _ => False) w W → Calls Tryz.prog 111 #[.pointer (some ⟨cb, 0, none⟩), .agg #[.string ⟨k.1.toArray⟩, .int .i64 k.2]] W fun e w' => e = .returned (.tuple #[.pointer none, .int .i64 (cfind most k s).1]) ∧ CRep w' cb fb tb X1 XF room (cfind most k s).2.left s.F (most : Int) ME Q (s.clk : Int) clock ∧ (cfind most k s).2 = { s with left := (cfind most k s).2.left } ∧ Fr XF W w') := fun W hf3 => by
      have hr := h.rep.keep hf3 (fun _ _ h => h)
      unfold cfind at h0 ⊢
      rw [hgn, if_neg (by simp)] at h0 ⊢
      cases hf : lfull most s.L with
      | true =>
        rw [if_pos rfl]
        refine (cread_full hr h.ord k (by rw [h.abs]; exact hf)).mono ?_
        rintro e w' ⟨rfl, hf4⟩
        exact ⟨rfl, hr.keep hf4 (fun _ _ h => h), rfl, hf4.mono (fun _ h => h.elim)⟩
      | false =>
        rw [hf] at h0
        rw [if_neg (by simp)] at h0 ⊢
        by_cases he : (frd s.left s.F k.1 k.2).1 = 0
        · rw [if_neg (by simpa using he)] at h0 ⊢
          cases hp : pageB (frd s.left s.F k.1 k.2).2.1 with
          | true => rw [hp, if_pos rfl] at h0; exact absurd rfl h0
          | false =>
            rw [if_neg (by simp)]
            refine (cread_bad hr h.ord k (by rw [h.abs]; exact hf) ⟨hI.lo, hI.hi⟩ he (len_pages hI.fs _ _ _) hp).mono ?_
            rintro e w' ⟨rfl, h4, hf4⟩
            exact ⟨rfl, h4, rfl, hf4⟩
        · rw [if_pos (by simpa using he)]
          refine (cread_err hr h.ord k (by rw [h.abs]; exact hf) ⟨hI.lo, hI.hi⟩ he).mono ?_
          rintro e w' ⟨rfl, h4, hf4⟩
          exact ⟨rfl, h4, rfl, hf4⟩
    obtain ⟨r, hr⟩ : ∃ r, cfind most k s = r := ⟨_, rfl⟩
    rw [hr] at HCR h0
    rw [hr]
    obtain ⟨z, hz⟩ : ∃ z, r.1 = z := ⟨_, rfl⟩
    rw [hz] at HCR h0
    rw [hz]
    have b0 : (z == 0) = false := by simpa using h0
    have b1 : (z != 0) = true := by simpa using h0
    clear h hw h0 hno hno2 hgn hr hz hI
    go_enter Tryz.func66, Tryz.ntmps66
    go_wp2_with fail
    go_at_call 61
    refine (HN.out _ (Fr.refl _ _)).mono ?_
    rintro e w1 ⟨rfl, rfl⟩
    go_wp2_with fail
    obtain ⟨W3, hW3⟩ : ∃ W3, W3 = w.alloc (.cells #[.string ⟨k.1.toArray⟩, .int .i64 k.2] 139) := ⟨_, rfl⟩
    rw [← hW3]
    have HF3 := hide (show Fr (fun _ => False) w W3 by rw [hW3]; exact (Fr.refl _ _).alloc _)
    have HKB : Hid (Blk W3 w.heap.size 139 (kcells k)) := by rw [hW3]; exact Blk.new w 139 _
    clear hW3
    have HLK := hide (fun W (hS : Fr (fun _ => False) W3 W) => (⟨(HKB.out.fr hS id).cell 0 |>.trans rfl, (HKB.out.fr hS id).cell 1 |>.trans rfl, ((HQ.out.rep.blk.fr (HF3.out.then_ hS) id).cell 2).trans rfl, by
        have := lookup_ok (P := Tryz.prog) key_ck mapc framep_zero (HQ.out.rep.map.fr (HF3.out.then_ hS) id) k
        rw [hg] at this
        exact this⟩ : W.cell? ⟨w.heap.size, 0, none⟩ = some (.string ⟨k.1.toArray⟩) ∧ W.cell? ⟨w.heap.size, 1, none⟩ = some (.int .i64 k.2) ∧ W.cell? ⟨cb, 2, none⟩ = some (.map (some tb)) ∧ (Instr.lookup 59 (.map (some tb)) (.agg #[.string ⟨k.1.toArray⟩, .int .i64 k.2]) true).run Tryz.prog W = .ok (.tuple #[.pointer none, .bool false]) W))
    refine wp_region_reads (fun W => Fr (fun _ => False) W3 W) (by kernel_rfl) (by kernel_rfl) (Fr.refl _ _).drew ?_
    iterate 11
      refine readsY_cons ?_ ?_ (fun W hS => ?_) ?_
      · rfl
      rotate_left
      · (obtain ⟨s1, s2, s3, s4⟩ := HLK.out W hS; go_simp; try with_reducible rfl)
      simp only [List.getElem_toArray, List.getElem_cons_zero, List.getElem_cons_succ, Act.put, List.setIfInBounds_toArray, List.set_cons_zero, List.set_cons_succ]
    simp only [wpReadsY]
    refine NoPanic.normal ?_
    obtain ⟨W4, hW4⟩ : ∃ W4, W4 = W3.drew := ⟨_, rfl⟩
    rw [← hW4]
    have F34 : Fr (fun _ => False) W3 W4 := by rw [hW4]; exact (Fr.refl _ _).drew
    have k0 : W4.cell? ⟨w.heap.size, 0, none⟩ = some (.string ⟨k.1.toArray⟩) := (HLK.out W4 F34).1
    have k1 : W4.cell? ⟨w.heap.size, 1, none⟩ = some (.int .i64 k.2) := (HLK.out W4 F34).2.1
    have HF4 := hide (HF3.out.then_ F34)
    clear F34 hW4
    go_wp2_with fail
    go_at_call 111
    refine (HCR.out _ HF4.out).mono ?_
    rintro e W5 ⟨rfl, hr5, hs5, hf5⟩
    have H5 := hide (And.intro hr5 (And.intro hs5 hf5))
    clear hr5 hs5 hf5 k0 k1
    go_wp2
    go_ret2
    obtain ⟨hr5, hs5, hf5⟩ := H5.out
    refine ⟨rfl, ⟨X, ⟨tb, X1, XF, ME, Q, clock, ?_, ?_, ?_, HQ.out.x1, HQ.out.xf, HQ.out.xs⟩, fun j hj => .inl hj⟩, (HF4.out.mono (S' := X) (fun _ h => h.elim)).trans hf5 (fun j hj => .inl (HQ.out.xf _ hj))⟩
    · rw [hs5]; exact hr5
    · rw [hs5]; exact HQ.out.ord
    · rw [hs5]; exact HQ.out.abs
end
end Go.Proofs.YtkhbemmcegmdaaaGreatDoor
