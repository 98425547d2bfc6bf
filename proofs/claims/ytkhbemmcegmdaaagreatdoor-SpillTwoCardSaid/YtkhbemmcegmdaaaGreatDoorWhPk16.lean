/- Parts of the proof of several laws: no conditions of their own. -/
import Derived.Test.YtkhbemmcegmdaaaGreatDoorWhPk15
import Derived.Test.YtkhbemmcegmdaaaGreatDoorWhPk14
import Derived.Test.YtkhbemmcegmdaaaGreatDoorWhPk6
section
set_option linter.all false
set_option linter.unusedVariables false
set_option maxRecDepth 100000
namespace Go.Proofs.YtkhbemmcegmdaaaGreatDoor
open Go.RowKit
open Go.ChangeMaps (setBlock)

/-- a store and its cache, in memory -/
structure SMem (W : World) (sb tb pb cb fb : Nat) (n : Name) (N most : Nat) (room : Int) (cm : Nat) (ask : Int) (X Y : Nat → Prop) (Q : List SF) (t : SSt) (s : CSt) (clock : Nat) : Prop where
  rep : SRep W sb tb pb cb n N most ask Y Q t.PK clock
  abs : Q.map SF.abs = t.T
  cat : CAt W cb fb X room cm s
  dj : ∀ j, X j → ¬ Y j
/-- what a store's act does to the blocks -/
structure SStep (w w' : World) (X Y X' Y' : Nat → Prop) : Prop where
  x : ∀ j, X' j → X j ∨ w.heap.size ≤ j
  y : ∀ j, Y' j → Y j ∨ w.heap.size ≤ j
  fr : Fr (fun j => X j ∨ Y j) w w'
theorem SStep.refl (w : World) (X Y : Nat → Prop) : SStep w w X Y X Y := ⟨fun _ h => .inl h, fun _ h => .inl h, Fr.refl _ _⟩
theorem SStep.trans {w w1 w2 : World} {X Y X1 Y1 X2 Y2 : Nat → Prop} (h : SStep w w1 X Y X1 Y1) (h2 : SStep w1 w2 X1 Y1 X2 Y2) : SStep w w2 X Y X2 Y2 := by
  have hs := h.fr.size
  refine ⟨fun j hj => ?_, fun j hj => ?_, h.fr.trans h2.fr (fun j hj => ?_)⟩
  · rcases h2.x j hj with hj | hj
    · exact h.x j hj
    · exact .inr (by omega)
  · rcases h2.y j hj with hj | hj
    · exact h.y j hj
    · exact .inr (by omega)
  · rcases hj with hj | hj
    · exact (h.x j hj).imp .inl id
    · exact (h.y j hj).imp .inr id
theorem SStep.up {w w1 : World} (X Y : Nat → Prop) (h : Fr (fun _ => False) w w1) : SStep w w1 X Y X Y := ⟨fun _ h => .inl h, fun _ h => .inl h, h.mono (fun _ h => h.elim)⟩
section
variable {w w' w1 : World} {sb tb pb cb fb clock N most cm segs : Nat} {X Y S : Nat → Prop} {room ask : Int} {n : Name} {Q : List SF} {t : SSt} {s : CSt}
theorem SMem.up (h : SMem w sb tb pb cb fb n N most room cm ask X Y Q t s clock) (hf : Fr (fun _ => False) w w') : SMem w' sb tb pb cb fb n N most room cm ask X Y Q t s clock :=
  ⟨h.rep.keep hf (fun _ _ h => h), h.abs, h.cat.up hf, h.dj⟩
theorem SMem.get (h : SMem w sb tb pb cb fb n N most room cm ask X Y Q t s clock) {x : SF} (hx : x ∈ Q) : x.abs ∈ t.T := by rw [← h.abs]; exact List.mem_map_of_mem hx
theorem SMem.key (h : SMem w sb tb pb cb fb n N most room cm ask X Y Q t s clock) {k : Nat} : (∃ x ∈ Q, x.key = k) ∨ (∀ x ∈ Q, x.key ≠ k) := by
  by_cases e : ∃ x ∈ Q, x.key = k
  · exact .inl e
  · exact .inr fun x hx e2 => e ⟨x, hx, e2⟩
theorem SMem.no (h : SMem w sb tb pb cb fb n N most room cm ask X Y Q t s clock) {k : Nat} (hk : ∀ x ∈ Q, x.key ≠ k) : ∀ g ∈ t.T, g.key ≠ k := fun g hg => by
  rw [← h.abs] at hg
  obtain ⟨x, hx, rfl⟩ := List.mem_map.1 hg
  exact hk x hx
theorem SMem.len (h : SMem w sb tb pb cb fb n N most room cm ask X Y Q t s clock) : Q.length = t.T.length := by rw [← h.abs, List.length_map]
/-- a segment has come -/
def SCame (w : World) (sb tb pb cb fb : Nat) (n : Name) (N most segs : Nat) (room : Int) (cm : Nat) (ask : Int) (X Y : Nat → Prop) (t : SSt) (s : CSt) (k : Nat) (x : SF) (w' : World) : Prop :=
  ∃ X' Y' Q' t' s' clock', x ∈ Q' ∧ x.key = k ∧ SMem w' sb tb pb cb fb n N most room cm ask X' Y' Q' t' s' clock' ∧ SStep w w' X Y X' Y' ∧ SAsk n most room cm k t s t' s' ∧ SOk n segs most room cm t' s' ∧ SKeep n 2 t s t' s' ∧ ∀ j, sval s'.F n t' j = sval s.F n t j
/-- a read has failed -/
def SFail (w : World) (cb fb : Nat) (n : Name) (room : Int) (cm : Nat) (X Y : Nat → Prop) (s : CSt) (w' : World) : Prop :=
  ∃ X' s', s.left = 0 ∧ CAt w' cb fb X' room cm s' ∧ CRest room cm s' ∧ (∀ m, m ≠ n → fpg m s'.F = fpg m s.F) ∧ (∀ j, X' j → X j ∨ w.heap.size ≤ j) ∧ Fr (fun j => X j ∨ Y j) w w'
theorem CRest.left {room : Int} {cm : Nat} {s : CSt} (h : CRest room cm s) : CRest room cm { s with left := -1 } := ⟨h.inv.setL (by omega) (by omega), h.same, h.pins⟩
theorem sgone_left {g : Seg} {room : Int} {cm : Nat} {n : Name} (h : SOk n segs most room cm t s) (hg : g ∈ t.T) : (sgone room cm n t g s).left = s.left := by
  unfold sgone
  split
  · exact (h.wr hg).2.2.1
  · rfl
theorem scomes_ok (h : SMem w sb tb pb cb fb n N most room cm ask X Y Q t s clock) (ho : SOk n segs most room cm t s) (hck : s.clk + 2 ≤ 9223372036854775806) (hm1 : 1 ≤ most) (hmb : most ≤ 9223372036854775807) (k : Nat) (hk : k < segs) :
    Calls Tryz.prog 133 #[.pointer (some ⟨sb, 0, none⟩), .int .i64 (k : Int)] w fun e w' =>
      (∃ x, e = .returned (.tuple #[.pointer (some ⟨x.blk, 0, none⟩), .int .i64 0]) ∧ SCame w sb tb pb cb fb n N most segs room cm ask X Y t s k x w') ∨
      (e = .returned (.tuple #[.pointer none, .int .i64 60]) ∧ SFail w cb fb n room cm X Y s w' ∧ ∃ Q' PK' clock', SRep w' sb tb pb cb n N most ask Y Q' PK' clock') := by
  have c3 : w.cell? ⟨sb, 3, none⟩ = some (.int .i64 (most : Int)) := (h.rep.blk.cell 3).trans rfl
  have c5 : w.cell? ⟨sb, 5, none⟩ = some (.map (some tb)) := (h.rep.blk.cell 5).trans rfl
  have hlk := lookup_ok (P := Tryz.prog) key_i mapt segp_zero h.rep.map (k : Int)
  have HH := hide h
  have HO := hide ho
  have HK := hide hck
  rcases h.key (k := k) with ⟨x, hx, rfl⟩ | hno
  · rw [h.rep.get_some hx] at hlk
    have hlk2 : (Instr.lookup 90 (.map (some tb)) (.int .i64 (x.key : Int)) true).run Tryz.prog w = .ok (.tuple #[.pointer (some ⟨x.blk, 0, none⟩), .bool true]) w := hlk
    clear hlk
    have HX := hide hx
    clear h ho hck hx c3
    go_enter Tryz.func133, Tryz.ntmps133
    go_wp2
    go_ret2
    exact .inl ⟨x, rfl, X, Y, Q, t, s, clock, HX.out, rfl, HH.out, SStep.refl _ _ _, .there _ (HH.out.get HX.out) rfl, HO.out, SKeep.refl _ _ _ _ _ rfl, fun _ => rfl⟩
  · have HNO := hide hno
    rw [SRep.get_none hno] at hlk
    simp only [Option.getD_none, Option.isSome_none] at hlk
    have HC := hide (fun W (hS : Fr (fun _ => False) w W) => (⟨hS.cell c3 id, hS.cell c5 id, fun ty => by have := len_ok (P := Tryz.prog) mapt (h.rep.map.fr hS id) ty; rwa [List.length_map] at this⟩ : W.cell? ⟨sb, 3, none⟩ = some (.int .i64 (most : Int)) ∧ W.cell? ⟨sb, 5, none⟩ = some (.map (some tb)) ∧ ∀ ty, (Builtin.len_ #[90] ty #[.map (some tb)]).run Tryz.prog W = .ok (.int .i64 (Q.length : Int)) W))
    have HLQ := hide h.len
    obtain ⟨q, hq⟩ : ∃ q, Q.length = q := ⟨_, rfl⟩
    rw [hq] at HC HLQ
    have HQ := hide hq
    clear h ho hck c3 hq hno
    go_enter Tryz.func133, Tryz.ntmps133
    go_wp2_with fail
    clear hlk c5
    by_cases hm : most ≤ q
    · have b0 : decide ((q : Int) ≥ (most : Int)) = true := by simp; omega
      have b1 : decide ((most : Int) ≤ (q : Int)) = true := by simp; omega
      refine wp_region_reads (fun W => Fr (fun _ => False) w W) (by kernel_rfl) (by kernel_rfl) (Fr.refl _ _).drew ?_
      iterate 10
        refine readsY_cons ?_ ?_ (fun W hS => ?_) ?_
        · rfl
        rotate_left
        · (obtain ⟨s1, s2, s3⟩ := HC.out W hS; go_simp; try with_reducible rfl)
        simp only [List.getElem_toArray, List.getElem_cons_zero, List.getElem_cons_succ, Act.put, List.setIfInBounds_toArray, List.set_cons_zero, List.set_cons_succ, b0, b1]
      simp only [wpReadsY]
      refine NoPanic.normal ?_
      obtain ⟨W1, hW1⟩ : ∃ W1, W1 = w.drew := ⟨_, rfl⟩
      rw [← hW1]
      have HF1 := hide (show Fr (fun _ => False) w W1 by rw [hW1]; exact (Fr.refl _ _).drew)
      have HM1 := hide (HH.out.up HF1.out)
      have HG := hide (sgoes_ok HM1.out.rep HM1.out.abs HM1.out.cat HO.out HM1.out.dj (by have := HK.out; omega) (by have := nameB_len HO.out.inv.nam; omega) (fun e => by have := HQ.out; rw [e] at this; simp at this; omega))
      clear hW1 b0 b1
      go_wp2_with fail
      go_at_call 155
      refine HG.out.mono ?_
      rintro e W2 ⟨g, hg, Q2, X2, rfl, hr2, ha2, at2, nx2, fr2⟩
      have hgo := HO.out.gone hg
      have hsz := HF1.out.size
      have HM2 : Hid (SMem W2 sb tb pb cb fb n N most room cm ask X2 Y Q2 (tgone t g) (sgone room cm n t g s) clock) := ⟨hr2, ha2, at2, fun j hx hy => by
        rcases nx2 j hx with hx | hx
        · exact HH.out.dj j hx hy
        · have := HM1.out.rep.lt j hy; omega⟩
      have HST : Hid (SStep w W2 X Y X2 Y) := ⟨fun j hj => (nx2 j hj).imp id (fun h => by omega), fun j hj => .inl hj, (HF1.out.mono (S' := fun j => X j ∨ Y j) (fun _ h => h.elim)).trans fr2 (fun j h => .inl h)⟩
      have HO2 := hide hgo.1
      have HPL := hide hgo.2
      have HN2 := hide (tgone_no (g := g) (HH.out.no HNO.out))
      have hlen := twithout_len HO.out.inv.tnd hg
      have hle := HO.out.inv.tle
      have HL2 : Hid ((tgone t g).T.length < most) := by show (twithout g.key t.T).length < most; omega
      have HLF := hide (sgone_left HO.out hg)
      have HAS := hide (show SAsk n most room cm k t s (tcome (sgone room cm n t g s).F n k (tgone t g)) (srd cm n (tgone t g).PK k (sgone room cm n t g s)) from .goes (HH.out.no HNO.out) (by have := HLQ.out; omega) g hg)
      obtain ⟨t2, ht2⟩ : ∃ t2, tgone t g = t2 := ⟨_, rfl⟩
      obtain ⟨s2, hs2⟩ : ∃ s2, sgone room cm n t g s = s2 := ⟨_, rfl⟩
      rw [ht2] at HM2 HO2 HPL HN2 HL2 HAS
      rw [hs2] at HM2 HO2 HPL HLF HAS
      clear hgo hsz hlen hle hr2 ha2 at2 nx2 fr2 ht2 hs2 hg
      go_wp2_with fail
      have HCK2 := hide (show s2.clk + 1 ≤ 9223372036854775806 by have := HPL.out.1.clk; have := HK.out; omega)
      have HR := hide (sread_ok HM2.out.rep HM2.out.cat HO2.out HM2.out.dj HCK2.out k)
      go_at_call 156
      refine HR.out.mono ?_
      rintro e W3 (⟨gv, X3, rfl, hgv, hb3, at3, h03, nx3, ng3, fr3⟩ | ⟨X3, rfl, hl3, at3, nx3, fr3⟩)
      · have HGV := hide hgv
        have HB3 := hide hb3
        have HA3 := hide at3
        have H03 := hide h03
        have HN3 := hide nx3
        have HNG := hide ng3
        have HF3 := hide fr3
        clear hgv hb3 at3 h03 nx3 ng3 fr3
        have F4 : Fr (fun _ => False) W3 (W3.alloc (.cells #[.slice (some ⟨gv, 0, none⟩) 8 8, .bool false, .int .i64 0] 154)) := (Fr.refl _ _).alloc _
        have HF4 := hide F4
        have HB4 : Hid (Blk (W3.alloc (.cells #[.slice (some ⟨gv, 0, none⟩) 8 8, .bool false, .int .i64 0] 154)) W3.heap.size 154 #[.slice (some ⟨gv, 0, none⟩) 8 8, .bool false, .int .i64 0]) := Blk.new W3 154 _
        have HDJ : Hid (∀ j, X3 j → ¬ Y j) := fun j hx hy => by
          rcases HN3.out j hx with hx | hx
          · exact HM2.out.dj j hx hy
          · have := HM2.out.rep.lt j hy; omega
        have F24 : Fr X2 W2 (W3.alloc (.cells #[.slice (some ⟨gv, 0, none⟩) 8 8, .bool false, .int .i64 0] 154)) := HF3.out.then_ HF4.out
        have HR4 := hide (HM2.out.rep.keep F24 (fun j hy hx => HM2.out.dj j hx hy))
        have HSZ4 : Hid (W2.heap.size ≤ W3.heap.size ∧ gv < W3.heap.size) := ⟨HF3.out.size, HB3.out.lt⟩
        have c5 : (W3.alloc (.cells #[.slice (some ⟨gv, 0, none⟩) 8 8, .bool false, .int .i64 0] 154)).cell? ⟨sb, 5, none⟩ = some (.map (some tb)) := (HR4.out.blk.cell 5).trans rfl
        have hup : (Instr.mapUpdate 90 (.map (some tb)) (.int .i64 (k : Int)) (.pointer (some ⟨W3.heap.size, 0, none⟩))).run Tryz.prog (W3.alloc (.cells #[.slice (some ⟨gv, 0, none⟩) 8 8, .bool false, .int .i64 0] 154)) = .ok () (setBlock (W3.alloc (.cells #[.slice (some ⟨gv, 0, none⟩) 8 8, .bool false, .int .i64 0] 154)) tb (.map ((aput (k : Int) (ptr W3.heap.size) (Q2.map SF.ent) clock).map (ent ikey)).toArray (aclk (k : Int) (Q2.map SF.ent) clock))) := update_ok (P := Tryz.prog) key_i mapt HR4.out.map (k : Int) (ptr W3.heap.size)
        clear F4
        have HF24 := hide F24
        clear F24
        go_wp2
        go_ret2
        have hfs := fr_setBlock (W3.alloc (.cells #[.slice (some ⟨gv, 0, none⟩) 8 8, .bool false, .int .i64 0] 154)) tb (.map ((aput (k : Int) (ptr W3.heap.size) (Q2.map SF.ent) clock).map (ent ikey)).toArray (aclk (k : Int) (Q2.map SF.ent) clock))
        have hcm := HO2.out.come hk HN2.out HL2.out H03.out
        have hnq : ∀ y ∈ Q2, y.key ≠ k := fun y hy e => HN2.out y.abs (HM2.out.get hy) e
        have hadd := HM2.out.rep.add HF24.out (fun j hy hx => HM2.out.dj j hx hy) ⟨k, sbase s2.F n t2.PK k, false, 0, W3.heap.size, gv, clock⟩ rfl HSZ4.out.1 HGV.out HB4.out (HB3.out.fr HF4.out id) hnq
        have htb : ¬ X3 tb := fun hx => HDJ.out tb hx HM2.out.rep.xt
        refine .inl ⟨⟨k, sbase s2.F n t2.PK k, false, 0, W3.heap.size, gv, clock⟩, rfl, X3, _, _, tcome s2.F n k t2, srd cm n t2.PK k s2, _, List.mem_append_right _ (by simp), rfl, ⟨hadd, ?_, (HA3.out.up HF4.out).keep hfs (fun j hx e => htb (by rw [← e]; exact hx)), fun j hx hy => ?_⟩, HST.out.trans ⟨HN3.out, fun j hy => ?_, ?_⟩, HAS.out, hcm.1, HPL.out.1.trans hcm.2.1, fun j => (hcm.2.2 j).trans (HPL.out.2 j)⟩
        · rw [List.map_append, HM2.out.abs]
          rfl
        · rcases hy with hy | rfl | rfl
          · exact HDJ.out j hx hy
          · exact absurd (HA3.out.lt _ hx) (Nat.lt_irrefl _)
          · exact HNG.out hx
        · rcases hy with hy | rfl | rfl
          · exact .inl hy
          · exact .inr HSZ4.out.1
          · exact .inr HGV.out
        · exact ((HF24.out.mono (S' := fun j => X2 j ∨ Y j) (fun _ h => .inl h))).trans hfs (fun j hj => .inl (.inr (by rw [hj]; exact HM2.out.rep.xt)))
      · have HL3 := hide hl3
        have HA3 := hide at3
        have HN3 := hide nx3
        have HF3 := hide fr3
        clear hl3 at3 nx3 fr3
        go_wp2
        go_ret2
        refine .inr ⟨rfl, ⟨X3, _, HLF.out.symm.trans HL3.out, HA3.out, HO2.out.rest.left, fun m hm => HPL.out.1.oth m hm, (HST.out.trans ⟨HN3.out, fun j hj => .inl hj, HF3.out.mono (fun _ h => .inl h)⟩).x, (HST.out.trans (Y2 := Y) ⟨HN3.out, fun j hj => .inl hj, HF3.out.mono (fun _ h => .inl h)⟩).fr⟩, Q2, t2.PK, clock, HM2.out.rep.keep HF3.out (fun j hy hx => HM2.out.dj j hx hy)⟩
    · have b0 : decide ((q : Int) ≥ (most : Int)) = false := by simp; omega
      have b1 : decide ((most : Int) ≤ (q : Int)) = false := by simp; omega
      refine wp_region_reads (fun W => Fr (fun _ => False) w W) (by kernel_rfl) (by kernel_rfl) (Fr.refl _ _).drew ?_
      iterate 10
        refine readsY_cons ?_ ?_ (fun W hS => ?_) ?_
        · rfl
        rotate_left
        · (obtain ⟨s1, s2, s3⟩ := HC.out W hS; go_simp; try with_reducible rfl)
        simp only [List.getElem_toArray, List.getElem_cons_zero, List.getElem_cons_succ, Act.put, List.setIfInBounds_toArray, List.set_cons_zero, List.set_cons_succ, b0, b1]
      simp only [wpReadsY]
      refine NoPanic.normal ?_
      obtain ⟨W2, hW2⟩ : ∃ W2, W2 = w.drew := ⟨_, rfl⟩
      rw [← hW2]
      have HF1 := hide (show Fr (fun _ => False) w W2 by rw [hW2]; exact (Fr.refl _ _).drew)
      obtain ⟨t2, ht2⟩ : ∃ t2, t = t2 := ⟨_, rfl⟩
      obtain ⟨s2, hs2⟩ : ∃ s2, s = s2 := ⟨_, rfl⟩
      obtain ⟨X2, hX2⟩ : ∃ X2, X = X2 := ⟨_, rfl⟩
      obtain ⟨Q2, hQ2⟩ : ∃ Q2, Q = Q2 := ⟨_, rfl⟩
      have HM2 : Hid (SMem W2 sb tb pb cb fb n N most room cm ask X2 Y Q2 t2 s2 clock) := by show SMem _ _ _ _ _ _ _ _ _ _ _ _ _ _ _ _ _ _; rw [← ht2, ← hs2, ← hX2, ← hQ2]; exact HH.out.up HF1.out
      have HST : Hid (SStep w W2 X Y X2 Y) := by show SStep _ _ _ _ _ _; rw [← hX2]; exact SStep.up _ _ HF1.out
      have HO2 : Hid (SOk n segs most room cm t2 s2) := by show SOk _ _ _ _ _ _ _; rw [← ht2, ← hs2]; exact HO.out
      have HPL : Hid (SKeep n 1 t s t2 s2 ∧ ∀ j, sval s2.F n t2 j = sval s.F n t j) := by show _ ∧ _; rw [← ht2, ← hs2]; exact ⟨SKeep.refl _ _ _ _ _ rfl, fun _ => rfl⟩
      have HN2 : Hid (∀ g ∈ t2.T, g.key ≠ k) := by show ∀ g ∈ t2.T, g.key ≠ k; rw [← ht2]; exact HH.out.no HNO.out
      have HL2 : Hid (t2.T.length < most) := by show _ < _; rw [← ht2]; have := HLQ.out; omega
      have HLF : Hid (s2.left = s.left) := by show _ = _; rw [← hs2]
      have HAS : Hid (SAsk n most room cm k t s (tcome s2.F n k t2) (srd cm n t2.PK k s2)) := by show SAsk _ _ _ _ _ _ _ _ _; rw [← ht2, ← hs2]; exact .come (HH.out.no HNO.out) (by have := HLQ.out; omega)
      clear hW2 b0 b1 ht2 hs2 hX2 hQ2
      go_wp2_with fail
      have HCK2 := hide (show s2.clk + 1 ≤ 9223372036854775806 by have := HPL.out.1.clk; have := HK.out; omega)
      have HR := hide (sread_ok HM2.out.rep HM2.out.cat HO2.out HM2.out.dj HCK2.out k)
      go_at_call 156
      refine HR.out.mono ?_
      rintro e W3 (⟨gv, X3, rfl, hgv, hb3, at3, h03, nx3, ng3, fr3⟩ | ⟨X3, rfl, hl3, at3, nx3, fr3⟩)
      · have HGV := hide hgv
        have HB3 := hide hb3
        have HA3 := hide at3
        have H03 := hide h03
        have HN3 := hide nx3
        have HNG := hide ng3
        have HF3 := hide fr3
        clear hgv hb3 at3 h03 nx3 ng3 fr3
        have F4 : Fr (fun _ => False) W3 (W3.alloc (.cells #[.slice (some ⟨gv, 0, none⟩) 8 8, .bool false, .int .i64 0] 154)) := (Fr.refl _ _).alloc _
        have HF4 := hide F4
        have HB4 : Hid (Blk (W3.alloc (.cells #[.slice (some ⟨gv, 0, none⟩) 8 8, .bool false, .int .i64 0] 154)) W3.heap.size 154 #[.slice (some ⟨gv, 0, none⟩) 8 8, .bool false, .int .i64 0]) := Blk.new W3 154 _
        have HDJ : Hid (∀ j, X3 j → ¬ Y j) := fun j hx hy => by
          rcases HN3.out j hx with hx | hx
          · exact HM2.out.dj j hx hy
          · have := HM2.out.rep.lt j hy; omega
        have F24 : Fr X2 W2 (W3.alloc (.cells #[.slice (some ⟨gv, 0, none⟩) 8 8, .bool false, .int .i64 0] 154)) := HF3.out.then_ HF4.out
        have HR4 := hide (HM2.out.rep.keep F24 (fun j hy hx => HM2.out.dj j hx hy))
        have HSZ4 : Hid (W2.heap.size ≤ W3.heap.size ∧ gv < W3.heap.size) := ⟨HF3.out.size, HB3.out.lt⟩
        have c5 : (W3.alloc (.cells #[.slice (some ⟨gv, 0, none⟩) 8 8, .bool false, .int .i64 0] 154)).cell? ⟨sb, 5, none⟩ = some (.map (some tb)) := (HR4.out.blk.cell 5).trans rfl
        have hup : (Instr.mapUpdate 90 (.map (some tb)) (.int .i64 (k : Int)) (.pointer (some ⟨W3.heap.size, 0, none⟩))).run Tryz.prog (W3.alloc (.cells #[.slice (some ⟨gv, 0, none⟩) 8 8, .bool false, .int .i64 0] 154)) = .ok () (setBlock (W3.alloc (.cells #[.slice (some ⟨gv, 0, none⟩) 8 8, .bool false, .int .i64 0] 154)) tb (.map ((aput (k : Int) (ptr W3.heap.size) (Q2.map SF.ent) clock).map (ent ikey)).toArray (aclk (k : Int) (Q2.map SF.ent) clock))) := update_ok (P := Tryz.prog) key_i mapt HR4.out.map (k : Int) (ptr W3.heap.size)
        clear F4
        have HF24 := hide F24
        clear F24
        go_wp2
        go_ret2
        have hfs := fr_setBlock (W3.alloc (.cells #[.slice (some ⟨gv, 0, none⟩) 8 8, .bool false, .int .i64 0] 154)) tb (.map ((aput (k : Int) (ptr W3.heap.size) (Q2.map SF.ent) clock).map (ent ikey)).toArray (aclk (k : Int) (Q2.map SF.ent) clock))
        have hcm := HO2.out.come hk HN2.out HL2.out H03.out
        have hnq : ∀ y ∈ Q2, y.key ≠ k := fun y hy e => HN2.out y.abs (HM2.out.get hy) e
        have hadd := HM2.out.rep.add HF24.out (fun j hy hx => HM2.out.dj j hx hy) ⟨k, sbase s2.F n t2.PK k, false, 0, W3.heap.size, gv, clock⟩ rfl HSZ4.out.1 HGV.out HB4.out (HB3.out.fr HF4.out id) hnq
        have htb : ¬ X3 tb := fun hx => HDJ.out tb hx HM2.out.rep.xt
        refine .inl ⟨⟨k, sbase s2.F n t2.PK k, false, 0, W3.heap.size, gv, clock⟩, rfl, X3, _, _, tcome s2.F n k t2, srd cm n t2.PK k s2, _, List.mem_append_right _ (by simp), rfl, ⟨hadd, ?_, (HA3.out.up HF4.out).keep hfs (fun j hx e => htb (by rw [← e]; exact hx)), fun j hx hy => ?_⟩, HST.out.trans ⟨HN3.out, fun j hy => ?_, ?_⟩, HAS.out, hcm.1, HPL.out.1.trans hcm.2.1, fun j => (hcm.2.2 j).trans (HPL.out.2 j)⟩
        · rw [List.map_append, HM2.out.abs]
          rfl
        · rcases hy with hy | rfl | rfl
          · exact HDJ.out j hx hy
          · exact absurd (HA3.out.lt _ hx) (Nat.lt_irrefl _)
          · exact HNG.out hx
        · rcases hy with hy | rfl | rfl
          · exact .inl hy
          · exact .inr HSZ4.out.1
          · exact .inr HGV.out
        · exact ((HF24.out.mono (S' := fun j => X2 j ∨ Y j) (fun _ h => .inl h))).trans hfs (fun j hj => .inl (.inr (by rw [hj]; exact HM2.out.rep.xt)))
      · have HL3 := hide hl3
        have HA3 := hide at3
        have HN3 := hide nx3
        have HF3 := hide fr3
        clear hl3 at3 nx3 fr3
        go_wp2
        go_ret2
        refine .inr ⟨rfl, ⟨X3, _, HLF.out.symm.trans HL3.out, HA3.out, HO2.out.rest.left, fun m hm => HPL.out.1.oth m hm, (HST.out.trans ⟨HN3.out, fun j hj => .inl hj, HF3.out.mono (fun _ h => .inl h)⟩).x, (HST.out.trans (Y2 := Y) ⟨HN3.out, fun j hj => .inl hj, HF3.out.mono (fun _ h => .inl h)⟩).fr⟩, Q2, t2.PK, clock, HM2.out.rep.keep HF3.out (fun j hy hx => HM2.out.dj j hx hy)⟩
end
end Go.Proofs.YtkhbemmcegmdaaaGreatDoor
end
section
set_option linter.all false
set_option linter.unusedVariables false
set_option maxRecDepth 100000
namespace Go.Proofs.YtkhbemmcegmdaaaGreatDoor
open Go.RowKit
open Go.ChangeMaps (setBlock)

section
variable {w w' w1 : World} {sb tb pb cb fb clock N most cm segs : Nat} {X Y S : Nat → Prop} {room ask : Int} {n : Name} {Q : List SF} {t : SSt} {s : CSt}
theorem sask_none {v : Value} (h : SNone w v) (i : Int) : Calls Tryz.prog 87 #[v, .int .i64 i] w fun e w' => e = .returned (.tuple #[.pointer none, .int .i64 1]) ∧ w = w' := by
  have HS := hide (sstate_none h)
  clear h
  go_enter Tryz.func87, Tryz.ntmps87
  go_wp2_with fail
  go_at_call 132
  refine HS.out.mono ?_
  rintro e w2 ⟨rfl, rfl⟩
  go_wp2
  go_ret2
  exact ⟨rfl, rfl⟩
theorem sask_over {d : Int} (h : SEnd w sb cb n N most d) (i : Int) : Calls Tryz.prog 87 #[.pointer (some ⟨sb, 0, none⟩), .int .i64 i] w fun e w' => e = .returned (.tuple #[.pointer none, .int .i64 150]) ∧ w = w' := by
  have HS := hide (sstate_over h)
  clear h
  go_enter Tryz.func87, Tryz.ntmps87
  go_wp2_with fail
  go_at_call 132
  refine HS.out.mono ?_
  rintro e w2 ⟨rfl, rfl⟩
  go_wp2
  go_ret2
  exact ⟨rfl, rfl⟩
theorem sask_out {PK : List Nat} (h : SRep w sb tb pb cb n N most ask Y Q PK clock) (i : Int) (hi : i < 0 ∨ (N : Int) ≤ i) : Calls Tryz.prog 87 #[.pointer (some ⟨sb, 0, none⟩), .int .i64 i] w fun e w' => e = .returned (.tuple #[.pointer none, .int .i64 2]) ∧ w = w' := by
  have HS := hide (sstate_open h)
  have c2 : w.cell? ⟨sb, 2, none⟩ = some (.int .i64 (N : Int)) := (h.blk.cell 2).trans rfl
  clear h
  by_cases h0 : i < 0
  · have b0 : decide (i < 0) = true := by simpa using h0
    clear hi h0
    go_enter Tryz.func87, Tryz.ntmps87
    go_wp2_with fail
    go_at_call 132
    refine HS.out.mono ?_
    rintro e w2 ⟨rfl, rfl⟩
    go_wp2
    go_ret2
    exact ⟨rfl, rfl⟩
  · have b0 : decide (i < 0) = false := by simpa using h0
    have b1 : decide (i ≥ (N : Int)) = true := by simp; omega
    have b2 : decide ((N : Int) ≤ i) = true := by simp; omega
    clear hi h0
    go_enter Tryz.func87, Tryz.ntmps87
    go_wp2_with fail
    go_at_call 132
    refine HS.out.mono ?_
    rintro e w2 ⟨rfl, rfl⟩
    go_wp2
    go_ret2
    exact ⟨rfl, rfl⟩
theorem SFail.then_ {n : Name} {room : Int} {cm : Nat} {W : World} (h : SFail w cb fb n room cm X Y s W) (hf : Fr (fun k => k = sb) W w') (hy : Y sb) (hx : ¬ X sb) (hl : sb < w.heap.size) : SFail w cb fb n room cm X Y s w' := by
  obtain ⟨X', s', h0, h1, h2, h3, h4, h5⟩ := h
  refine ⟨X', s', h0, h1.keep hf (fun j hj e => ?_), h2, h3, h4, h5.trans hf (fun j hj => .inl (.inr (by rw [hj]; exact hy)))⟩
  subst e
  rcases h4 _ hj with h | h
  · exact hx h
  · omega
theorem SMem.asked (h : SMem w sb tb pb cb fb n N most room cm ask X Y Q t s clock) {x : SF} (hx : x ∈ Q) (z : Int) :
    SMem ((w.setCell ⟨sb, 7, none⟩ (.int .i64 z)).setCell ⟨x.blk, 2, none⟩ (.int .i64 z)) sb tb pb cb fb n N most room cm z X Y (Q.map fun y => if y.key = x.key then { x with asked := z } else y) t s clock ∧ Fr Y w ((w.setCell ⟨sb, 7, none⟩ (.int .i64 z)).setCell ⟨x.blk, 2, none⟩ (.int .i64 z)) := by
  have hb := (h.rep.frm x hx).2.2.1
  have hf : Fr Y w ((w.setCell ⟨sb, 7, none⟩ (.int .i64 z)).setCell ⟨x.blk, 2, none⟩ (.int .i64 z)) := ((Fr.refl Y w).setCell (p := ⟨sb, 7, none⟩) (.inl h.rep.xs) _).setCell (p := ⟨x.blk, 2, none⟩) (.inl hb) _
  refine ⟨⟨(h.rep.setAsk z).turn hx { x with asked := z } 2 (.int .i64 z) rfl rfl rfl rfl rfl rfl, ?_, h.cat.keep hf (fun j hj hy => h.dj j hj hy), h.dj⟩, hf⟩
  rw [sturn_map (x' := { x with asked := z }) h.rep.nd hx SF.abs rfl]
  exact h.abs
theorem SMem.setv (h : SMem w sb tb pb cb fb n N most room cm ask X Y Q t s clock) {x : SF} (hx : x ∈ Q) (r y : Nat) :
    (∃ Q', SMem ((w.setCell ⟨x.vb, r, none⟩ (.int .u64 (y : Int))).setCell ⟨x.blk, 1, none⟩ (.bool true)) sb tb pb cb fb n N most room cm ask X Y Q' { t with T := tset x.key r y t.T } s clock) ∧ Fr Y w ((w.setCell ⟨x.vb, r, none⟩ (.int .u64 (y : Int))).setCell ⟨x.blk, 1, none⟩ (.bool true)) := by
  have hb := (h.rep.frm x hx).2.2.1
  have hv := (h.rep.frm x hx).2.2.2
  have hf : Fr Y w ((w.setCell ⟨x.vb, r, none⟩ (.int .u64 (y : Int))).setCell ⟨x.blk, 1, none⟩ (.bool true)) := ((Fr.refl Y w).setCell (p := ⟨x.vb, r, none⟩) (.inl hv) _).setCell (p := ⟨x.blk, 1, none⟩) (.inl hb) _
  have h1 := h.rep.setv hx r y
  have hx1 : ({ x with v := x.v.set r y } : SF) ∈ (Q.map fun z => if z.key = x.key then { x with v := x.v.set r y } else z) := List.mem_map.2 ⟨x, hx, by rw [if_pos rfl]⟩
  have h2 := h1.turn hx1 { x with v := x.v.set r y, set := true } 1 (.bool true) rfl rfl rfl rfl rfl rfl
  refine ⟨⟨_, ⟨h2, ?_, h.cat.keep hf (fun j hj hy => h.dj j hj hy), h.dj⟩⟩, hf⟩
  show _ = tset x.key r y t.T
  rw [← h.abs]
  unfold tset
  rw [List.map_map, List.map_map, List.map_map]
  refine List.map_congr_left fun z hz => ?_
  simp only [Function.comp]
  by_cases e : z.key = x.key
  · obtain rfl : z = x := nodup_inj h.rep.nd hz hx e
    rw [if_pos rfl, if_pos rfl, if_pos (show z.abs.key = z.key from rfl)]
    rfl
  · rw [if_neg e, if_neg e, if_neg (show ¬ z.abs.key = x.key from e)]
theorem i64_same {z : Int} (h0 : -9223372036854775808 ≤ z) (h1 : z ≤ 9223372036854775807) : IntKind.i64.wrap z = z := by
  simp only [IntKind.wrap, IntKind.bits, IntKind.signed]
  simp
  omega
theorem small_ok {r : Nat} (h : r < 256) : wrap64 (r : Int) = (r : Int) ∧ IntKind.i64.wrap (r : Int) = (r : Int) := ⟨by unfold wrap64; omega, i64_same (by omega) (by omega)⟩
theorem sask_ok (h : SMem w sb tb pb cb fb n N most room cm ask X Y Q t s clock) (ho : SOk n segs most room cm t s) (hck : s.clk + 2 ≤ 9223372036854775806) (ha0 : 0 ≤ ask) (ha1 : ask + 1 ≤ 9223372036854775806) (hm1 : 1 ≤ most) (hmb : most ≤ 9223372036854775807) (hN : N ≤ 256) (i : Nat) (hi : i < N) (hs : i / 8 < segs) :
    Calls Tryz.prog 87 #[.pointer (some ⟨sb, 0, none⟩), .int .i64 (i : Int)] w fun e w' =>
      (∃ x, e = .returned (.tuple #[.pointer (some ⟨x.blk, 0, none⟩), .int .i64 0]) ∧ SCame w sb tb pb cb fb n N most segs room cm (ask + 1) X Y t s (i / 8) x w') ∨
      (e = .returned (.tuple #[.pointer none, .int .i64 60]) ∧ SFail w cb fb n room cm X Y s w' ∧ SEnd w' sb cb n N most 0) := by
  have HS := hide (sstate_open h.rep)
  have c2 : w.cell? ⟨sb, 2, none⟩ = some (.int .i64 (N : Int)) := (h.rep.blk.cell 2).trans rfl
  have HC := hide (scomes_ok h ho hck hm1 hmb (i / 8) hs)
  have HH := hide h
  have HA := hide (And.intro ha0 ha1)
  have b0 : decide ((i : Int) < 0) = false := by simp
  have b1 : decide ((i : Int) ≥ (N : Int)) = false := by simp; omega
  have b2 : decide ((N : Int) ≤ (i : Int)) = false := by simp; omega
  have b3 : decide (N ≤ i) = false := by simp; omega
  obtain ⟨k, hk⟩ : ∃ k, i / 8 = k := ⟨_, rfl⟩
  have q0 : (i : Int).tdiv 8 = (k : Int) := by rw [Int.tdiv_eq_ediv_of_nonneg (by omega)]; omega
  obtain ⟨q1, q2⟩ := small_ok (show k < 256 by omega)
  rw [hk] at HC ⊢
  have w1 : wrap64 (ask + 1) = ask + 1 := by unfold wrap64; omega
  have w2 : IntKind.i64.wrap (ask + 1) = ask + 1 := i64_same (by omega) (by omega)
  clear h ho hck ha0 ha1 hm1 hmb hi hs hk
  go_enter Tryz.func87, Tryz.ntmps87
  go_wp2_with fail
  go_at_call 132
  refine HS.out.mono ?_
  rintro e w9 ⟨rfl, rfl⟩
  go_wp2_with fail
  go_at_call 133
  refine HC.out.mono ?_
  rintro e W2 (⟨x, rfl, hcame⟩ | ⟨rfl, hfail, Q2, PK2, clock2, hr2⟩)
  · obtain ⟨X', Y', Q', t', s', clock', hx, hxk, hm, hst, has, hok, hkp, hsv⟩ := hcame
    have HM := hide (hm.asked hx (ask + 1))
    have HRR := hide (And.intro hst (And.intro has (And.intro hok (And.intro hkp hsv))))
    have HX := hide (And.intro hx hxk)
    have c7 : W2.cell? ⟨sb, 7, none⟩ = some (.int .i64 ask) := (hm.rep.blk.cell 7).trans rfl
    have f7 : W2.frozen? ⟨sb, 7, none⟩ = false := hm.rep.blk.frozen 7
    have fx : W2.frozen? ⟨x.blk, 2, none⟩ = false := (hm.rep.frm x hx).1.frozen 2
    have x2 : W2.cell? ⟨x.blk, 2, none⟩ = some (.int .i64 x.asked) := ((hm.rep.frm x hx).1.cell 2).trans rfl
    have hne : ¬ sb = x.blk := hm.rep.blk.ne_ (hm.rep.frm x hx).1 (by decide)
    have hne2 : ¬ x.blk = sb := fun e => hne e.symm
    clear hx hxk hm hst has hok hkp hsv b0 b1 b2 b3 q0 q1 q2
    go_wp2
    go_ret2
    refine .inl ⟨{ x with asked := ask + 1 }, rfl, X', Y', _, t', s', clock', List.mem_map.2 ⟨x, HX.out.1, by rw [if_pos rfl]⟩, HX.out.2, HM.out.1, HRR.out.1.trans ⟨fun _ h => .inl h, fun _ h => .inl h, HM.out.2.mono (fun _ h => .inr h)⟩, HRR.out.2⟩
  · have HFA := hide hfail
    have HSE := hide (send_ok hr2.blk)
    clear hfail hr2 b0 b1 b2 b3 q0 q1 q2
    go_wp2_with fail
    go_at_call 91
    refine HSE.out.mono ?_
    rintro e W3 ⟨rfl, hb3, hf3⟩
    have H3 := hide (And.intro hb3 hf3)
    clear hb3 hf3
    go_wp2
    go_ret2
    exact .inr ⟨rfl, HFA.out.then_ H3.out.2 HH.out.rep.xs (fun h => HH.out.dj _ h HH.out.rep.xs) (HH.out.rep.lt _ HH.out.rep.xs), _, _, H3.out.1⟩
section
variable {x : SF} {r : Nat}
theorem seg_cell {W : World} (h : Blk W x.vb 78 (x.v.map u64v).toArray) (hr : r < x.v.length) : W.cell? ⟨x.vb, r, none⟩ = some (.int .u64 (x.v.getD r 0 : Nat)) := by
  refine (h.cell r).trans ?_
  simp [hr, u64v, List.getD_eq_getElem?_getD]
end
theorem sget_none {v : Value} (h : SNone w v) (i : Int) : Calls Tryz.prog 50 #[v, .int .i64 i] w fun e w' => e = .returned (.tuple #[.int .u64 0, .int .i64 1]) ∧ w = w' := by
  have HS := hide (sask_none h i)
  clear h
  go_enter Tryz.func50, Tryz.ntmps50
  go_wp2_with fail
  go_at_call 87
  refine HS.out.mono ?_
  rintro e w2 ⟨rfl, rfl⟩
  go_wp2
  go_ret2
  exact ⟨rfl, rfl⟩
theorem sget_over {d : Int} (h : SEnd w sb cb n N most d) (i : Int) : Calls Tryz.prog 50 #[.pointer (some ⟨sb, 0, none⟩), .int .i64 i] w fun e w' => e = .returned (.tuple #[.int .u64 0, .int .i64 150]) ∧ w = w' := by
  have HS := hide (sask_over h i)
  clear h
  go_enter Tryz.func50, Tryz.ntmps50
  go_wp2_with fail
  go_at_call 87
  refine HS.out.mono ?_
  rintro e w2 ⟨rfl, rfl⟩
  go_wp2
  go_ret2
  exact ⟨rfl, rfl⟩
theorem sget_out {PK : List Nat} (h : SRep w sb tb pb cb n N most ask Y Q PK clock) (i : Int) (hi : i < 0 ∨ (N : Int) ≤ i) : Calls Tryz.prog 50 #[.pointer (some ⟨sb, 0, none⟩), .int .i64 i] w fun e w' => e = .returned (.tuple #[.int .u64 0, .int .i64 2]) ∧ w = w' := by
  have HS := hide (sask_out h i hi)
  clear h hi
  go_enter Tryz.func50, Tryz.ntmps50
  go_wp2_with fail
  go_at_call 87
  refine HS.out.mono ?_
  rintro e w2 ⟨rfl, rfl⟩
  go_wp2
  go_ret2
  exact ⟨rfl, rfl⟩
theorem sset_none {v : Value} (h : SNone w v) (i y : Int) : Calls Tryz.prog 42 #[v, .int .i64 i, .int .u64 y] w fun e w' => e = .returned (.int .i64 1) ∧ w = w' := by
  have HS := hide (sask_none h i)
  clear h
  go_enter Tryz.func42, Tryz.ntmps42
  go_wp2_with fail
  go_at_call 87
  refine HS.out.mono ?_
  rintro e w2 ⟨rfl, rfl⟩
  go_wp2
  go_ret
  exact ⟨rfl, rfl⟩
theorem sset_over {d : Int} (h : SEnd w sb cb n N most d) (i y : Int) : Calls Tryz.prog 42 #[.pointer (some ⟨sb, 0, none⟩), .int .i64 i, .int .u64 y] w fun e w' => e = .returned (.int .i64 150) ∧ w = w' := by
  have HS := hide (sask_over h i)
  clear h
  go_enter Tryz.func42, Tryz.ntmps42
  go_wp2_with fail
  go_at_call 87
  refine HS.out.mono ?_
  rintro e w2 ⟨rfl, rfl⟩
  go_wp2
  go_ret
  exact ⟨rfl, rfl⟩
theorem sset_out {PK : List Nat} (h : SRep w sb tb pb cb n N most ask Y Q PK clock) (i y : Int) (hi : i < 0 ∨ (N : Int) ≤ i) : Calls Tryz.prog 42 #[.pointer (some ⟨sb, 0, none⟩), .int .i64 i, .int .u64 y] w fun e w' => e = .returned (.int .i64 2) ∧ w = w' := by
  have HS := hide (sask_out h i hi)
  clear h hi
  go_enter Tryz.func42, Tryz.ntmps42
  go_wp2_with fail
  go_at_call 87
  refine HS.out.mono ?_
  rintro e w2 ⟨rfl, rfl⟩
  go_wp2
  go_ret
  exact ⟨rfl, rfl⟩
theorem sget_ok (h : SMem w sb tb pb cb fb n N most room cm ask X Y Q t s clock) (ho : SOk n segs most room cm t s) (hck : s.clk + 2 ≤ 9223372036854775806) (ha0 : 0 ≤ ask) (ha1 : ask + 1 ≤ 9223372036854775806) (hm1 : 1 ≤ most) (hmb : most ≤ 9223372036854775807) (hN : N ≤ 256) (i : Nat) (hi : i < N) (hs : i / 8 < segs) :
    Calls Tryz.prog 50 #[.pointer (some ⟨sb, 0, none⟩), .int .i64 (i : Int)] w fun e w' =>
      (e = .returned (.tuple #[.int .u64 ((sval s.F n t (i / 8)).getD (i % 8) 0 : Nat), .int .i64 0]) ∧ ∃ x, SCame w sb tb pb cb fb n N most segs room cm (ask + 1) X Y t s (i / 8) x w') ∨
      (e = .returned (.tuple #[.int .u64 0, .int .i64 60]) ∧ SFail w cb fb n room cm X Y s w' ∧ SEnd w' sb cb n N most 0) := by
  have HA := hide (sask_ok h ho hck ha0 ha1 hm1 hmb hN i hi hs)
  obtain ⟨k, hk⟩ : ∃ k, i / 8 = k := ⟨_, rfl⟩
  obtain ⟨r, hr⟩ : ∃ r, i % 8 = r := ⟨_, rfl⟩
  have r8 : r < 8 := by omega
  have q0 : (i : Int).tmod 8 = (r : Int) := by rw [Int.tmod_eq_emod_of_nonneg (by omega)]; omega
  obtain ⟨q1, q2⟩ := small_ok (show r < 256 from Nat.lt_trans r8 (by decide))
  rw [hk] at HA ⊢
  rw [hr]
  clear h ho hck ha0 ha1 hm1 hmb hi hs hk hr
  go_enter Tryz.func50, Tryz.ntmps50
  go_wp2_with fail
  go_at_call 87
  refine HA.out.mono ?_
  rintro e W2 (⟨x, rfl, hcame⟩ | ⟨rfl, hfail⟩)
  · have HCM := hide hcame
    obtain ⟨X', Y', Q', t', s', clock', hx, hxk, hm, hst, has, hok, hkp, hsv⟩ := hcame
    have x0 : W2.cell? ⟨x.blk, 0, none⟩ = some (.slice (some ⟨x.vb, 0, none⟩) 8 8) := ((hm.rep.frm x hx).1.cell 0).trans rfl
    have hv := hok.inv.tv x.abs (hm.get hx)
    have xr : W2.cell? ⟨x.vb, r, none⟩ = some (.int .u64 (x.v.getD r 0 : Nat)) := seg_cell (hm.rep.frm x hx).2.1 (by have := hv.1; show r < x.abs.v.length; omega)
    have HV := hide (show x.v = sval s.F n t k by rw [← hsv k, ← hxk]; exact (sval_there hok.inv.tnd (hm.get hx)).symm)
    clear hx hxk hm hst has hok hkp hsv hv
    go_wp2
    go_ret2
    exact .inl ⟨by rw [← HV.out, List.getD_eq_getElem?_getD]; rfl, x, HCM.out⟩
  · have HFA := hide hfail
    clear hfail q0 q1 q2
    go_wp2
    go_ret2
    exact .inr ⟨rfl, HFA.out⟩
/-- a number is set -/
def SPut (w : World) (sb tb pb cb fb : Nat) (n : Name) (N most segs : Nat) (room : Int) (cm : Nat) (ask : Int) (X Y : Nat → Prop) (t : SSt) (s : CSt) (k r y : Nat) (w' : World) : Prop :=
  ∃ X' Y' Q' t' s' clock', SMem w' sb tb pb cb fb n N most room cm ask X' Y' Q' { t' with T := tset k r y t'.T } s' clock' ∧ SStep w w' X Y X' Y' ∧ SAsk n most room cm k t s t' s' ∧ SOk n segs most room cm { t' with T := tset k r y t'.T } s' ∧ SKeep n 2 t s { t' with T := tset k r y t'.T } s' ∧ ∀ j, sval s'.F n { t' with T := tset k r y t'.T } j = if j = k then (sval s.F n t j).set r y else sval s.F n t j
theorem sset_ok (h : SMem w sb tb pb cb fb n N most room cm ask X Y Q t s clock) (ho : SOk n segs most room cm t s) (hck : s.clk + 2 ≤ 9223372036854775806) (ha0 : 0 ≤ ask) (ha1 : ask + 1 ≤ 9223372036854775806) (hm1 : 1 ≤ most) (hmb : most ≤ 9223372036854775807) (hN : N ≤ 256) (i y : Nat) (hi : i < N) (hs : i / 8 < segs) (hy : y < 18446744073709551616) :
    Calls Tryz.prog 42 #[.pointer (some ⟨sb, 0, none⟩), .int .i64 (i : Int), .int .u64 (y : Int)] w fun e w' =>
      (e = .returned (.int .i64 0) ∧ SPut w sb tb pb cb fb n N most segs room cm (ask + 1) X Y t s (i / 8) (i % 8) y w') ∨
      (e = .returned (.int .i64 60) ∧ SFail w cb fb n room cm X Y s w' ∧ SEnd w' sb cb n N most 0) := by
  have HA := hide (sask_ok h ho hck ha0 ha1 hm1 hmb hN i hi hs)
  have HY := hide hy
  obtain ⟨k, hk⟩ : ∃ k, i / 8 = k := ⟨_, rfl⟩
  obtain ⟨r, hr⟩ : ∃ r, i % 8 = r := ⟨_, rfl⟩
  have r8 : r < 8 := by omega
  have q0 : (i : Int).tmod 8 = (r : Int) := by rw [Int.tmod_eq_emod_of_nonneg (by omega)]; omega
  obtain ⟨q1, q2⟩ := small_ok (show r < 256 from Nat.lt_trans r8 (by decide))
  rw [hk] at HA ⊢
  rw [hr]
  clear h ho hck ha0 ha1 hm1 hmb hi hs hk hr hy
  go_enter Tryz.func42, Tryz.ntmps42
  go_wp2_with fail
  go_at_call 87
  refine HA.out.mono ?_
  rintro e W2 (⟨x, rfl, hcame⟩ | ⟨rfl, hfail⟩)
  · obtain ⟨X', Y', Q', t', s', clock', hx, hxk, hm, hst, has, hok, hkp, hsv⟩ := hcame
    have x0 : W2.cell? ⟨x.blk, 0, none⟩ = some (.slice (some ⟨x.vb, 0, none⟩) 8 8) := ((hm.rep.frm x hx).1.cell 0).trans rfl
    have x1 : W2.cell? ⟨x.blk, 1, none⟩ = some (.bool x.set) := ((hm.rep.frm x hx).1.cell 1).trans rfl
    have f1 : W2.frozen? ⟨x.blk, 1, none⟩ = false := (hm.rep.frm x hx).1.frozen 1
    have hv := hok.inv.tv x.abs (hm.get hx)
    have xr : W2.cell? ⟨x.vb, r, none⟩ = some (.int .u64 (x.v.getD r 0 : Nat)) := seg_cell (hm.rep.frm x hx).2.1 (by have := hv.1; show r < x.abs.v.length; omega)
    have fr : W2.frozen? ⟨x.vb, r, none⟩ = false := (hm.rep.frm x hx).2.1.frozen r
    have hne : ¬ x.vb = x.blk := (hm.rep.frm x hx).2.1.ne_ (hm.rep.frm x hx).1 (by decide)
    have hne2 : ¬ x.blk = x.vb := fun e => hne e.symm
    have HM := hide (hm.setv hx r y)
    have HI := hide (hok.inv.setv (hm.get hx) (r := r) HY.out)
    have HXK := hide (show x.abs.key = k from hxk)
    have HRR := hide (And.intro hst (And.intro has (And.intro hok (And.intro hkp hsv))))
    clear hx hm hst has hok hkp hsv hv
    go_wp2
    go_ret
    have hxk2 : x.key = k := HXK.out
    obtain ⟨⟨Q2, hm2⟩, hf2⟩ := HM.out
    obtain ⟨hst, has, hok, hkp, hsv⟩ := HRR.out
    rw [hxk2] at hm2
    have hi := HI.out
    rw [HXK.out] at hi
    refine .inl ⟨rfl, X', Y', Q2, t', s', clock', hm2, hst.trans ⟨fun _ h => .inl h, fun _ h => .inl h, hf2.mono (fun _ h => .inr h)⟩, has, ⟨hok.rest, hi.1, hok.room_, hok.c1⟩, ⟨hkp.oth, hkp.tot, hkp.lft, hkp.clk⟩, fun j => ?_⟩
    rw [hi.2, hsv]
  · have HFA := hide hfail
    clear hfail q0 q1 q2
    go_wp2
    go_ret
    exact .inr ⟨rfl, HFA.out⟩
end
end Go.Proofs.YtkhbemmcegmdaaaGreatDoor
end
section
set_option linter.all false
set_option linter.unusedVariables false
set_option maxRecDepth 100000
namespace Go.Proofs.YtkhbemmcegmdaaaGreatDoor
open Go.RowKit

structure ActWf (a : CAct) : Prop where
  kind : a.kind < 256
  lo : -9223372036854775808 ≤ a.i
  hi : a.i ≤ 9223372036854775807
  name : a.name.length ≤ 9223372036854775807
  data : a.data.length ≤ 9223372036854775807
structure ActsR (w : World) (B : Nat) (A : Option Addr) (n : Nat) (l : List CAct) : Prop where
  len : l.length = n
  wf : ∀ a ∈ l, ActWf a
  cells : ∀ (i : Nat) (a : CAct), l[i]? = some a → ∃ b o, A = some ⟨b, o, none⟩ ∧ b < B ∧ ∀ (j : Nat) (v : Value), (actc a)[j]? = some v → w.cell? ⟨b, o + i * 5 + j, none⟩ = some v
section
variable {w w' : World} {B : Nat} {A : Option Addr} {n : Nat} {l : List CAct} {S : Nat → Prop}
theorem ActsR.fr (h : ActsR w B A n l) (hf : Fr S w w') (hB : B ≤ w.heap.size) (hs : ∀ k, S k → B ≤ k) : ActsR w' B A n l :=
  ⟨h.len, h.wf, fun i a ha => by
    obtain ⟨b, o, e, hb, hc⟩ := h.cells i a ha
    exact ⟨b, o, e, hb, fun j v hv => hf.cell (hc j v hv) (fun hS => Nat.lt_irrefl _ (Nat.lt_of_lt_of_le hb (hs b hS)))⟩⟩
theorem ActsR.at (h : ActsR w B A n l) {k : Nat} (hk : k < n) : ∃ (a : CAct) (b o : Nat), l[k]? = some a ∧ a ∈ l ∧ A = some ⟨b, o, none⟩ ∧ b < B ∧ w.cell? ⟨b, o + k * 5, none⟩ = some (.int .u8 (a.kind : Int)) ∧ w.cell? ⟨b, o + k * 5 + 1, none⟩ = some (.string ⟨a.name.toArray⟩) ∧
    w.cell? ⟨b, o + k * 5 + 2, none⟩ = some (.int .i64 a.i) ∧ w.cell? ⟨b, o + k * 5 + 3, none⟩ = some (.string ⟨a.data.toArray⟩) ∧ w.cell? ⟨b, o + k * 5 + 4, none⟩ = some (.int .u8 (a.x.toNat : Int)) := by
  have hk2 : k < l.length := by rw [h.len]; exact hk
  obtain ⟨b, o, e, hb, hc⟩ := h.cells k l[k] (List.getElem?_eq_getElem hk2)
  exact ⟨l[k], b, o, List.getElem?_eq_getElem hk2, List.getElem_mem hk2, e, hb, hc 0 _ rfl, hc 1 _ rfl, hc 2 _ rfl, hc 3 _ rfl, hc 4 _ rfl⟩
/-- none of these is great -/
def Small (a : CAct) : Prop := a.name.length ≤ 40 ∧ a.data.length ≤ 400
theorem great_ok (h : ActsR w B A n l) (many : Nat) (c : Nat) (hm : many ≤ 1000) (hn : n ≤ 9223372036854775807) : Calls Tryz.prog 23 #[.slice A n c, .int .i64 (many : Int)] w fun e w' => (e = .returned (.bool true) ∨ (e = .returned (.bool false) ∧ n ≤ many ∧ ∀ a ∈ l, Small a)) ∧ w = w' := by
  by_cases hmn : many < n
  · have b0 : (n : Int) > (many : Int) := by omega
    have b1 : (many : Int) < (n : Int) := by omega
    clear h hmn hm
    go_enter Tryz.func23, Tryz.ntmps23
    go_wp2
    go_ret
    exact ⟨.inl rfl, rfl⟩
  · have b0 : ¬ (n : Int) > (many : Int) := by omega
    have b1 : ¬ (many : Int) < (n : Int) := by omega
    have HH := hide h
    have HM := hide hmn
    clear h hmn
    go_enter Tryz.func23, Tryz.ntmps23
    go_wp2
    go_loopw [5] (fun i wr => ∃ k : Nat, i = .int .i64 (k : Int) ∧ k ≤ n ∧ wr = w ∧ ∀ a ∈ l.take k, Small a) (fun i _ => n - (intOf i).toNat)
    case atStart => exact ⟨0, rfl, by omega, rfl, by simp⟩
    case round =>
      obtain ⟨k, rfl, hk, rfl, hs⟩ := hrel
      by_cases hlt : k < n
      · obtain ⟨a, b, o, hka, hal, rfl, hb, s0, s1, s2, s3, s4⟩ := HH.out.at hlt
        have hwf := HH.out.wf a hal
        have g0 : (0 : Int) ≤ (k : Int) := by omega
        have g1 : (k : Int) < (n : Int) := by omega
        have HSM := hide hs
        have HKA := hide hka
        obtain ⟨q, hq⟩ : ∃ q, a.name.length = q := ⟨_, rfl⟩
        obtain ⟨r, hr⟩ : ∃ r, a.data.length = r := ⟨_, rfl⟩
        have z0 : (⟨a.name.toArray⟩ : ByteArray).size = q := by rw [← hq]; simp [ByteArray.size]
        have z1 : (⟨a.data.toArray⟩ : ByteArray).size = r := by rw [← hr]; simp [ByteArray.size]
        have HQ := hide hq
        have HR := hide hr
        have hq2 : q ≤ 9223372036854775807 := by rw [← hq]; exact hwf.name
        have hr2 : r ≤ 9223372036854775807 := by rw [← hr]; exact hwf.data
        clear hs hka hal hwf hq hr
        by_cases h1 : 40 < q
        · have b2 : (q : Int) > 40 := by omega
          have b3 : (40 : Int) < (q : Int) := by omega
          go_wp2
          go_ret
          exact ⟨.inl rfl, rfl⟩
        · have b2 : ¬ (q : Int) > 40 := by omega
          have b3 : ¬ (40 : Int) < (q : Int) := by omega
          by_cases h2 : 400 < r
          · have b4 : (r : Int) > 400 := by omega
            have b5 : (400 : Int) < (r : Int) := by omega
            go_wp2
            go_ret
            exact ⟨.inl rfl, rfl⟩
          · have b4 : ¬ (r : Int) > 400 := by omega
            have b5 : ¬ (400 : Int) < (r : Int) := by omega
            go_wp2
            go_roundw
            case rel =>
              refine ⟨k + 1, by go_num, by omega, by first | rfl | trivial, fun y hy => ?_⟩
              rw [List.take_add_one, HKA.out] at hy
              rcases List.mem_append.1 hy with hy | hy
              · exact HSM.out y hy
              · simp at hy
                subst hy
                exact ⟨by rw [HQ.out]; omega, by rw [HR.out]; omega⟩
            case measure => simp [intOf]; omega
      · obtain rfl : k = n := by omega
        have HSM := hide hs
        clear hs
        go_wp2
        go_ret
        refine ⟨.inr ⟨rfl, by have := HM.out; omega, fun y hy => HSM.out y ?_⟩, rfl⟩
        rw [List.take_of_length_le (by rw [HH.out.len]; exact Nat.le_refl _)]
        exact hy
theorem Small.ok {a : CAct} (h : Small a) (hw : ActWf a) : ActOk a := ⟨hw.kind, h.1, h.2, hw.lo, hw.hi⟩
end
end Go.Proofs.YtkhbemmcegmdaaaGreatDoor
end
