/- Parts of the proof of several laws: no conditions of their own. -/
import Derived.Test.YtkhbemmcegmdaaaGreatDoorWhPk6
import Derived.Test.YtkhbemmcegmdaaaGreatDoorWhPk14
import Derived.Test.YtkhbemmcegmdaaaGreatDoorWhPk8
import Derived.Defers
section
set_option linter.all false
set_option linter.unusedVariables false
set_option maxRecDepth 100000
namespace Go.Proofs.YtkhbemmcegmdaaaGreatDoor

/-- a store, and its cache at rest -/
structure SOk (n : Name) (segs most : Nat) (room : Int) (cm : Nat) (t : SSt) (s : CSt) : Prop where
  rest : CRest room cm s
  inv : SInv n segs most t s.F
  room_ : ((total s.F : Nat) : Int) + (segs : Int) ≤ room + (t.PK.length : Int)
  c1 : 1 ≤ cm
/-- what stays of a cache and its files -/
structure SKeep (n : Name) (k : Nat) (t : SSt) (s : CSt) (t' : SSt) (s' : CSt) : Prop where
  oth : ∀ m, m ≠ n → fpg m s'.F = fpg m s.F
  tot : total s'.F + t.PK.length = total s.F + t'.PK.length
  lft : s.left = -1 → s'.left = -1
  clk : s'.clk ≤ s.clk + k
theorem SKeep.refl (n : Name) (k : Nat) (t t' : SSt) (s : CSt) (h : t'.PK = t.PK) : SKeep n k t s t' s := ⟨fun _ _ => rfl, by rw [h], id, by omega⟩
theorem SKeep.trans {n : Name} {j k : Nat} {t t' t'' : SSt} {s s' s'' : CSt} (h : SKeep n j t s t' s') (h2 : SKeep n k t' s' t'' s'') : SKeep n (j + k) t s t'' s'' :=
  ⟨fun m hm => (h2.oth m hm).trans (h.oth m hm), by have := h.tot; have := h2.tot; omega, fun e => h2.lft (h.lft e), by have := h.clk; have := h2.clk; omega⟩
theorem SKeep.room {n : Name} {k segs : Nat} {room : Int} {t t' : SSt} {s s' : CSt} (h : SKeep n k t s t' s') (h2 : ((total s.F : Nat) : Int) + (segs : Int) ≤ room + (t.PK.length : Int)) : ((total s'.F : Nat) : Int) + (segs : Int) ≤ room + (t'.PK.length : Int) := by
  have := h.tot; omega
theorem keys_lt {segs : Nat} {L : List Nat} (hn : L.Nodup) (hl : ∀ k ∈ L, k < segs) : L.length ≤ segs := by
  induction segs generalizing L with
  | zero =>
    cases L with
    | nil => simp
    | cons x L => exact absurd (hl x (by simp)) (by omega)
  | succ m ih =>
    have h1 := ih (L := L.filter fun k => decide (k ≠ m)) (hn.sublist List.filter_sublist) (fun k hk => by
      have := List.mem_filter.1 hk
      have h2 := hl k this.1
      have h3 : k ≠ m := by simpa using this.2
      omega)
    have h2 : L.length ≤ (L.filter fun k => decide (k ≠ m)).length + 1 := by
      clear ih h1 hl
      induction L with
      | nil => simp
      | cons x L ih =>
        rw [List.nodup_cons] at hn
        by_cases e : x = m
        · subst e
          rw [List.filter_cons_of_neg (by simp)]
          rw [List.filter_eq_self.2 (fun z hz => by
            have : z ≠ x := fun e => hn.1 (by rw [← e]; exact hz)
            simpa using this)]
          simp
        · rw [List.filter_cons_of_pos (by simpa using e)]
          have := ih hn.2
          simp only [List.length_cons]
          omega
    omega
theorem SOk.fits {n : Name} {segs most : Nat} {room : Int} {cm : Nat} {t : SSt} {s : CSt} (h : SOk n segs most room cm t s) {k : Nat} (hk : k < segs) : k ∈ t.PK ∨ ((total s.F : Nat) : Int) < room := by
  by_cases hm : k ∈ t.PK
  · exact .inl hm
  · refine .inr ?_
    have h1 := keys_lt (segs := segs) (L := k :: t.PK) (List.nodup_cons.2 ⟨hm, h.inv.pnd⟩) (fun j hj => by
      rcases List.mem_cons.1 hj with rfl | hj
      · exact hk
      · exact h.inv.plt j hj)
    have h2 := h.room_
    simp only [List.length_cons] at h1
    omega
/-- the cache behind a segment that is written -/
def swr (room : Int) (cm : Nat) (n : Name) (PK : List Nat) (g : Seg) (s : CSt) : CSt := (cput room cm (n, (spage PK g.key : Int)) (encS8 g.v) s).2
/-- a segment gone -/
def tgone (t : SSt) (g : Seg) : SSt := ⟨twithout g.key t.T, if g.set = true then spk t.PK g.key else t.PK⟩
def sgone (room : Int) (cm : Nat) (n : Name) (t : SSt) (g : Seg) (s : CSt) : CSt := if g.set = true then swr room cm n t.PK g s else s
theorem cput_clk (room : Int) (most : Nat) (k : CKey) (d : List UInt8) (s : CSt) (hn : (s.L.map (·.key)).Nodup) : (cput room most k d s).2.clk ≤ s.clk + 1 := by
  have hw := cput_ways room most k d s hn
  generalize (cput room most k d s).1 = e at hw
  generalize (cput room most k d s).2 = s' at hw
  cases hw <;> simp
theorem SOk.wr {n : Name} {segs most : Nat} {room : Int} {cm : Nat} {t : SSt} {s : CSt} (h : SOk n segs most room cm t s) {g : Seg} (hg : g ∈ t.T) :
    (cput room cm (n, (spage t.PK g.key : Int)) (encS8 g.v) s).1 = 0 ∧ (swr room cm n t.PK g s).F = (fsput room s.F n (spage t.PK g.key : Int) (encB (encS8 g.v))).2 ∧ (swr room cm n t.PK g s).left = s.left ∧ CRest room cm (swr room cm n t.PK g s) := by
  obtain ⟨v1, v2⟩ := h.inv.tv g hg
  have hl64 : (encS8 g.v).length = 64 := encS8_len v1
  have hp := fsput_page (k := g.key) (p := encB (encS8 g.v)) h.rest.inv.fs h.rest.inv.fnd h.inv.nam h.inv.pgs (encB_len (by omega)) (h.fits (h.inv.tlt g hg))
  exact h.rest.put h.c1 (n, (spage t.PK g.key : Int)) (encS8 g.v) (by omega) hp.1
theorem SOk.gone {n : Name} {segs most : Nat} {room : Int} {cm : Nat} {t : SSt} {s : CSt} (h : SOk n segs most room cm t s) {g : Seg} (hg : g ∈ t.T) :
    SOk n segs most room cm (tgone t g) (sgone room cm n t g s) ∧ SKeep n 1 t s (tgone t g) (sgone room cm n t g s) ∧ ∀ k, sval (sgone room cm n t g s).F n (tgone t g) k = sval s.F n t k := by
  unfold tgone sgone
  by_cases hs : g.set = true
  · rw [if_pos hs, if_pos hs]
    obtain ⟨v1, v2⟩ := h.inv.tv g hg
    have hl64 : (encS8 g.v).length = 64 := encS8_len v1
    have hfit := h.fits (h.inv.tlt g hg)
    obtain ⟨p1, p2, p3, p4, p5⟩ := fsput_page (k := g.key) (p := encB (encS8 g.v)) h.rest.inv.fs h.rest.inv.fnd h.inv.nam h.inv.pgs (encB_len (by omega)) hfit
    obtain ⟨w1, w2, w3, w4⟩ := h.wr hg
    obtain ⟨i1, i2⟩ := h.inv.wrote h.rest.inv.fs h.rest.inv.fnd hg hfit
    have hk : SKeep n 1 t s ⟨twithout g.key t.T, spk t.PK g.key⟩ (swr room cm n t.PK g s) := ⟨fun m hm => by rw [w2]; exact p2 m hm, by rw [w2]; exact p5, fun e => w3.trans e, cput_clk _ _ _ _ _ h.rest.inv.nd⟩
    refine ⟨⟨w4, ?_, hk.room h.room_, h.c1⟩, hk, fun k => ?_⟩
    · rw [w2]; exact i1
    · rw [w2]; exact i2 k
  · rw [if_neg hs, if_neg hs]
    obtain ⟨i1, i2⟩ := h.inv.goes hg (by simpa using hs)
    exact ⟨⟨h.rest, i1, h.room_, h.c1⟩, SKeep.refl _ _ _ _ _ rfl, i2⟩
/-- the cache behind a page that is read -/
def srd (cm : Nat) (n : Name) (PK : List Nat) (k : Nat) (s : CSt) : CSt := if k ∈ PK then (cunpin (n, (PK.idxOf k : Int)) (cpin cm (n, (PK.idxOf k : Int)) s).2.2).2 else s
theorem SOk.page {n : Name} {segs most : Nat} {room : Int} {cm : Nat} {t : SSt} {s : CSt} (h : SOk n segs most room cm t s) {k : Nat} (hk : k ∈ t.PK) :
    (0 ≤ (t.PK.idxOf k : Int) ∧ (t.PK.idxOf k : Int) < ((fpg n s.F).length : Int)) ∧ pageB ((fpg n s.F).getD (t.PK.idxOf k) []) = true ∧ (datB ((fpg n s.F).getD (t.PK.idxOf k) [])).length = 64 := by
  have hlt := List.idxOf_lt_length_of_mem hk
  have hp := h.inv.pgs
  obtain ⟨a, b⟩ := h.inv.pok _ hlt
  exact ⟨⟨by omega, by omega⟩, a, b⟩
theorem cpin_clk (most : Nat) (k : CKey) (s : CSt) (hn : (s.L.map (·.key)).Nodup) : (cpin most k s).2.2.clk ≤ s.clk + 1 := by
  have := cfind_clk most k s hn
  unfold cpin
  split <;> exact this
theorem cunpin_clk (k : CKey) (s : CSt) : (cunpin k s).2.clk = s.clk := by
  unfold cunpin
  split
  · split <;> rfl
  · rfl
theorem rd_m1 {a b : Int} (h : b = a ∨ b = rdLeft a) (e : a = -1) : b = -1 := by
  subst e
  rcases h with rfl | rfl
  · rfl
  · rfl
theorem SOk.rd {n : Name} {segs most : Nat} {room : Int} {cm : Nat} {t : SSt} {s : CSt} (h : SOk n segs most room cm t s) {k : Nat} (h0 : k ∈ t.PK → (cfind cm (n, (t.PK.idxOf k : Int)) s).1 = 0) (t' : SSt) (ht : t'.PK = t.PK) :
    CRest room cm (srd cm n t.PK k s) ∧ (srd cm n t.PK k s).F = s.F ∧ SKeep n 1 t s t' (srd cm n t.PK k s) := by
  unfold srd
  by_cases hk : k ∈ t.PK
  · rw [if_pos hk]
    obtain ⟨_, _, _, _, r5, r6, r7⟩ := h.rest.read0 h.c1 (n, (t.PK.idxOf k : Int)) (h0 hk)
    refine ⟨r5, r6, fun m _ => by rw [r6], by rw [r6, ht], fun e => rd_m1 r7 e, ?_⟩
    rw [cunpin_clk]
    exact cpin_clk _ _ _ h.rest.inv.nd
  · rw [if_neg hk]
    exact ⟨h.rest, rfl, SKeep.refl _ _ _ _ _ ht⟩
/-- a segment that comes -/
def tcome (F : FileL) (n : Name) (k : Nat) (t : SSt) : SSt := { t with T := t.T ++ [⟨k, sbase F n t.PK k, false⟩] }
theorem SOk.come {n : Name} {segs most : Nat} {room : Int} {cm : Nat} {t : SSt} {s : CSt} (h : SOk n segs most room cm t s) {k : Nat} (hk : k < segs) (hno : ∀ g ∈ t.T, g.key ≠ k) (hl : t.T.length < most) (h0 : k ∈ t.PK → (cfind cm (n, (t.PK.idxOf k : Int)) s).1 = 0) :
    SOk n segs most room cm (tcome s.F n k t) (srd cm n t.PK k s) ∧ SKeep n 1 t s (tcome s.F n k t) (srd cm n t.PK k s) ∧ ∀ j, sval (srd cm n t.PK k s).F n (tcome s.F n k t) j = sval s.F n t j := by
  obtain ⟨r1, r2, r3⟩ := h.rd h0 (tcome s.F n k t) rfl
  obtain ⟨i1, i2⟩ := h.inv.come hk hno hl
  refine ⟨⟨r1, by rw [r2]; exact i1, r3.room h.room_, h.c1⟩, r3, fun j => ?_⟩
  rw [r2]
  exact i2 j
/-- what asking for a segment comes to -/
inductive SAsk (n : Name) (most : Nat) (room : Int) (cm : Nat) (k : Nat) (t : SSt) (s : CSt) : SSt → CSt → Prop
  | there (g : Seg) (hg : g ∈ t.T) (hk : g.key = k) : SAsk n most room cm k t s t s
  | come (hno : ∀ g ∈ t.T, g.key ≠ k) (hl : t.T.length < most) : SAsk n most room cm k t s (tcome s.F n k t) (srd cm n t.PK k s)
  | goes (hno : ∀ g ∈ t.T, g.key ≠ k) (hl : most ≤ t.T.length) (g : Seg) (hg : g ∈ t.T) : SAsk n most room cm k t s (tcome (sgone room cm n t g s).F n k (tgone t g)) (srd cm n (tgone t g).PK k (sgone room cm n t g s))
theorem tgone_no {k : Nat} {t : SSt} {g : Seg} (h : ∀ x ∈ t.T, x.key ≠ k) : ∀ x ∈ (tgone t g).T, x.key ≠ k := fun x hx => h x (List.mem_filter.1 hx).1
theorem SOk.asked {n : Name} {segs most : Nat} {room : Int} {cm : Nat} {t t' : SSt} {s s' : CSt} (h : SOk n segs most room cm t s) (h1 : 1 ≤ most) {k : Nat} (hk : k < segs) (ha : SAsk n most room cm k t s t' s')
    (h0 : ∀ u v, u = t ∧ v = s ∨ (∃ g ∈ t.T, u = tgone t g ∧ v = sgone room cm n t g s) → k ∈ u.PK → (cfind cm (n, (u.PK.idxOf k : Int)) v).1 = 0) :
    SOk n segs most room cm t' s' ∧ SKeep n 2 t s t' s' ∧ (∀ j, sval s'.F n t' j = sval s.F n t j) ∧ ∃ g ∈ t'.T, g.key = k := by
  cases ha with
  | there g hg hk => exact ⟨h, SKeep.refl _ _ _ _ _ rfl, fun _ => rfl, g, hg, hk⟩
  | come hno hl =>
    obtain ⟨a, b, c⟩ := h.come hk hno hl (h0 t s (.inl ⟨rfl, rfl⟩))
    exact ⟨a, ⟨b.oth, b.tot, b.lft, by have := b.clk; omega⟩, c, ⟨k, _, false⟩, List.mem_append_right _ (List.mem_singleton.2 rfl), rfl⟩
  | goes hno hl g hg =>
    obtain ⟨a, b, c⟩ := h.gone hg
    have hlen := twithout_len h.inv.tnd hg
    have hle := h.inv.tle
    obtain ⟨a2, b2, c2⟩ := a.come hk (tgone_no hno) (by show (twithout g.key t.T).length < most; omega) (h0 _ _ (.inr ⟨g, hg, rfl, rfl⟩))
    exact ⟨a2, b.trans b2, fun j => (c2 j).trans (c j), ⟨k, _, false⟩, List.mem_append_right _ (List.mem_singleton.2 rfl), rfl⟩
theorem sval_there {F : FileL} {n : Name} {t : SSt} {g : Seg} (hn : (t.T.map (·.key)).Nodup) (hg : g ∈ t.T) : sval F n t g.key = g.v := by
  unfold sval
  rw [tfind hn hg]
end Go.Proofs.YtkhbemmcegmdaaaGreatDoor
end
section
set_option linter.all false
set_option linter.unusedVariables false
set_option maxRecDepth 100000
namespace Go.Proofs.YtkhbemmcegmdaaaGreatDoor
open Go.RowKit
open Go.ChangeMaps (setBlock)

section
variable {w w' w1 : World} {sb tb pb cb fb clock N most cm : Nat} {X Y S : Nat → Prop} {room ask : Int} {n : Name} {Q : List SF} {PK : List Nat} {s : CSt}
theorem encS8_str {v : List Nat} : (v ++ List.replicate (8 - 8) 0).flatMap (encW 8) = encS8 v := by simp [encS8]
theorem swrite_ok (h : SRep w sb tb pb cb n N most ask Y Q PK clock) (hc : CAt w cb fb X room cm s) (hI : CInv room cm s) (hd : ∀ j, X j → ¬ Y j) (hck : s.clk + 1 ≤ 9223372036854775806) (hnl : n.length ≤ 9223372036854775807) {k vb : Nat} {v : List Nat} (hv : v.length = 8) (hb : Blk w vb 78 (v.map u64v).toArray)
    (h0 : (cput room cm (n, (spage PK k : Int)) (encS8 v) s).1 = 0) :
    Calls Tryz.prog 172 #[.pointer (some ⟨sb, 0, none⟩), .int .i64 (k : Int), .slice (some ⟨vb, 0, none⟩) 8 8] w fun e w' => e = .returned (.int .i64 0) ∧ SRep w' sb tb pb cb n N most ask Y Q (spk PK k) clock ∧
      (∃ X', CAt w' cb fb X' room cm (cput room cm (n, (spage PK k : Int)) (encS8 v) s).2 ∧ ∀ j, X' j → X j ∨ w.heap.size ≤ j) ∧ Fr (fun j => X j ∨ Y j) w w' := by
  have HE := hide (encode_any (some ⟨vb, 0, none⟩) 8 8 v w (Reads.blk hb (by simp [hv])) (by omega))
  rw [encS8_str] at HE
  have HL : Hid ((encS8 v).length = 64) := encS8_len hv
  have HH := hide h
  have HC := hide hc
  have HI := hide hI
  have HD := hide hd
  have HK := hide hck
  have HN := hide hnl
  have H0 := hide h0
  obtain ⟨d, hde⟩ : ∃ d, encS8 v = d := ⟨_, rfl⟩
  rw [hde] at HE HL H0
  rw [hde]
  obtain ⟨pg, hpg⟩ : ∃ pg, spage PK k = pg := ⟨_, rfl⟩
  rw [hpg] at H0 ⊢
  have HPG := hide hpg
  obtain ⟨s', hs'⟩ : ∃ s', (cput room cm (n, (pg : Int)) d s).2 = s' := ⟨_, rfl⟩
  rw [hs']
  have HS' := hide hs'
  clear h hc hI hd hck hnl hv hb h0 hde hpg hs'
  go_enter Tryz.func172, Tryz.ntmps172
  go_wp2_with fail
  go_at_call 194
  refine HE.out.mono ?_
  rintro e W1 ⟨rfl, hf1⟩
  have HF1 := hide hf1
  have HR1 := hide (HH.out.keep hf1 (fun _ _ h => h))
  have HC1 := hide (HC.out.up hf1)
  have c0 : W1.cell? ⟨sb, 0, none⟩ = some (.pointer (some ⟨cb, 0, none⟩)) := (HR1.out.blk.cell 0).trans rfl
  have c1 : W1.cell? ⟨sb, 1, none⟩ = some (.string ⟨n.toArray⟩) := (HR1.out.blk.cell 1).trans rfl
  have c6 : W1.cell? ⟨sb, 6, none⟩ = some (.map (some pb)) := (HR1.out.blk.cell 6).trans rfl
  have hlk := lookup_ok (P := Tryz.prog) key_i mapp int_zero HR1.out.pmap (k : Int)
  rw [pents_get, Nat.zero_add] at hlk
  have hln := len_ok (P := Tryz.prog) mapp HR1.out.pmap 3
  rw [pents_len] at hln
  have HCS := hide (fun W (hS : Fr X W1 W) => (⟨hS.cell c0 (fun h => HD.out _ h HR1.out.xs), hS.cell c1 (fun h => HD.out _ h HR1.out.xs)⟩ : W.cell? ⟨sb, 0, none⟩ = some (.pointer (some ⟨cb, 0, none⟩)) ∧ W.cell? ⟨sb, 1, none⟩ = some (.string ⟨n.toArray⟩)))
  have HP := hide (fun W (hS : Fr (fun _ => False) W1 W) => cput_ok (HC1.out.up hS) HI.out (n, (pg : Int)) d HK.out HN.out (by rw [HL.out]; omega))
  rw [H0.out, HS'.out] at HP
  by_cases hk : k ∈ PK
  · rw [if_pos hk] at hlk
    have hpp : PK.idxOf k = pg := by rw [← HPG.out]; unfold spage; rw [if_pos hk]
    rw [hpp] at hlk
    simp only [Option.getD_some, Option.isSome_some] at hlk
    clear hln hpp
    go_wp2_with fail
    clear hf1 c0 c1 c6 hlk hk
    refine wp_region_ord [(0, true), (1, true), (2, true), (3, true), (4, true), (5, true), (6, true), (7, true), (8, true), (9, true), (10, false), (11, true)] (fun W => W.cell? ⟨sb, 0, none⟩ = some (.pointer (some ⟨cb, 0, none⟩)) ∧ W.cell? ⟨sb, 1, none⟩ = some (.string ⟨n.toArray⟩)) (by kernel_rfl) (by kernel_rfl) (HCS.out _ (Fr.refl _ _).drew) ?_
    iterate 10
      refine ord_read rfl ?_ ?_ (fun W hS => ?_) ?_
      · rfl
      rotate_left
      · (obtain ⟨x1, x2⟩ := hS; go_simp; try with_reducible rfl)
      simp only [List.getElem_toArray, List.getElem_cons_zero, List.getElem_cons_succ, Act.put, List.setIfInBounds_toArray, List.set_cons_zero, List.set_cons_succ]
    refine ord_act rfl ?_
    go_wp2_with fail
    go_at_call 38
    refine (HP.out _ (Fr.refl _ _).drew).mono ?_
    rintro e W2 ⟨rfl, ⟨X2, at2, nx2⟩, fr2⟩
    have fr2' : Fr X W1 W2 := (Fr.refl X W1).drew.trans fr2 (fun _ h => .inl h)
    have HR2 := hide (HR1.out.keep fr2' (fun j hy hx => HD.out j hx hy))
    have HA2 := hide (And.intro at2 nx2)
    have HF2 := hide fr2'
    have HCS2 := HCS.out W2 fr2'
    have c6 : W2.cell? ⟨sb, 6, none⟩ = some (.map (some pb)) := (HR2.out.blk.cell 6).trans rfl
    have hup : (Instr.mapUpdate 91 (.map (some pb)) (.int .i64 (k : Int)) (.int .i64 (pg : Int))).run Tryz.prog W2 = .ok () (setBlock W2 pb (.map ((aput (k : Int) (.int .i64 (pg : Int)) (pents PK 0) PK.length).map (ent ikey)).toArray (aclk (k : Int) (pents PK 0) PK.length))) := update_ok (P := Tryz.prog) key_i mapp HR2.out.pmap (k : Int) (.int .i64 (pg : Int))
    clear at2 nx2 fr2 fr2'
    go_wp2
    refine midQ_ok HCS2 ?_
    iterate 1
      refine ord_read rfl ?_ ?_ (fun W hS => ?_) ?_
      · rfl
      rotate_left
      · (obtain ⟨x1, x2⟩ := hS; go_simp; try with_reducible rfl)
      simp only [List.getElem_toArray, List.getElem_cons_zero, List.getElem_cons_succ, Act.put, List.setIfInBounds_toArray, List.set_cons_zero, List.set_cons_succ]
    refine ord_done ?_
    refine NoPanic.normal ?_
    go_wp2
    go_ret
    have hpage := HR2.out.page k
    rw [HPG.out] at hpage
    have hfs := fr_setBlock W2 pb (.map ((aput (k : Int) (.int .i64 (pg : Int)) (pents PK 0) PK.length).map (ent ikey)).toArray (aclk (k : Int) (pents PK 0) PK.length))
    have hpb : ¬ X2 pb := fun hx => by
      have h1 := HR1.out.lt pb HR1.out.xp
      rcases HA2.out.2 pb hx with hx | hx
      · exact HD.out pb hx HR1.out.xp
      · simp at hx; omega
    refine ⟨rfl, hpage, ⟨X2, HA2.out.1.keep hfs (fun j hx e => hpb (by rw [← e]; exact hx)), fun j hx => ?_⟩, ((HF1.out.mono (S' := fun j => X j ∨ Y j) (fun _ h => h.elim)).trans HF2.out (fun j h => .inl (.inl h))).trans hfs (fun j hj => .inl (.inr (by rw [hj]; exact HR1.out.xp)))⟩
    have hsz := HF1.out.size
    rcases HA2.out.2 j hx with hx | hx
    · exact .inl hx
    · simp at hx; exact .inr (by omega)
  · rw [if_neg hk] at hlk
    have hpp : PK.length = pg := by rw [← HPG.out]; unfold spage; rw [if_neg hk]
    rw [hpp] at hln
    simp only [Option.getD_none, Option.isSome_none] at hlk
    clear hpp
    go_wp2_with fail
    clear hf1 c0 c1 c6 hlk hln hk
    refine wp_region_ord [(0, true), (1, true), (2, true), (3, true), (4, true), (5, true), (6, true), (7, true), (8, true), (9, true), (10, false), (11, true)] (fun W => W.cell? ⟨sb, 0, none⟩ = some (.pointer (some ⟨cb, 0, none⟩)) ∧ W.cell? ⟨sb, 1, none⟩ = some (.string ⟨n.toArray⟩)) (by kernel_rfl) (by kernel_rfl) (HCS.out _ (Fr.refl _ _).drew) ?_
    iterate 10
      refine ord_read rfl ?_ ?_ (fun W hS => ?_) ?_
      · rfl
      rotate_left
      · (obtain ⟨x1, x2⟩ := hS; go_simp; try with_reducible rfl)
      simp only [List.getElem_toArray, List.getElem_cons_zero, List.getElem_cons_succ, Act.put, List.setIfInBounds_toArray, List.set_cons_zero, List.set_cons_succ]
    refine ord_act rfl ?_
    go_wp2_with fail
    go_at_call 38
    refine (HP.out _ (Fr.refl _ _).drew).mono ?_
    rintro e W2 ⟨rfl, ⟨X2, at2, nx2⟩, fr2⟩
    have fr2' : Fr X W1 W2 := (Fr.refl X W1).drew.trans fr2 (fun _ h => .inl h)
    have HR2 := hide (HR1.out.keep fr2' (fun j hy hx => HD.out j hx hy))
    have HA2 := hide (And.intro at2 nx2)
    have HF2 := hide fr2'
    have HCS2 := HCS.out W2 fr2'
    have c6 : W2.cell? ⟨sb, 6, none⟩ = some (.map (some pb)) := (HR2.out.blk.cell 6).trans rfl
    have hup : (Instr.mapUpdate 91 (.map (some pb)) (.int .i64 (k : Int)) (.int .i64 (pg : Int))).run Tryz.prog W2 = .ok () (setBlock W2 pb (.map ((aput (k : Int) (.int .i64 (pg : Int)) (pents PK 0) PK.length).map (ent ikey)).toArray (aclk (k : Int) (pents PK 0) PK.length))) := update_ok (P := Tryz.prog) key_i mapp HR2.out.pmap (k : Int) (.int .i64 (pg : Int))
    clear at2 nx2 fr2 fr2'
    go_wp2
    refine midQ_ok HCS2 ?_
    iterate 1
      refine ord_read rfl ?_ ?_ (fun W hS => ?_) ?_
      · rfl
      rotate_left
      · (obtain ⟨x1, x2⟩ := hS; go_simp; try with_reducible rfl)
      simp only [List.getElem_toArray, List.getElem_cons_zero, List.getElem_cons_succ, Act.put, List.setIfInBounds_toArray, List.set_cons_zero, List.set_cons_succ]
    refine ord_done ?_
    refine NoPanic.normal ?_
    go_wp2
    go_ret
    have hpage := HR2.out.page k
    rw [HPG.out] at hpage
    have hfs := fr_setBlock W2 pb (.map ((aput (k : Int) (.int .i64 (pg : Int)) (pents PK 0) PK.length).map (ent ikey)).toArray (aclk (k : Int) (pents PK 0) PK.length))
    have hpb : ¬ X2 pb := fun hx => by
      have h1 := HR1.out.lt pb HR1.out.xp
      rcases HA2.out.2 pb hx with hx | hx
      · exact HD.out pb hx HR1.out.xp
      · simp at hx; omega
    refine ⟨rfl, hpage, ⟨X2, HA2.out.1.keep hfs (fun j hx e => hpb (by rw [← e]; exact hx)), fun j hx => ?_⟩, ((HF1.out.mono (S' := fun j => X j ∨ Y j) (fun _ h => h.elim)).trans HF2.out (fun j h => .inl (.inl h))).trans hfs (fun j hj => .inl (.inr (by rw [hj]; exact HR1.out.xp)))⟩
    have hsz := HF1.out.size
    rcases HA2.out.2 j hx with hx | hx
    · exact .inl hx
    · simp at hx; exact .inr (by omega)
/-- the oldest one goes -/
theorem sgoes_ok {t : SSt} {segs : Nat} (h : SRep w sb tb pb cb n N most ask Y Q t.PK clock) (ha : Q.map SF.abs = t.T) (hc : CAt w cb fb X room cm s) (ho : SOk n segs most room cm t s) (hd : ∀ j, X j → ¬ Y j) (hck : s.clk + 1 ≤ 9223372036854775806) (hnl : n.length ≤ 9223372036854775807) (hne : Q ≠ []) :
    Calls Tryz.prog 155 #[.pointer (some ⟨sb, 0, none⟩)] w fun e w' => ∃ g ∈ t.T, ∃ Q' X', e = .returned (.int .i64 0) ∧ SRep w' sb tb pb cb n N most ask Y Q' (tgone t g).PK clock ∧ Q'.map SF.abs = (tgone t g).T ∧ CAt w' cb fb X' room cm (sgone room cm n t g s) ∧ (∀ j, X' j → X j ∨ w.heap.size ≤ j) ∧ Fr (fun j => X j ∨ Y j) w w' := by
  have HO := hide (sold_ok h hne)
  have HH := hide h
  have HA := hide ha
  have HC := hide hc
  have HOK := hide ho
  have HD := hide hd
  have HK := hide hck
  have HN := hide hnl
  clear h ha hc ho hd hck hnl hne
  go_enter Tryz.func155, Tryz.ntmps155
  go_wp2_with fail
  go_at_call 171
  refine HO.out.mono ?_
  rintro e W1 ⟨⟨x, hx, rfl⟩, hf1⟩
  have HR1 := hide (HH.out.keep hf1 (fun _ _ h => h))
  have HC1 := hide (HC.out.up hf1)
  have HF1 := hide hf1
  have HX := hide hx
  have HG : Hid (x.abs ∈ t.T) := by show _; rw [← HA.out]; exact List.mem_map_of_mem hx
  have c5 : W1.cell? ⟨sb, 5, none⟩ = some (.map (some tb)) := (HR1.out.blk.cell 5).trans rfl
  have hlk := lookup_v (P := Tryz.prog) key_i mapt segp_zero HR1.out.map (x.key : Int)
  rw [HR1.out.get_some hx] at hlk
  have hlk2 : (Instr.lookup 90 (.map (some tb)) (.int .i64 (x.key : Int)) false).run Tryz.prog W1 = .ok (.pointer (some ⟨x.blk, 0, none⟩)) W1 := hlk
  clear hlk
  have x0 : W1.cell? ⟨x.blk, 0, none⟩ = some (.slice (some ⟨x.vb, 0, none⟩) 8 8) := ((HR1.out.frm x hx).1.cell 0).trans rfl
  have x1 : W1.cell? ⟨x.blk, 1, none⟩ = some (.bool x.set) := ((HR1.out.frm x hx).1.cell 1).trans rfl
  have HQE := hide (show (Q.filter fun y => decide (y.key ≠ x.key)).map SF.abs = (tgone t x.abs).T by
    show _ = twithout x.abs.key t.T
    rw [← HA.out]
    unfold twithout
    rw [List.filter_map]
    rfl)
  cases hset : x.set with
  | true =>
    rw [hset] at x1
    have hwr := HOK.out.wr HG.out
    have HWR := hide hwr
    have HW := hide (swrite_ok HR1.out HC1.out HOK.out.rest.inv HD.out HK.out HN.out (k := x.key) (vb := x.vb) (v := x.v) (HOK.out.inv.tv _ HG.out).1 (HR1.out.frm x hx).2.1 hwr.1)
    have HSE := hide (show sgone room cm n t x.abs s = (cput room cm (n, (spage t.PK x.key : Int)) (encS8 x.v) s).2 ∧ (tgone t x.abs).PK = spk t.PK x.key from by
      unfold sgone tgone
      have : x.abs.set = true := hset
      rw [if_pos this, if_pos this]
      exact ⟨rfl, rfl⟩)
    clear hf1 hx hset hwr
    go_wp2_with fail
    go_at_call 172
    refine HW.out.mono ?_
    rintro e W2 ⟨rfl, hr2, ⟨X2, at2, nx2⟩, fr2⟩
    have HR2 := hide hr2
    have HA2 := hide (And.intro at2 nx2)
    have HF2 := hide fr2
    have c5' : W2.cell? ⟨sb, 5, none⟩ = some (.map (some tb)) := (hr2.blk.cell 5).trans rfl
    have hde : ∀ ty, (Builtin.delete_ #[90, 3] ty #[.map (some tb), .int .i64 (x.key : Int)]).run Tryz.prog W2 = .ok (.tuple #[]) (setBlock W2 tb (.map ((adel (x.key : Int) (Q.map SF.ent)).map (ent ikey)).toArray clock)) := fun ty => delete_ok (P := Tryz.prog) key_i mapt hr2.map (x.key : Int) ty
    clear hr2 at2 nx2 fr2 c5 hlk2 x0 x1
    go_wp2
    go_ret
    have hfs := fr_setBlock W2 tb (.map ((adel (x.key : Int) (Q.map SF.ent)).map (ent ikey)).toArray clock)
    have htb : ¬ X2 tb := fun hx => by
      have h1 := HR1.out.lt tb HR1.out.xt
      rcases HA2.out.2 tb hx with hx | hx
      · exact HD.out tb hx HR1.out.xt
      · omega
    refine ⟨x.abs, HG.out, _, X2, rfl, by rw [HSE.out.2]; exact HR2.out.del x.key, HQE.out, ?_, fun j hx => ?_, ((HF1.out.mono (S' := fun j => X j ∨ Y j) (fun _ h => h.elim)).trans HF2.out (fun j h => .inl h)).trans hfs (fun j hj => .inl (.inr (by rw [hj]; exact HR1.out.xt)))⟩
    · rw [HSE.out.1]
      exact HA2.out.1.keep hfs (fun j hx e => htb (by rw [← e]; exact hx))
    · have hsz := HF1.out.size
      rcases HA2.out.2 j hx with hx | hx
      · exact .inl hx
      · exact .inr (by omega)
  | false =>
    rw [hset] at x1
    have HSE := hide (show sgone room cm n t x.abs s = s ∧ (tgone t x.abs).PK = t.PK from by
      unfold sgone tgone
      have : ¬ x.abs.set = true := by show ¬ x.set = true; rw [hset]; decide
      rw [if_neg this, if_neg this]
      exact ⟨rfl, rfl⟩)
    have hde : ∀ ty, (Builtin.delete_ #[90, 3] ty #[.map (some tb), .int .i64 (x.key : Int)]).run Tryz.prog W1 = .ok (.tuple #[]) (setBlock W1 tb (.map ((adel (x.key : Int) (Q.map SF.ent)).map (ent ikey)).toArray clock)) := fun ty => delete_ok (P := Tryz.prog) key_i mapt HR1.out.map (x.key : Int) ty
    clear hf1 hx hset
    go_wp2
    go_ret
    have hfs := fr_setBlock W1 tb (.map ((adel (x.key : Int) (Q.map SF.ent)).map (ent ikey)).toArray clock)
    refine ⟨x.abs, HG.out, _, X, rfl, by rw [HSE.out.2]; exact HR1.out.del x.key, HQE.out, ?_, fun j hx => .inl hx, (HF1.out.mono (S' := fun j => X j ∨ Y j) (fun _ h => h.elim)).trans hfs (fun j hj => .inl (.inr (by rw [hj]; exact HR1.out.xt)))⟩
    rw [HSE.out.1]
    exact HC1.out.keep hfs (fun j hx e => HD.out j hx (by rw [e]; exact HR1.out.xt))
end
end Go.Proofs.YtkhbemmcegmdaaaGreatDoor
end
section
set_option linter.all false
set_option linter.unusedVariables false
set_option maxRecDepth 100000
namespace Go.Proofs.YtkhbemmcegmdaaaGreatDoor
open Go.RowKit
open Go.ChangeMaps (setBlock)

section
variable {w w' w1 : World} {sb tb pb cb fb clock N most cm : Nat} {X Y S : Nat → Prop} {room ask : Int} {n : Name} {Q : List SF} {PK : List Nat} {s : CSt}
theorem cunpin_d {most : Nat} (u : FrameMode) (h : CAt w cb fb X room most s) (hI : CInv room most s) (k : CKey) (hc : s.clk ≤ 9223372036854775806) : CallsD Tryz.prog 40 #[.pointer (some ⟨cb, 0, none⟩), .string ⟨k.1.toArray⟩, .int .i64 k.2] u w fun e u' w' => u' = u ∧ (e = .returned (.int .i64 (cunpin k s).1) ∧ CAt w' cb fb X room most (cunpin k s).2 ∧ Fr X w w') := by
  have HN := hide (cnone_ok h)
  obtain ⟨tb, X1, XF, ME, Q, clock, h⟩ := h.q
  have c2 : w.cell? ⟨cb, 2, none⟩ = some (.map (some tb)) := (h.rep.blk.cell 2).trans rfl
  have hlk := lookup_ok (P := Tryz.prog) key_ck mapc framep_zero h.rep.map k
  rcases key_cases Q k with ⟨x, hx, rfl⟩ | hno
  · have hg : lget x.key s.L = some x.abs := by rw [← h.abs, abs_find, find_key h.rep.nd hx]; rfl
    rw [h.rep.get_some hx] at hlk
    have hlk2 : (Instr.lookup 59 (.map (some tb)) (.agg #[.string ⟨x.key.1.toArray⟩, .int .i64 x.key.2]) true).run Tryz.prog w = .ok (.tuple #[.pointer (some ⟨x.blk, 0, none⟩), .bool true]) w := hlk
    have hfx := h.rep.frm x hx
    have d1 : w.cell? ⟨x.blk, 1, none⟩ = some (.int .i64 (x.pins : Int)) := (hfx.1.cell 1).trans rfl
    have f1 : w.frozen? ⟨x.blk, 1, none⟩ = false := hfx.1.frozen 1
    have HP : Hid (x.pins ≤ s.clk) := hI.pin x.abs (by rw [← h.abs]; exact List.mem_map_of_mem hx)
    by_cases hz : x.pins = 0
    · have b0 : ((x.pins : Int) == 0) = true := by rw [hz]; rfl
      have HR : Hid (cunpin x.key s = (4, s)) := by
        show cunpin x.key s = _
        unfold cunpin
        rw [hg]
        simp only
        rw [if_pos (show x.abs.pins = 0 from hz)]
      have HA := hide h.at
      clear h hlk hfx hz hg hx
      go_enter_d Tryz.func40, Tryz.ntmps40
      go_wp2_with fail
      go_at_call 61
      refine HN.out.mono ?_
      rintro e w1 ⟨rfl, rfl⟩
      go_wp2
      go_ret
      rw [HR.out]
      exact ⟨rfl, HA.out, Fr.refl _ _⟩
    · have b0 : ((x.pins : Int) == 0) = false := by simp; omega
      have HR : Hid (cunpin x.key s = (0, { s with L := lmap x.key (fun x => { x with pins := x.pins - 1 }) s.L })) := by
        show cunpin x.key s = _
        unfold cunpin
        rw [hg]
        simp only
        rw [if_neg (show ¬ x.abs.pins = 0 from hz)]
      have hq6 := h.turn hx { x with pins := x.pins - 1 } 1 (.int .i64 ((x.pins : Int) - 1)) rfl rfl rfl rfl (by unfold CF.cells; simp; omega) (fun y => { y with pins := y.pins - 1 }) rfl
      have HA := hide (And.intro hq6.at (show Fr X w _ from (Fr.refl X w).setCell (p := ⟨x.blk, 1, none⟩) (.inl (h.x1 _ hfx.2.1)) (.int .i64 ((x.pins : Int) - 1))))
      have hw1 : IntKind.i64.wrap ((x.pins : Int) - 1) = (x.pins : Int) - 1 := by have := HP.out; simp only [IntKind.wrap, IntKind.bits, IntKind.signed]; simp; omega
      clear h hlk hfx hz hg hx hq6 HP
      go_enter_d Tryz.func40, Tryz.ntmps40
      go_wp2_with fail
      go_at_call 61
      refine HN.out.mono ?_
      rintro e w1 ⟨rfl, rfl⟩
      go_wp2
      go_ret
      rw [HR.out]
      exact ⟨rfl, HA.out.1, HA.out.2⟩
  · have hg : lget k s.L = none := by rw [← h.abs, abs_find, List.find?_eq_none.2 (by simpa using hno)]; rfl
    rw [h.rep.get_none hno] at hlk
    have hlk2 : (Instr.lookup 59 (.map (some tb)) (.agg #[.string ⟨k.1.toArray⟩, .int .i64 k.2]) true).run Tryz.prog w = .ok (.tuple #[.pointer none, .bool false]) w := hlk
    have HR : Hid (cunpin k s = (4, s)) := by
      show cunpin k s = _
      unfold cunpin
      rw [hg]
    have HA := hide h.at
    clear h hlk hg hno
    go_enter_d Tryz.func40, Tryz.ntmps40
    go_wp2_with fail
    go_at_call 61
    refine HN.out.mono ?_
    rintro e w1 ⟨rfl, rfl⟩
    go_wp2
    go_ret
    rw [HR.out]
    exact ⟨rfl, HA.out, Fr.refl _ _⟩
theorem sread_ok {t : SSt} {segs : Nat} (h : SRep w sb tb pb cb n N most ask Y Q t.PK clock) (hc : CAt w cb fb X room cm s) (ho : SOk n segs most room cm t s) (hd : ∀ j, X j → ¬ Y j) (hck : s.clk + 1 ≤ 9223372036854775806) (k : Nat) :
    Calls Tryz.prog 156 #[.pointer (some ⟨sb, 0, none⟩), .int .i64 (k : Int)] w fun e w' =>
      (∃ g X', e = .returned (.tuple #[.slice (some ⟨g, 0, none⟩) 8 8, .int .i64 0]) ∧ w.heap.size ≤ g ∧ Blk w' g 78 ((sbase s.F n t.PK k).map u64v).toArray ∧ CAt w' cb fb X' room cm (srd cm n t.PK k s) ∧ (k ∈ t.PK → (cfind cm (n, (t.PK.idxOf k : Int)) s).1 = 0) ∧ (∀ j, X' j → X j ∨ w.heap.size ≤ j) ∧ ¬ X' g ∧ Fr X w w') ∨
      (∃ X', e = .returned (.tuple #[.slice none 0 0, .int .i64 60]) ∧ s.left = 0 ∧ CAt w' cb fb X' room cm { s with left := -1 } ∧ (∀ j, X' j → X j ∨ w.heap.size ≤ j) ∧ Fr X w w') := by
  have c0 : w.cell? ⟨sb, 0, none⟩ = some (.pointer (some ⟨cb, 0, none⟩)) := (h.blk.cell 0).trans rfl
  have c1 : w.cell? ⟨sb, 1, none⟩ = some (.string ⟨n.toArray⟩) := (h.blk.cell 1).trans rfl
  have c6 : w.cell? ⟨sb, 6, none⟩ = some (.map (some pb)) := (h.blk.cell 6).trans rfl
  have hlk := lookup_ok (P := Tryz.prog) key_i mapp int_zero h.pmap (k : Int)
  rw [pents_get, Nat.zero_add] at hlk
  have HH := hide h
  have HC := hide hc
  have HO := hide ho
  have HD := hide hd
  have HK := hide hck
  by_cases hk : k ∈ t.PK
  · rw [if_pos hk] at hlk
    simp only [Option.getD_some, Option.isSome_some] at hlk
    obtain ⟨pg1, pg2, pg3⟩ := ho.page hk
    have HPG := hide pg3
    have HKM := hide hk
    have HSB : Hid (sbase s.F n t.PK k = decs (datB ((fpg n s.F).getD (t.PK.idxOf k) []))) := by show _ = _; unfold sbase cont; rw [if_pos hk]
    have HSR : Hid (srd cm n t.PK k s = (cunpin (n, (t.PK.idxOf k : Int)) (cpin cm (n, (t.PK.idxOf k : Int)) s).2.2).2) := by show _ = _; unfold srd; rw [if_pos hk]
    obtain ⟨pg, hpg⟩ : ∃ pg, t.PK.idxOf k = pg := ⟨_, rfl⟩
    rw [hpg] at hlk HPG HSB HSR pg1 pg2 ⊢
    have HCS := hide (fun W (hS : Fr X w W) => (⟨hS.cell c0 (fun h => HD.out _ h HH.out.xs), hS.cell c1 (fun h => HD.out _ h HH.out.xs)⟩ : W.cell? ⟨sb, 0, none⟩ = some (.pointer (some ⟨cb, 0, none⟩)) ∧ W.cell? ⟨sb, 1, none⟩ = some (.string ⟨n.toArray⟩)))
    have HP := hide (fun W (hS : Fr (fun _ => False) w W) => cpin_ok (HC.out.up hS) ho.rest.inv (n, (pg : Int)) hck)
    have HF := ho.rest.find ho.c1 (n, (pg : Int)) pg1 (by simpa using pg2)
    rcases HF with h0 | ⟨h0, hl0, hs0⟩
    · have hr0 := ho.rest.read0 ho.c1 (n, (pg : Int)) h0
      simp only [Int.toNat_natCast] at hr0
      have HR0 := hide hr0
      have H0 := hide h0
      have HPI := hide (ho.rest.inv.pinned ho.c1 (n, (pg : Int)))
      have HCK := hide (cpin_clk cm (n, (pg : Int)) s ho.rest.inv.nd)
      rw [hr0.1, hr0.2.1] at HP
      obtain ⟨s2, hs2⟩ : ∃ s2, (cpin cm (n, (pg : Int)) s).2.2 = s2 := ⟨_, rfl⟩
      rw [hs2] at HP HPI HCK HSR
      obtain ⟨dt, hdt⟩ : ∃ dt, datB ((fpg n s.F).getD pg []) = dt := ⟨_, rfl⟩
      rw [hdt] at HP HPG HSB
      clear h hc ho hd hck hk hpg pg1 pg2 pg3 h0 hr0 hs2 hdt
      go_enter_defers Tryz.func156, Tryz.ntmps156
      go_wp2_with fail
      refine wp_region_ord [(0, true), (1, true), (2, true), (3, true), (4, true), (5, true), (6, true), (7, true), (8, true), (9, false), (10, true), (11, true), (12, true), (13, true), (14, true)] (fun W => W.cell? ⟨sb, 0, none⟩ = some (.pointer (some ⟨cb, 0, none⟩)) ∧ W.cell? ⟨sb, 1, none⟩ = some (.string ⟨n.toArray⟩)) (by kernel_rfl) (by kernel_rfl) (HCS.out _ (Fr.refl _ _).drew) ?_
      iterate 9
        refine ord_read rfl ?_ ?_ (fun W hS => ?_) ?_
        · rfl
        rotate_left
        · (obtain ⟨x1, x2⟩ := hS; go_simp; try with_reducible rfl)
        simp only [List.getElem_toArray, List.getElem_cons_zero, List.getElem_cons_succ, Act.put, List.setIfInBounds_toArray, List.set_cons_zero, List.set_cons_succ]
      refine ord_act rfl ?_
      go_wp2_with fail
      go_at_call 39
      refine (HP.out _ (Fr.refl _ _).drew).mono ?_
      rintro e W2 ⟨rfl, ⟨X2, at2, nx2⟩, fr2⟩
      have fr2' : Fr X w W2 := (Fr.refl X w).drew.trans fr2 (fun _ h => .inl h)
      have HA2 := hide (And.intro at2 nx2)
      have HF2 := hide fr2'
      have HCS2 := HCS.out W2 fr2'
      have hx2 : ¬ X2 sb := fun hx => by
        have h1 := HH.out.lt sb HH.out.xs
        rcases nx2 sb hx with hx | hx
        · exact HD.out sb hx HH.out.xs
        · simp at hx; omega
      have HCT := hide (fun W (hS : Fr X2 W2 W) => (⟨hS.cell HCS2.1 hx2, hS.cell HCS2.2 hx2⟩ : W.cell? ⟨sb, 0, none⟩ = some (.pointer (some ⟨cb, 0, none⟩)) ∧ W.cell? ⟨sb, 1, none⟩ = some (.string ⟨n.toArray⟩)))
      have HDE := hide (fun W => decode_any ⟨dt.toArray⟩ W (by have := HPG.out; simpa [ByteArray.size] using this))
      clear at2 nx2 fr2 fr2' hx2
      go_wp2
      refine midQ_ok HCS2 ?_
      clear HCS2
      iterate 5
        refine ord_read rfl ?_ ?_ (fun W hS => ?_) ?_
        · rfl
        rotate_left
        · (obtain ⟨x1, x2⟩ := hS; go_simp; try with_reducible rfl)
        simp only [List.getElem_toArray, List.getElem_cons_zero, List.getElem_cons_succ, Act.put, List.setIfInBounds_toArray, List.set_cons_zero, List.set_cons_succ]
      refine ord_done ?_
      refine NoPanic.normal ?_
      go_wp2_with fail
      refine wp_region_ord [(0, true), (1, true), (2, true), (3, true), (4, true), (5, true), (6, true), (7, true), (8, true), (9, false)] (fun W => W.cell? ⟨sb, 0, none⟩ = some (.pointer (some ⟨cb, 0, none⟩)) ∧ W.cell? ⟨sb, 1, none⟩ = some (.string ⟨n.toArray⟩)) (by kernel_rfl) (by kernel_rfl) (HCT.out _ (Fr.refl _ _).drew) ?_
      iterate 9
        refine ord_read rfl ?_ ?_ (fun W hS => ?_) ?_
        · rfl
        rotate_left
        · (obtain ⟨x1, x2⟩ := hS; go_simp; try with_reducible rfl)
        simp only [List.getElem_toArray, List.getElem_cons_zero, List.getElem_cons_succ, Act.put, List.setIfInBounds_toArray, List.set_cons_zero, List.set_cons_succ]
      refine ord_act rfl ?_
      have HCT2 := HCT.out _ (Fr.refl X2 W2).drew
      go_wp2
      refine midQ_ok HCT2 ?_
      clear HCT2
      refine ord_done ?_
      refine NoPanic.normal ?_
      go_wp2_with fail
      go_at_call 173
      refine (HDE.out _).mono ?_
      rintro e W3 ⟨g, rfl, hg, hb3, hf3⟩
      have HF3 := hide ((Fr.refl (fun _ => False) W2).drew.then_ hf3)
      have HB3 := hide hb3
      have HG3 := hide hg
      have HA3 := hide (HA2.out.1.up HF3.out)
      clear hg hb3 hf3
      go_wp2
      refine leaves_cons (f := 40) (args := #[.pointer (some ⟨cb, 0, none⟩), .string ⟨n.toArray⟩, .int .i64 (pg : Int)]) (by simp) (by simp [go_sem]) ?_
      refine (cunpin_d .returning HA3.out HPI.out (n, (pg : Int)) (by have := HCK.out; have := HK.out; omega)).mono ?_
      rintro e u' W4 ⟨rfl, rfl, at4, fr4⟩
      have hng : ¬ X2 g := fun hx => by have h1 := HA2.out.1.lt g hx; have h2 : W2.heap.size ≤ g := HG3.out; omega
      refine ⟨.tuple #[.slice (some ⟨g, 0, none⟩) 8 8, .int .i64 0], by simp [results, Tryz.results156], .inl ⟨g, X2, rfl, ?_, ?_, ?_, fun _ => H0.out, fun j hj => ?_, hng, ?_⟩⟩
      · have h1 : W2.heap.size ≤ g := HG3.out; have := HF2.out.size; omega
      · rw [HSB.out]
        exact HB3.out.fr fr4 hng
      · rw [HSR.out]; exact at4
      · have := HA2.out.2 j hj; simpa using this
      · refine (HF2.out.then_ HF3.out).trans fr4 (fun j hj => ?_)
        have := HA2.out.2 j hj; simpa using this
    · have HP2 : cpin cm (n, (pg : Int)) s = ([], 60, { s with left := -1 }) := by
        unfold cpin
        rw [if_neg (by rw [h0]; decide), h0, hs0]
      rw [HP2] at HP
      have HL0 := hide hl0
      clear h hc ho hd hck hk hpg pg1 pg2 pg3 h0 hl0 hs0 HP2
      go_enter_defers Tryz.func156, Tryz.ntmps156
      go_wp2_with fail
      refine wp_region_ord [(0, true), (1, true), (2, true), (3, true), (4, true), (5, true), (6, true), (7, true), (8, true), (9, false), (10, true), (11, true), (12, true), (13, true), (14, true)] (fun W => W.cell? ⟨sb, 0, none⟩ = some (.pointer (some ⟨cb, 0, none⟩)) ∧ W.cell? ⟨sb, 1, none⟩ = some (.string ⟨n.toArray⟩)) (by kernel_rfl) (by kernel_rfl) (HCS.out _ (Fr.refl _ _).drew) ?_
      iterate 9
        refine ord_read rfl ?_ ?_ (fun W hS => ?_) ?_
        · rfl
        rotate_left
        · (obtain ⟨x1, x2⟩ := hS; go_simp; try with_reducible rfl)
        simp only [List.getElem_toArray, List.getElem_cons_zero, List.getElem_cons_succ, Act.put, List.setIfInBounds_toArray, List.set_cons_zero, List.set_cons_succ]
      refine ord_act rfl ?_
      go_wp2_with fail
      go_at_call 39
      refine (HP.out _ (Fr.refl _ _).drew).mono ?_
      rintro e W2 ⟨rfl, ⟨X2, at2, nx2⟩, fr2⟩
      have fr2' : Fr X w W2 := (Fr.refl X w).drew.trans fr2 (fun _ h => .inl h)
      have HA2 := hide (And.intro at2 nx2)
      have HF2 := hide fr2'
      have HCS2 := HCS.out W2 fr2'
      clear at2 nx2 fr2 fr2'
      go_wp2
      refine midQ_ok HCS2 ?_
      clear HCS2
      iterate 5
        refine ord_read rfl ?_ ?_ (fun W hS => ?_) ?_
        · rfl
        rotate_left
        · (obtain ⟨x1, x2⟩ := hS; go_simp; try with_reducible rfl)
        simp only [List.getElem_toArray, List.getElem_cons_zero, List.getElem_cons_succ, Act.put, List.setIfInBounds_toArray, List.set_cons_zero, List.set_cons_succ]
      refine ord_done ?_
      refine NoPanic.normal ?_
      go_wp2
      refine ⟨.tuple #[.slice none 0 0, .int .i64 60], by simp [results, Tryz.results156], .inr ⟨X2, rfl, HL0.out, HA2.out.1, fun j hj => ?_, HF2.out⟩⟩
      have := HA2.out.2 j hj; simpa using this
  · rw [if_neg hk] at hlk
    simp only [Option.getD_none, Option.isSome_none] at hlk
    have HKM := hide hk
    have HSB : Hid (sbase s.F n t.PK k = zeros8) := by show _ = _; unfold sbase; rw [if_neg hk]
    have HSR : Hid (srd cm n t.PK k s = s) := by show _ = _; unfold srd; rw [if_neg hk]
    have hmk : ∀ w, (Instr.makeSlice 152 (.int .i64 8) (.int .i64 8)).run Tryz.prog w = .ok (.slice (some ⟨w.heap.size, 0, none⟩) 8 8) (w.alloc (.cells (madeCells #[.int .u64 0] 8) 78)) := fun _ => by kernel_rfl
    clear h hc ho hd hck hk c0 c1
    go_enter_defers Tryz.func156, Tryz.ntmps156
    go_wp2
    refine ⟨.tuple #[.slice (some ⟨w.heap.size, 0, none⟩) 8 8, .int .i64 0], by simp [results, Tryz.results156], .inl ⟨w.heap.size, X, rfl, Nat.le_refl _, ?_, ?_, fun h => absurd h HKM.out, fun j hj => .inl hj, fun hx => ?_, (Fr.refl _ _).alloc _⟩⟩
    · have e : madeCells #[.int .u64 0] 8 = (zeros8.map u64v).toArray := by rw [madeCells_one]; rfl
      rw [HSB.out, ← e]
      exact Blk.new w 78 _
    · rw [HSR.out]
      exact HC.out.up ((Fr.refl _ _).alloc _)
    · have := HC.out.lt _ hx; omega
end
end Go.Proofs.YtkhbemmcegmdaaaGreatDoor
end
