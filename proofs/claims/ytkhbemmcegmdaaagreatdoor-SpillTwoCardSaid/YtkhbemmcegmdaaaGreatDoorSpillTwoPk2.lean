/- Parts of the proof of SpillTwo: no conditions of their own. -/
import Derived.Test.YtkhbemmcegmdaaaGreatDoorSpillTwoPk1
import Derived.Test.YtkhbemmcegmdaaaGreatDoorWhPk18
import Derived.Test.YtkhbemmcegmdaaaGreatDoorWhPk2
section
set_option linter.all false
set_option linter.unusedVariables false
set_option maxRecDepth 100000
namespace Go.Proofs.YtkhbemmcegmdaaaGreatDoor
open Go.RowKit

theorem SLaw.moreP {W W' : World} {Z : Nat → Prop} {sb cb fb N most cm segs K : Nat} {room : Int} {n : Name} {t : SSt} {s : CSt} (h : SLaw Z W sb cb fb n N most segs room cm K t s) (hf : Fr (fun _ => False) W W') (Q : Nat → Prop) (hq : ∀ j, Q j → W.heap.size ≤ j ∧ j < W'.heap.size) : SLaw (fun j => Z j ∨ Q j) W' sb cb fb n N most segs room cm K t s := by
  have h2 := h.up hf
  obtain ⟨tb, pb, ask, X, Y, L, clock, hm, hx, hy, hr⟩ := h.mem
  refine ⟨⟨tb, pb, ask, X, Y, L, clock, hm.up hf, fun j hj h => ?_, fun j hj h => ?_, hr⟩, h2.ok, h2.clk, fun j hj => ?_⟩
  · rcases h with h | h
    · exact hx j hj h
    · have := hm.cat.lt j hj; have := (hq j h).1; omega
  · rcases h with h | h
    · exact hy j hj h
    · have := hm.rep.lt j hj; have := (hq j h).1; omega
  · rcases hj with hj | hj
    · exact h2.zlt j hj
    · exact (hq j hj).2
theorem cnt_segs (N : Nat) : cnt (N : Int) = (((N + 7) / 8 : Nat) : Int) := by
  unfold cnt
  split
  · have : N = 0 := by omega
    subst this
    rfl
  · omega
theorem res_le {n : Name} {segs most : Nat} {room : Int} {cm : Nat} {t : SSt} {s : CSt} (h : SOk n segs most room cm t s) : t.T.length ≤ most ∧ t.T.length ≤ segs := by
  refine ⟨h.inv.tle, ?_⟩
  have := keys_lt h.inv.tnd (fun k hk => by
    obtain ⟨g, hg, rfl⟩ := List.mem_map.1 hk
    exact h.inv.tlt g hg)
  simpa using this
theorem pins_zero {room : Int} {cm : Nat} {s : CSt} (h : CRest room cm s) : pinned s.L = 0 := by
  unfold pinned
  rw [List.filter_eq_nil_iff.2 (fun x hx => by have := h.pins x hx; simp; omega)]
  rfl
theorem min_false {a b c : Nat} (h : a ≤ b) (h2 : a ≤ c) : decide ((a : Int) > min (b : Int) (c : Int)) = false ∧ decide (min (b : Int) (c : Int) < (a : Int)) = false ∧ ¬ (min (b : Int) (c : Int) < (a : Int)) ∧ ¬ ((a : Int) > (b : Int)) ∧ ¬ ((a : Int) > (c : Int)) ∧ ¬ ((b : Int) < (a : Int)) ∧ ¬ ((c : Int) < (a : Int)) := by
  refine ⟨by simp; omega, by simp; omega, by omega, by omega, by omega, by omega, by omega⟩
structure PlainNums (yn ym : Int) (N q most : Nat) : Prop where
  n2 : N ≤ 256
  o1 : 1 ≤ most
  o2 : most ≤ 40
  a0 : (IntKind.u64.wrap yn).tmod 257 = (N : Int)
  a4 : wrap64 (N : Int) = (N : Int)
  a5 : IntKind.i64.wrap (N : Int) = (N : Int)
  b0 : (IntKind.u64.wrap ym).tmod 40 = (q : Int)
  b1 : wrap64 (q : Int) = (q : Int)
  b2 : IntKind.i64.wrap (q : Int) = (q : Int)
  b3 : 1 + (q : Int) = (most : Int)
  b4 : wrap64 (most : Int) = (most : Int)
  b5 : IntKind.i64.wrap (most : Int) = (most : Int)
theorem of_u64k (y : Int) (k : Nat) (hk : 0 < k) : ∃ m : Nat, m < k ∧ (IntKind.u64.wrap y).tmod (k : Int) = (m : Int) := by
  have h0 : 0 ≤ IntKind.u64.wrap y := by rw [IntKind.wrap_u64]; omega
  refine ⟨((IntKind.u64.wrap y) % (k : Int)).toNat, ?_, ?_⟩
  · have h1 := Int.emod_lt_of_pos (IntKind.u64.wrap y) (show (0 : Int) < (k : Int) by omega)
    omega
  · rw [Int.tmod_eq_emod_of_nonneg h0, Int.toNat_of_nonneg (Int.emod_nonneg _ (by omega))]
theorem small257 {r : Nat} (h : r ≤ 256) : wrap64 (r : Int) = (r : Int) ∧ IntKind.i64.wrap (r : Int) = (r : Int) := ⟨by unfold wrap64; omega, i64_same (by omega) (by omega)⟩
theorem plain_nums (yn ym : Int) : ∃ N q most : Nat, PlainNums yn ym N q most := by
  obtain ⟨N, hN, hN0⟩ := of_u64k yn 257 (by decide)
  obtain ⟨q, hq, hq0⟩ := of_u64k ym 40 (by decide)
  have e1 : N ≤ 256 := by omega
  have e2 : 1 ≤ 1 + q ∧ 1 + q ≤ 40 := by omega
  have e3 : q < 256 := by omega
  have B := add1_small q e3
  exact ⟨N, q, 1 + q, ⟨e1, e2.1, e2.2, hN0, (small257 e1).1, (small257 e1).2, hq0, (small_ok e3).1, (small_ok e3).2, B.1, B.2.1, B.2.2⟩⟩
theorem step_smallp (k n : Nat) (h : k < n) (h2 : n ≤ 1000) : wrap64 ((k : Int) + 1) = (k : Int) + 1 ∧ IntKind.i64.wrap ((k : Int) + 1) = (k : Int) + 1 := ⟨by unfold wrap64; omega, i64_same (by omega) (by omega)⟩
theorem step_boundp (k n : Nat) (h : k < n) (h2 : n ≤ 150) : 256 * k + 256 ≤ 1000000 := by omega
theorem step_boundq (k n N : Nat) (h : k < N) (h3 : N ≤ 256) (h2 : n ≤ 150) : 256 * n + k ≤ 1000000 := by omega
theorem tot_step {n : Name} {t t' : SSt} {s s' : CSt} (h : SStay n t s t' s') (h2 : total s.F = t.PK.length) : total s'.F = t'.PK.length := by
  have := h.tot
  omega
set_option maxHeartbeats 3200000 in
theorem law_plain (nm : List UInt8) (yn ym : Int) (z0 z1 : Nat) (hz1 : z1 < 256) (A : Option Addr) (n c : Nat) (l : List SAct) (w : World) (ha : SActsR w w.heap.size A n l) (hn : n ≤ 9223372036854775807) :
    Calls Tryz.prog 13 #[.agg #[.string ⟨nm.toArray⟩, .int .i64 yn, .int .i64 ym, .int .u8 (z0 : Int), .int .u8 (z1 : Int)], .slice A n c] w fun e w' => e = .returned (.bool true) ∧ Fr (fun _ => False) w w' := by
  obtain ⟨W1, hW1⟩ : ∃ W1, W1 = w.alloc (.cells #[.string ⟨nm.toArray⟩, .int .i64 yn, .int .i64 ym, .int .u8 (z0 : Int), .int .u8 (z1 : Int)] 85) := ⟨_, rfl⟩
  have hf1 : Fr (fun _ => False) w W1 := by rw [hW1]; exact (Fr.refl _ _).alloc _
  have HF1 := hide hf1
  have HB1 : Hid (Blk W1 w.heap.size 85 #[.string ⟨nm.toArray⟩, .int .i64 yn, .int .i64 ym, .int .u8 (z0 : Int), .int .u8 (z1 : Int)]) := by rw [hW1]; exact Blk.new w 85 _
  have HA1 := hide (ha.fr hf1 (Nat.le_refl _) (fun _ h => h.elim))
  have HG := hide (sgreat_ok HA1.out HF1.out.size 150 c (by decide) hn)
  have HW1 := hide hW1
  obtain ⟨N, q, most, hnum⟩ := plain_nums yn ym
  have HNU := hide hnum
  have HSP : Hid (SPar N most ((N + 7) / 8)) := spar_of hnum.n2 hnum.o1 (Nat.le_trans hnum.o2 (by decide))
  have HRM := hide (segs_room hnum.n2)
  have s1 : W1.cell? ⟨w.heap.size, 1, none⟩ = some (.int .i64 yn) := (HB1.out.cell 1).trans rfl
  have s2 : W1.cell? ⟨w.heap.size, 2, none⟩ = some (.int .i64 ym) := (HB1.out.cell 2).trans rfl
  have s4 : W1.cell? ⟨w.heap.size, 4, none⟩ = some (.int .u8 (z1 : Int)) := (HB1.out.cell 4).trans rfl
  have HSC := hide (fun W (hS : Fr (fun _ => False) W1 W) => (⟨hS.cell s1 id, hS.cell s2 id, hS.cell s4 id⟩ : W.cell? ⟨w.heap.size, 1, none⟩ = some (.int .i64 yn) ∧ W.cell? ⟨w.heap.size, 2, none⟩ = some (.int .i64 ym) ∧ W.cell? ⟨w.heap.size, 4, none⟩ = some (.int .u8 (z1 : Int))))
  have HZ1 := hide hz1
  obtain ⟨_, _, _, a0, a4, a5, b0, b1, b2, b3, b4, b5⟩ := hnum
  clear ha hf1 hW1 hz1 s1 s2 s4
  go_enter Tryz.func13, Tryz.ntmps13
  go_wp2_with fail
  rw [← HW1.out]
  go_wp2_with fail
  go_at_call 46
  refine HG.out.mono ?_
  rintro e W2 ⟨hg, hf2⟩
  have HF2 := hide (HF1.out.then_ hf2)
  have HL2 := hide (HA1.out.fr hf2 HF1.out.size (fun _ h => h.elim))
  have HF12 := hide hf2
  clear hf2
  rcases hg with rfl | ⟨rfl, hn150⟩
  · go_wp2
    go_ret
    exact ⟨rfl, HF2.out⟩
  · have HN150 := hide hn150
    clear hn150
    go_wp2_with fail
    refine wp_region_reads (fun W => Fr (fun _ => False) W2 W) (by kernel_rfl) (by kernel_rfl) (Fr.refl _ _).drew ?_
    iterate 13
      refine readsY_cons ?_ ?_ (fun W hS => ?_) ?_
      · rfl
      rotate_left
      · (obtain ⟨x1, x2, x3⟩ := HSC.out W (HF12.out.then_ hS); go_simp; try with_reducible rfl)
      simp only [List.getElem_toArray, List.getElem_cons_zero, List.getElem_cons_succ, Act.put, List.setIfInBounds_toArray, List.set_cons_zero, List.set_cons_succ, a0, a4, a5, b0, b1, b2, b3, b4, b5]
    simp only [wpReadsY]
    refine NoPanic.normal ?_
    obtain ⟨V2, hV2⟩ : ∃ V2, V2 = W2.drew := ⟨_, rfl⟩
    rw [← hV2]
    have HFV := hide (show Fr (fun _ => False) W2 V2 by rw [hV2]; exact (Fr.refl _ _).drew)
    obtain ⟨_, _, s4⟩ := HSC.out V2 (HF12.out.then_ HFV.out)
    have HMD := hide (made_ok z1 HZ1.out V2)
    clear hV2
    go_wp2_with fail
    go_at_call 16
    refine HMD.out.mono ?_
    rintro e W3 ⟨cb, fb, X1, rfl, at1, nx1, _, fr1⟩
    have HSN := hide (SLaw.new (K := 0) (room := 60) (segs := (N + 7) / 8) (Z := fun j => j < V2.heap.size) at1 (rest_new 60 (by decide) (by decide) _) (fun j hj => Nat.lt_of_lt_of_le hj fr1.size) (fun j hj hz => absurd hz (Nat.not_lt.2 (nx1 j hj))) [118] name_v N most HSP.out rfl HRM.out (made_big1 z1) (by simp))
    have HF3 := hide fr1
    clear at1 nx1 fr1 HMD s4
    go_wp2_with fail
    go_at_call 41
    refine HSN.out.mono ?_
    rintro e W4 ⟨sb, rfl, hl4, hf4⟩
    have HL4 := hide hl4
    have HF4 := hide (HF3.out.then_ hf4)
    have HVN := hide (new_ok N W4 HNU.out.n2)
    clear hl4 hf4 HSN
    go_wp2_with fail
    go_at_call 51
    refine HVN.out.mono ?_
    rintro e W5 ⟨p, g, rfl, hp5, hg5, hpl5, hf5⟩
    have HL5 := hide (HL4.out.moreP hf5 (fun j => j = p ∨ j = g) (fun j hj => by
      rcases hj with rfl | rfl
      · exact ⟨hp5, hpl5.head.lt⟩
      · exact ⟨hg5, hpl5.row.lt⟩))
    have HPL5 := hide hpl5
    have HF5 := hide ((HF4.out.then_ hf5).mono (S' := fun j => ¬ j < V2.heap.size) (fun _ h => h.elim))
    have HGP := hide (show ¬ g < V2.heap.size from Nat.not_lt.2 (Nat.le_trans HF4.out.size hg5))
    have HCO := hide (fun W => count_any (N : Int) W (Int.le_trans (by decide) (Int.natCast_nonneg _)) (Int.ofNat_le.2 (Nat.le_trans HNU.out.n2 (by decide))))
    rw [cnt_segs] at HCO
    clear hp5 hg5 hpl5 hf5 a0 a4 a5 b0 b1 b2 b3 b4 b5
    go_wp2
    go_loopw [12] (fun i wr => ∃ (k : Nat) (t : SSt) (s : CSt) (xs : List Nat), i = .int .i64 (k : Int) ∧ k ≤ n ∧ SLaw (fun j => j < V2.heap.size ∨ (j = p ∨ j = g)) wr sb cb fb [118] N most ((N + 7) / 8) 60 (1 + z1 % 9) (256 * k) t s ∧ s.left = -1 ∧ xs.length = N ∧ VRep s.F [118] t xs ∧ PlainAt wr p g xs ∧ total s.F = t.PK.length ∧ Fr (fun j => ¬ j < V2.heap.size) V2 wr) (fun i _ => n - (intOf i).toNat)
    case atStart => exact ⟨0, ⟨[], []⟩, _, List.replicate N 0, rfl, Nat.zero_le _, HL5.out, rfl, by simp, vrep_new _ _ _, HPL5.out, rfl, HF5.out⟩
    case round =>
      obtain ⟨k, t, s, xs, rfl, hk, hlaw, hlf, hxs, hv, hpa, htot, hfr⟩ := hrel
      have HFR := hide hfr
      have HSA := hide ((HL2.out.fr HFV.out HF2.out.size (fun _ h => h.elim)).fr hfr (Nat.le_trans HF2.out.size HFV.out.size) (fun j hj => Nat.le_trans (Nat.le_trans HF2.out.size HFV.out.size) (Nat.le_of_not_lt hj)))
      have H0 := hide (And.intro hlaw (And.intro hlf (And.intro hxs (And.intro hv (And.intro hpa htot)))))
      clear hfr hlaw hlf hxs hv hpa htot HL5 HPL5
      by_cases hlt : k < n
      · obtain ⟨a, b, o, hka, hal, rfl, hb, s0, s1, s2, s3, s4, s5, s6, s7⟩ := HSA.out.at hlt
        have hwf := HSA.out.wf a hal
        have HWF := hide hwf
        have g0 : (0 : Int) ≤ (k : Int) := Int.natCast_nonneg _
        have g1 : (k : Int) < (n : Int) := Int.ofNat_lt.2 hlt
        have HDN := hide (H0.out.1.done HSP.out (step_boundp k n hlt HN150.out) H0.out.2.2.1 H0.out.2.2.2.1 a hwf)
        have HCL := hide (fun W (hS : Fr (fun j => ¬ j < V2.heap.size) wr W) => (HSA.out.fr hS (Nat.le_trans (Nat.le_trans HF2.out.size HFV.out.size) HFR.out.size) (fun j hj => Nat.le_trans (Nat.le_trans HF2.out.size HFV.out.size) (Nat.le_of_not_lt hj))).cells k a hka)
        clear hwf hka hal
        go_wp2_with fail
        go_at_call 47
        refine HDN.out.mono ?_
        rintro e W6 ⟨x, y, rfl, ⟨rfl, rfl, ⟨t', s', hl', hv', hst'⟩, hff⟩ | ⟨_, _, h0, _⟩⟩
        rotate_left
        · exact absurd H0.out.2.1 h0
        have hff0 := hff.mono (S' := fun j => ¬ j < V2.heap.size) (fun j h hj => h (.inl hj))
        have H6 := hide (And.intro hl' (And.intro hv' hst'))
        have HF6 := hide hff0
        have HPN := hide (splain_ok (H0.out.2.2.2.2.1.fr hff (fun h => h (.inr (.inl rfl))) (fun h => h (.inr (.inr rfl)))) a HWF.out)
        obtain ⟨b', o', e', _, hcc⟩ := HCL.out W6 hff0
        injection e' with e'
        injection e' with e1 e2
        subst e1 e2
        have r0 : W6.cell? ⟨b, o + k * 8, none⟩ = some (.int .u8 (a.kind : Int)) := hcc 0 _ rfl
        have r1 : W6.cell? ⟨b, o + k * 8 + 1, none⟩ = some (.int .i64 a.i) := hcc 1 _ rfl
        have r2 : W6.cell? ⟨b, o + k * 8 + 2, none⟩ = some (.int .u64 (a.v : Int)) := hcc 2 _ rfl
        have r3 : W6.cell? ⟨b, o + k * 8 + 3, none⟩ = some (.int .u8 (a.c.kind : Int)) := hcc 3 _ rfl
        have r4 : W6.cell? ⟨b, o + k * 8 + 4, none⟩ = some (.string ⟨a.c.name.toArray⟩) := hcc 4 _ rfl
        have r5 : W6.cell? ⟨b, o + k * 8 + 5, none⟩ = some (.int .i64 a.c.i) := hcc 5 _ rfl
        have r6 : W6.cell? ⟨b, o + k * 8 + 6, none⟩ = some (.string ⟨a.c.data.toArray⟩) := hcc 6 _ rfl
        have r7 : W6.cell? ⟨b, o + k * 8 + 7, none⟩ = some (.int .u8 (a.c.x.toNat : Int)) := hcc 7 _ rfl
        clear hl' hv' hst' hff hff0 hcc s0 s1 s2 s3 s4 s5 s6 s7
        go_wp2_with fail
        go_at_call 52
        refine HPN.out.mono ?_
        rintro e W7 ⟨x, y, rfl, rfl, rfl, hpl7, hf7⟩
        have hz7 : ∀ j, (fun k => k = g) j → (j < V2.heap.size ∨ (j = p ∨ j = g)) := fun j hj => .inr (.inr hj)
        have hl7 := H6.out.1.keep hf7 hz7
        have H7 := hide (And.intro hl7 hpl7)
        have HF7 := hide (HFR.out.trans (HF6.out.trans hf7 (fun j hj => .inl (by rw [hj]; exact HGP.out))) (fun _ h => .inl h))
        have HRS := hide hl7.res
        obtain ⟨X7, hc7⟩ := hl7.cat
        have HPI := hide (cpinned_ok hc7 (Nat.le_trans hl7.ok.rest.inv.len (by omega)))
        rw [pins_zero hl7.ok.rest, show (((0 : Nat)) : Int) = 0 from rfl] at HPI
        obtain ⟨l1, l2, l3, l4, l5, l6, l7⟩ := min_false (res_le hl7.ok).1 (res_le hl7.ok).2
        have HTT := hide (tot_step H6.out.2.2 H0.out.2.2.2.2.2)
        have HLE := hide (keys_lt hl7.ok.inv.pnd hl7.ok.inv.plt)
        obtain ⟨px, hpx⟩ : ∃ px, (pstep a xs).1 = px := ⟨_, rfl⟩
        obtain ⟨pe, hpe⟩ : ∃ pe, (pstep a xs).2.1 = pe := ⟨_, rfl⟩
        rw [hpx, hpe]
        obtain ⟨g2, g3⟩ := step_smallp k n hlt (Nat.le_trans HN150.out (by decide))
        clear hl7 hpl7 hf7 hz7 hc7 hpx hpe r0 r1 r2 r3 r4 r5 r6 r7
        go_wp2_with fail
        go_at_call 44
        refine HRS.out.mono ?_
        rintro e w9 ⟨rfl, rfl⟩
        go_wp2_with fail
        go_at_call 53
        refine (HCO.out _).mono ?_
        rintro e w9 ⟨rfl, rfl⟩
        go_wp2_with fail
        go_at_call 29
        refine HPI.out.mono ?_
        rintro e W8 ⟨rfl, hf8⟩
        have hl8 := H7.out.1.up hf8
        have HF8 := hide hf8
        obtain ⟨X8, hc8⟩ := hl8.cat
        have HFS := hide (cfs_ok hc8)
        have HUS := hide (cat_used hc8 hl8.ok.rest.inv)
        rw [HTT.out] at HUS
        have t1 : ¬ ((t'.PK.length : Int) > (((N + 7) / 8 : Nat) : Int)) := by have := HLE.out; clear l1 l2 l3 l4 l5 l6 l7 g2 g3; omega
        have t2 : ¬ ((((N + 7) / 8 : Nat) : Int) < (t'.PK.length : Int)) := by have := HLE.out; clear l1 l2 l3 l4 l5 l6 l7 g2 g3; omega
        clear hl8 hc8 hf8
        go_wp2_with fail
        go_at_call 18
        refine HFS.out.mono ?_
        rintro e w9 ⟨rfl, rfl⟩
        go_wp2_with fail
        go_at_call 33
        refine HUS.out.mono ?_
        rintro e W9 ⟨rfl, hf9⟩
        have hf89 := HF8.out.then_ hf9
        have H9 := hide (And.intro (H7.out.1.up hf89) (And.intro (H7.out.2.fr hf89 id id) (HF7.out.trans hf89 (fun _ h => h.elim))))
        clear hf9 hf89
        go_wp2_with fail
        go_at_call 53
        refine (HCO.out _).mono ?_
        rintro e w9 ⟨rfl, rfl⟩
        go_wp2
        go_roundw
        case rel => exact ⟨k + 1, t', s', _, by go_num, hlt, by rw [Nat.mul_add]; exact H9.out.1, H6.out.2.2.lft H0.out.2.1, (pstep_len a xs).trans H0.out.2.2.1, H6.out.2.1, H9.out.2.1, HTT.out, H9.out.2.2⟩
        case measure => clear g2 g3 l1 l2 l3 l4 l5 l6 l7 t1 t2; simp [intOf]; omega
      · obtain rfl : k = n := by omega
        go_wp2
        go_loopw [17] (fun i wr => ∃ (j : Nat) (t : SSt) (s : CSt), i = .int .i64 (j : Int) ∧ j ≤ N ∧ SLaw (fun j => j < V2.heap.size ∨ (j = p ∨ j = g)) wr sb cb fb [118] N most ((N + 7) / 8) 60 (1 + z1 % 9) (256 * k + j) t s ∧ s.left = -1 ∧ VRep s.F [118] t xs ∧ PlainAt wr p g xs ∧ Fr (fun j => ¬ j < V2.heap.size) V2 wr) (fun i _ => N - (intOf i).toNat)
        case atStart => exact ⟨0, t, s, rfl, Nat.zero_le _, H0.out.1, H0.out.2.1, H0.out.2.2.2.1, H0.out.2.2.2.2.1, HFR.out⟩
        case round =>
          obtain ⟨j, t1, s1, rfl, hj, hlaw, hlf, hv, hpa, hfr⟩ := hrel
          have H1 := hide (And.intro hlaw (And.intro hlf (And.intro hv (And.intro hpa hfr))))
          clear hlaw hlf hv hpa hfr
          by_cases hjl : j < N
          · have g1 : (j : Int) < (N : Int) := Int.ofNat_lt.2 hjl
            have hjx : j < xs.length := by rw [H0.out.2.2.1]; exact hjl
            have HGT := hide (H1.out.1.get HSP.out (step_boundq j k N hjl HNU.out.n2 HN150.out) j hjl)
            obtain ⟨g2, g3⟩ := step_smallp j N hjl (Nat.le_trans HNU.out.n2 (by decide))
            go_wp2_with fail
            go_at_call 50
            refine HGT.out.mono ?_
            rintro e W6 (⟨rfl, t', s', _, hl, hkp, hsv, hff⟩ | ⟨_, h0, _⟩)
            rotate_left
            · exact absurd (H1.out.2.1.symm.trans h0) (by decide)
            have hff0 := hff.mono (S' := fun j => ¬ j < V2.heap.size) (fun j h hj => h (.inl hj))
            have hpl6 := H1.out.2.2.2.1.fr hff (fun h => h (.inr (.inl rfl))) (fun h => h (.inr (.inr rfl)))
            have HVG := hide (get_in hpl6 j hjx)
            have hval : vget s1.F [118] t1 j = xs.getD j 0 := H1.out.2.2.1 j hjx
            have hval2 : (sval s1.F [118] t1 (j / 8)).getD (j % 8) 0 = xs.getD j 0 := hval
            rw [hval2]
            have H6 := hide (And.intro hl (And.intro (hkp.lft H1.out.2.1) (And.intro (show VRep s'.F [118] t' xs from fun i hi => (vget_same hsv i).trans (H1.out.2.2.1 i hi)) (And.intro hpl6 (H1.out.2.2.2.2.trans hff0 (fun _ h => .inl h))))))
            obtain ⟨px, hpx⟩ : ∃ px, xs.getD j 0 = px := ⟨_, rfl⟩
            rw [hpx] at HVG ⊢
            clear hl hkp hsv hff hff0 hpl6 hval hval2 hpx
            go_wp2_with fail
            go_at_call 54
            refine HVG.out.mono ?_
            rintro e w9 ⟨rfl, rfl⟩
            go_wp2
            go_roundw
            case rel => exact ⟨j + 1, t', s', by go_num, hjl, H6.out.1, H6.out.2.1, H6.out.2.2.1, H6.out.2.2.2.1, H6.out.2.2.2.2⟩
            case measure => clear g2 g3; simp [intOf]; omega
          · obtain rfl : j = N := by omega
            have HDO := hide (does15_true wr)
            go_wp2_with fail
            go_at_call 45
            refine HDO.out.mono ?_
            rintro e W9 ⟨rfl, hf9⟩
            have HF9 := hide (H1.out.2.2.2.2.trans hf9 (fun _ h => h.elim))
            clear hf9
            go_wp2
            go_ret
            exact ⟨rfl, (HF2.out.then_ HFV.out).then_ HF9.out.down⟩
end Go.Proofs.YtkhbemmcegmdaaaGreatDoor
end
section
set_option linter.all false
set_option linter.unusedVariables false
set_option maxRecDepth 100000
namespace Go.Proofs.YtkhbemmcegmdaaaGreatDoor
open Go.RowKit

section
variable {F F' : FileL} {n : Name} {segs most : Nat} {t : SSt} {xs : List Nat}
theorem sbase_congr (e : fpg n F' = fpg n F) (PK : List Nat) (k : Nat) : sbase F' n PK k = sbase F n PK k := by unfold sbase cont; rw [e]
theorem SInv.congr (h : SInv n segs most t F) (e : fpg n F' = fpg n F) : SInv n segs most t F' :=
  { h with
    pgs := by rw [e]; exact h.pgs
    pok := by rw [e]; exact h.pok
    tun := fun g hg hs => by rw [sbase_congr e]; exact h.tun g hg hs }
theorem VRep.congr (h : VRep F n t xs) (e : fpg n F' = fpg n F) : VRep F' n t xs := fun i hi => by
  have : vget F' n t i = vget F n t i := by
    unfold vget sval
    cases t.T.find? fun g => decide (g.key = i / 8) with
    | some g => rfl
    | none => simp only; rw [sbase_congr e]
  rw [this]
  exact h i hi
end
theorem or_rot {a b c : Prop} (h : (a ∨ b) ∨ c) : (a ∨ c) ∨ b := h.elim (fun h => h.elim (fun h => .inl (.inl h)) .inr) (fun h => .inl (.inr h))
/-- the other store's part -/
def SPart (W : World) (sb cb : Nat) (n : Name) (N most : Nat) (K : Nat) (t : SSt) (Y : Nat → Prop) : Prop := ∃ tb pb ask Q clock, SRep W sb tb pb cb n N most ask Y Q t.PK clock ∧ Q.map SF.abs = t.T ∧ 0 ≤ ask ∧ ask ≤ (K : Int)
structure STwo (Z : Nat → Prop) (W : World) (sa sb cb fb : Nat) (na nb : Name) (N ma mb segs : Nat) (room : Int) (cm K base : Nat) (ta tb : SSt) (s : CSt) : Prop where
  two : ∃ Y : Nat → Prop, SPart W sb cb nb N mb K tb Y ∧ (∀ j, Y j → ¬ Z j) ∧ SLaw (fun j => Z j ∨ Y j) W sa cb fb na N ma segs room cm K ta s
  inv : SInv nb segs mb tb s.F
  tot : total s.F = base + ta.PK.length + tb.PK.length
  rm : ((base : Nat) : Int) + (segs : Int) + (segs : Int) ≤ room
section
variable {W W' : World} {Z : Nat → Prop} {sa sb cb fb N ma mb cm segs K base : Nat} {room : Int} {na nb : Name} {ta tb : SSt} {s : CSt} {S Y : Nat → Prop}
theorem SPart.keep (h : SPart W sb cb nb N mb K tb Y) (hf : Fr S W W') (hs : ∀ j, Y j → ¬ S j) {K' : Nat} (hK : K ≤ K') : SPart W' sb cb nb N mb K' tb Y := by
  obtain ⟨t, p, ask, Q, clock, hr, ha, h0, h1⟩ := h
  exact ⟨t, p, ask, Q, clock, hr.keep hf hs, ha, h0, by omega⟩
theorem STwo.law (h : STwo Z W sa sb cb fb na nb N ma mb segs room cm K base ta tb s)   : ∃ Y : Nat → Prop, SLaw (fun j => Z j ∨ Y j) W sa cb fb na N ma segs room cm K ta s := by
  obtain ⟨Y, _, _, h3⟩ := h.two
  exact ⟨Y, h3⟩
theorem STwo.zlt (h : STwo Z W sa sb cb fb na nb N ma mb segs room cm K base ta tb s) : ∀ j, Z j → j < W.heap.size := by
  obtain ⟨Y, _, _, h3⟩ := h.two
  exact fun j hj => h3.zlt j (.inl hj)
theorem sok_of (hr : CRest room cm s) (hi : SInv nb segs mb tb s.F) (hl : ta.PK.length ≤ segs) (ht : total s.F = base + ta.PK.length + tb.PK.length) (hm : ((base : Nat) : Int) + (segs : Int) + (segs : Int) ≤ room) (hc : 1 ≤ cm) : SOk nb segs mb room cm tb s := ⟨hr, hi, by omega, hc⟩
theorem STwo.pka (h : STwo Z W sa sb cb fb na nb N ma mb segs room cm K base ta tb s) : ta.PK.length ≤ segs := by
  obtain ⟨Y, h3⟩ := h.law
  exact keys_lt h3.ok.inv.pnd h3.ok.inv.plt
theorem STwo.swap (h : STwo Z W sa sb cb fb na nb N ma mb segs room cm K base ta tb s) : STwo Z W sb sa cb fb nb na N mb ma segs room cm K base tb ta s := by
  have hpk := h.pka
  obtain ⟨Y, ⟨t2, p2, ask2, Q2, cl2, hr2, ha2, a0, a1⟩, hyz, hl⟩ := h.two
  have hok : SOk nb segs mb room cm tb s := sok_of hl.ok.rest h.inv hpk h.tot h.rm hl.ok.c1
  obtain ⟨t1, p1, ask1, X, Y1, Q1, cl1, hm, hx, hy, b0, b1⟩ := hl.mem
  refine ⟨⟨Y1, ⟨t1, p1, ask1, Q1, cl1, hm.rep, hm.abs, b0, b1⟩, fun j hj hz => hy j hj (.inl hz), ⟨⟨t2, p2, ask2, X, Y, Q2, cl2, ⟨hr2, ha2, hm.cat, fun j hx1 hy1 => hx j hx1 (.inr hy1)⟩, fun j hj hz => ?_, fun j hj hz => ?_, a0, a1⟩, hok, hl.clk, fun j hj => ?_⟩⟩, hl.ok.inv, by have := h.tot; omega, h.rm⟩
  · rcases hz with hz | hz
    · exact hx j hj (.inl hz)
    · exact hm.dj j hj hz
  · rcases hz with hz | hz
    · exact hyz j hj hz
    · exact hy j hz (.inr hj)
  · rcases hj with hj | hj
    · exact hl.zlt j (.inl hj)
    · exact hm.rep.lt j hj
theorem STwo.keep (h : STwo Z W sa sb cb fb na nb N ma mb segs room cm K base ta tb s) (hf : Fr S W W') (hs : ∀ j, S j → Z j) : STwo Z W' sa sb cb fb na nb N ma mb segs room cm K base ta tb s := by
  obtain ⟨Y, hp, hyz, hl⟩ := h.two
  exact ⟨⟨Y, hp.keep hf (fun j hj h => hyz j hj (hs j h)) (Nat.le_refl _), hyz, hl.keep hf (fun j hj => .inl (hs j hj))⟩, h.inv, h.tot, h.rm⟩
theorem STwo.moreP (h : STwo Z W sa sb cb fb na nb N ma mb segs room cm K base ta tb s) (hf : Fr (fun _ => False) W W') (Q : Nat → Prop) (hq : ∀ j, Q j → W.heap.size ≤ j ∧ j < W'.heap.size) : STwo (fun j => Z j ∨ Q j) W' sa sb cb fb na nb N ma mb segs room cm K base ta tb s := by
  obtain ⟨Y, hp, hyz, hl⟩ := h.two
  have hlt : ∀ j, Y j → j < W.heap.size := fun j hj => hl.zlt j (.inr hj)
  have h2 := hl.moreP hf Q hq
  refine ⟨⟨Y, hp.keep hf (fun _ _ h => h) (Nat.le_refl _), fun j hj hz => ?_, ?_⟩, h.inv, h.tot, h.rm⟩
  · rcases hz with hz | hz
    · exact hyz j hj hz
    · have := (hq j hz).1; have := hlt j hj; omega
  · obtain ⟨t1, p1, ask1, X, Y1, Q1, cl1, hm, hx, hy, b⟩ := h2.mem
    exact ⟨⟨t1, p1, ask1, X, Y1, Q1, cl1, hm, fun j hj hz => hx j hj (or_rot hz), fun j hj hz => hy j hj (or_rot hz), b⟩, h2.ok, h2.clk, fun j hj => h2.zlt j (or_rot hj)⟩
theorem STwo.done (h : STwo Z W sa sb cb fb na nb N ma mb segs room cm K base ta tb s) (hne : nb ≠ na) (hp : SPar N ma segs) (hK : K + 256 ≤ 1000000) {xs : List Nat} (hx : xs.length = N) (hv : VRep s.F na ta xs) (hlf : s.left = -1) (a : SAct) (ha : SActWf a) :
    Calls Tryz.prog 47 #[.pointer (some ⟨sa, 0, none⟩), .agg #[.int .u8 (a.kind : Int), .int .i64 a.i, .int .u64 (a.v : Int), .int .u8 (a.c.kind : Int), .string ⟨a.c.name.toArray⟩, .int .i64 a.c.i, .string ⟨a.c.data.toArray⟩, .int .u8 (a.c.x.toNat : Int)]] W fun e W' =>
      e = .returned (.tuple #[.int .u64 ((pstep a xs).1 : Nat), .int .i64 (pstep a xs).2.1]) ∧ ∃ t' s', STwo Z W' sa sb cb fb na nb N ma mb segs room cm (K + 256) base t' tb s' ∧ VRep s'.F na t' (pstep a xs).2.2 ∧ SStay na ta s t' s' ∧ Fr (fun j => ¬ Z j) W W' := by
  obtain ⟨Y, hpt, hyz, hl⟩ := h.two
  refine (hl.done hp hK hx hv a ha).mono ?_
  rintro e W' ⟨x, y, rfl, ⟨rfl, rfl, ⟨t', s', hl', hv', hst'⟩, hff⟩ | ⟨_, _, h0, _⟩⟩
  · refine ⟨rfl, t', s', ⟨⟨Y, hpt.keep hff (fun j hj h => h (.inr hj)) (by omega), hyz, hl'⟩, h.inv.congr (hst'.oth nb hne), ?_, h.rm⟩, hv', hst', hff.mono (fun j h hz => h (.inl hz))⟩
    have := hst'.tot
    have := h.tot
    omega
  · exact absurd hlf h0
theorem STwo.new {na nb : Name} (h : SLaw Z W sa cb fb na N ma segs room cm K ⟨[], []⟩ s) (hnb : nameB nb = true) (hp : SPar N mb segs) (hfp : fpg nb s.F = []) (hb : total s.F = base) (hrm : ((base : Nat) : Int) + (segs : Int) + (segs : Int) ≤ room) :
    Calls Tryz.prog 41 #[.pointer (some ⟨cb, 0, none⟩), .string ⟨nb.toArray⟩, .int .i64 (N : Int), .int .i64 (mb : Int)] W fun e W' => ∃ sb, e = .returned (.tuple #[.pointer (some ⟨sb, 0, none⟩), .int .i64 0]) ∧ STwo Z W' sa sb cb fb na nb N ma mb segs room cm K base ⟨[], []⟩ ⟨[], []⟩ s ∧ Fr (fun _ => False) W W' := by
  obtain ⟨t1, p1, ask1, X, Y1, Q1, cl1, hm, hx, hy, b0, b1⟩ := h.mem
  have := hp.mb
  refine (snew_ok hm.cat nb hnb N mb hp.n256 hp.m1 (by omega) hfp).mono ?_
  rintro e W' ⟨sb, tb, pb, Y, rfl, hm2, hy2, hf'⟩
  refine ⟨sb, rfl, ⟨⟨Y, ⟨tb, pb, 0, [], 0, hm2.rep, rfl, by omega, by omega⟩, fun j hj hz => by have := hy2 j hj; have := h.zlt j hz; omega, ⟨⟨t1, p1, ask1, X, Y1, Q1, cl1, hm.up hf', fun j hj hz => ?_, fun j hj hz => ?_, b0, b1⟩, h.ok, h.clk, fun j hj => ?_⟩⟩, ⟨hnb, by simp, by simp, by rw [hfp]; rfl, by simp, by simp, by simp, by simp, by simp, by simp⟩, by simpa using hb, hrm⟩, hf'⟩
  · rcases hz with hz | hz
    · exact hx j hj hz
    · have := hy2 j hz; have := hm.cat.lt j hj; omega
  · rcases hz with hz | hz
    · exact hy j hj hz
    · have := hy2 j hz; have := hm.rep.lt j hj; omega
  · rcases hj with hj | hj
    · have := h.zlt j hj; have := hf'.size; omega
    · exact hm2.rep.lt j hj
theorem STwo.mono {K' : Nat} (h : STwo Z W sa sb cb fb na nb N ma mb segs room cm K base ta tb s) (hK : K ≤ K') : STwo Z W sa sb cb fb na nb N ma mb segs room cm K' base ta tb s := by
  obtain ⟨Y, hp, hyz, hl⟩ := h.two
  exact ⟨⟨Y, hp.keep (S := fun _ => False) (Fr.refl _ _) (fun _ _ h => h) hK, hyz, hl.mono hK⟩, h.inv, h.tot, h.rm⟩
/-- the first one closed -/
theorem STwo.close (h : STwo Z W sa sb cb fb na nb N ma mb segs room cm K base ta tb s) (hne : nb ≠ na) :
    Calls Tryz.prog 48 #[.pointer (some ⟨sa, 0, none⟩)] W fun e W' => e = .returned (.tuple #[]) ∧ SLaw (fun j => Z j ∨ j = sa) W' sb cb fb nb N mb segs room cm K tb (sclosed na s) ∧ SEnd W' sa cb na N ma 1 ∧ total (sclosed na s).F = base + tb.PK.length ∧ Fr (fun j => ¬ Z j) W W' := by
  have hpk := h.pka
  obtain ⟨Y, hpt, hyz, hl⟩ := h.two
  have hrc := rest_closed (n := na) hl.ok.rest
  have hpg := hl.ok.inv.pgs
  have htot := h.tot
  have hrm := h.rm
  have hclk := hl.clk
  refine hl.close.mono ?_
  rintro e W' ⟨rfl, hd, hff⟩
  obtain ⟨t2, p2, ask2, Q2, cl2, hr2, ha2, a0, a1⟩ := hpt
  have hr2' := hr2.keep hff (fun j hj h => h (.inr hj))
  obtain ⟨X, hc, hx, hxs⟩ := hd.mem
  have ht' : total (sclosed na s).F = base + tb.PK.length := by
    have := hrc.2.2.2
    omega
  refine ⟨rfl, ⟨⟨t2, p2, ask2, X, Y, Q2, cl2, ⟨hr2', ha2, hc, fun j hx1 hy1 => hx j hx1 (.inr hy1)⟩, fun j hj hz => ?_, fun j hj hz => ?_, a0, a1⟩, ⟨hrc.1, h.inv.congr (hrc.2.2.1 nb hne), by omega, hl.ok.c1⟩, hclk, fun j hj => ?_⟩, hd.end_, ht', hff.mono (fun j h hz => h (.inl hz))⟩
  · rcases hz with hz | hz
    · exact hx j hj (.inl hz)
    · exact hxs (by rw [← hz]; exact hj)
  · rcases hz with hz | hz
    · exact hyz j hj hz
    · exact hd.zsb (.inr (by rw [← hz]; exact hj))
  · rcases hj with hj | hj
    · exact hd.zlt j (.inl hj)
    · subst hj
      obtain ⟨_, _, hb⟩ := hd.end_
      exact hb.lt
end
end Go.Proofs.YtkhbemmcegmdaaaGreatDoor
end
section
set_option linter.all false
set_option linter.unusedVariables false
set_option maxRecDepth 100000
namespace Go.Proofs.YtkhbemmcegmdaaaGreatDoor
open Go.RowKit

theorem texts_any (A A' : Option Addr) (n c m d B : Nat) (L M : List (List UInt8)) (w : World) (ha : Reads w B 1 A n (L.map strv)) (hb : Reads w B 1 A' m (M.map strv)) (hn : n ≤ 9223372036854775807) :
    Calls Tryz.prog 57 #[.slice A n c, .slice A' m d] w fun e w' => e = .returned (.bool (L == M)) ∧ Fr (fun _ => False) w w' := by
  have la : L.length = n := by have := ha.1; simpa using this
  have lb : M.length = m := by have := hb.1; simpa using this
  by_cases hnm : n = m
  · have hb1 : ((n : Int) != (m : Int)) = false := by simp [hnm]
    have LA := hide la
    have LB := hide lb
    have HNM := hide hnm
    have hle : n ≤ m := by omega
    have HA := hide ha
    have HB := hide hb
    clear la lb hnm ha hb
    go_enter Tryz.func57, Tryz.ntmps57
    go_wp2
    go_loopw [5] (fun i wr => ∃ k q : Nat, k ≤ n ∧ i = .int .i64 k ∧ wr = w.drewN q ∧ Hid (L.take k = M.take k)) (fun i _ => n - (intOf i).toNat)
    case atStart => exact ⟨0, 0, by omega, rfl, rfl, hide rfl⟩
    case round =>
      obtain ⟨k, q, hk, rfl, rfl, HK⟩ := hrel
      by_cases hkn : k < n
      · obtain ⟨b1, o1, u1, rfl, _, hu1, hc1⟩ := HA.out.at_ hkn
        obtain ⟨b2, o2, u2, rfl, _, hu2, hc2⟩ := HB.out.at_ (show k < m by omega)
        have lx : k < L.length := by rw [LA.out]; omega
        have ly : k < M.length := by rw [LB.out]; omega
        obtain rfl : u1 = strv L[k] := by simp [lx] at hu1; exact hu1.symm
        obtain rfl : u2 = strv M[k] := by simp [ly] at hu2; exact hu2.symm
        have HT1 := hide (List.take_succ_eq_append_getElem lx)
        have HT2 := hide (List.take_succ_eq_append_getElem ly)
        have HNE : Hid (L[k] ≠ M[k] → (L == M) = false) := by
          intro h
          rw [beq_eq_false_iff_ne]
          intro e
          subst e
          exact h rfl
        unfold strv at hc1 hc2
        have hkm : k < m := by omega
        clear hu1 hu2
        generalize L[k] = x at *
        generalize M[k] = y at *
        clear lx ly
        by_cases hxy : x = y
        · have hbe : (x == y) = true := by simp [hxy]
          have HXY := hide hxy
          clear hxy HNE
          go_wp2
          go_quiet (fail)
          go_wp2
          go_roundw
          case rel => exact ⟨k + 1, _, by omega, by go_num, rfl, hide (by rw [HT1.out, HT2.out, HK.out, HXY.out])⟩
          case measure => simp [intOf]; omega
        · have hbe : (x == y) = false := by simp [hxy]
          have HN := hide (HNE.out hxy)
          clear hxy HNE
          go_wp2
          go_quiet (fail)
          go_wp2
          go_ret
          exact ⟨by rw [HN.out]; rfl, ((Fr.refl _ _).drewN _).drewN _⟩
      · have he : (L == M) = true := by
          have h := HK.out
          have hnm := HNM.out
          rw [List.take_of_length_le (by rw [LA.out]; omega), List.take_of_length_le (by rw [LB.out]; omega)] at h
          simpa using h
        have HN := hide he
        clear he
        go_wp2
        go_ret
        exact ⟨by rw [HN.out]; rfl, (Fr.refl _ _).drewN _⟩
  · have hb1 : ((n : Int) != (m : Int)) = true := by simp; omega
    have hne : (L == M) = false := by
      rw [beq_eq_false_iff_ne]
      rintro rfl
      exact hnm (la.symm.trans lb)
    rw [hne]
    clear la lb hnm hne
    go_enter Tryz.func57, Tryz.ntmps57
    go_wp2
    go_ret
    exact ⟨rfl, Fr.refl _ _⟩

end Go.Proofs.YtkhbemmcegmdaaaGreatDoor
end
