/- Parts of the proof of SpillPages: no conditions of their own. -/
import Derived.Test.YtkhbemmcegmdaaaGreatDoorWhPk19
import Derived.Test.YtkhbemmcegmdaaaGreatDoorWhPk18
section
set_option linter.all false
set_option linter.unusedVariables false
set_option maxRecDepth 100000
namespace Go.Proofs.YtkhbemmcegmdaaaGreatDoor.frame
open Go.ChangeShapes Go.WideShapes Go.ChangeAt Go.RowKit
open Go.ChangeMaps (open_string shut_string)

section
variable {H : Type} {enc : TypeId × Value → H} {W : World} {base : Nat} {t : TypeId} {v : Value} {d : DataW H} {ps : List MemPlace}
/-- a slice of integers of one kind, as it came in -/
theorem open_ints' {P : Program} {k : IntKind} {e : TypeId} (ht : P.underlying t = some (.slice e)) (he : P.underlying e = some (.int k)) (hc : P.cellsOf e = 1) (hv : Value.okWide P W .any base t v) (h : DataW.Trod enc P W 0 (fun _ => true) true t v d ps) :
    ∃ A n c, ∃ zs : List Int, v = .slice A n c ∧ Reads W W.heap.size 1 A n (zs.map (Value.int k)) ∧ n ≤ c ∧ c ≤ maxLen ∧ (∀ z ∈ zs, (Lit.int k z).wf = true) := by
  obtain ⟨A, n, c, rfl⟩ := okWide_slice ht hv
  obtain ⟨fuel, hf⟩ := h
  rcases open_ints ht he hc hf with ⟨hcs, _⟩ | ⟨x, l, cp, zs, hcs, _, hl, hm, hz, hx, hcell, hwz⟩
  · simp [Value.cells] at hcs
    obtain ⟨rfl, rfl, rfl⟩ := hcs
    exact ⟨_, _, _, [], rfl, Reads.none_, Nat.le_refl _, by unfold maxLen; omega, by simp⟩
  · simp [Value.cells] at hcs
    obtain ⟨rfl, rfl, rfl⟩ := hcs
    have hz' : zs.length = c := by simpa using hz
    refine ⟨_, _, _, zs.take n, rfl, ⟨by simp; omega, fun hn => ?_⟩, hl, hm, fun z hz => hwz z (List.mem_of_mem_take hz)⟩
    have h0 := hcell 0 (by omega)
    have hb := World.block_lt_of_cell? W _ h0
    obtain ⟨b, o, s⟩ := x
    have hs : s = none := by simpa [Addr.add] using World.cell?_spot h0
    subst hs
    refine ⟨b, o, rfl, by simpa [Addr.add] using hb, fun j u hu => ?_⟩
    have hj : j < n := by
      have := (List.getElem?_eq_some_iff.1 hu).1
      simp at this
      omega
    have hc := hcell j (by omega)
    rw [Addr.add_lit] at hc
    rw [hc, ← hu]
    simp [List.getD, hj, show j < zs.length by omega]
theorem open_bytes (hv : Value.okWide Tryz.prog W .any base 22 v) (h : DataW.Trod enc Tryz.prog W 0 (fun _ => true) true 22 v d ps) :
    ∃ A n c, ∃ bs : List Nat, v = .slice A n c ∧ Reads W W.heap.size 1 A n (bs.map fun b => .int .u8 ((b : Nat) : Int)) ∧ n ≤ c ∧ c ≤ maxLen ∧ (∀ b ∈ bs, b < 256) := by
  obtain ⟨A, n, c, zs, rfl, hr, hn, hm, hz⟩ := open_ints' Tryz.underlying22 Tryz.underlying5 (by kernel_rfl) hv h
  have hb : ∀ z ∈ zs, 0 ≤ z ∧ z < 256 := fun z hzz => by
    have := hz z hzz
    simp [Lit.wf, IntKind.min, IntKind.max, IntKind.signed, IntKind.bits] at this
    omega
  have e : (zs.map Int.toNat).map (fun x => Value.int .u8 ((x : Nat) : Int)) = zs.map (Value.int .u8) := by
    rw [List.map_map]
    apply List.map_congr_left
    intro z hzz
    have := hb z hzz
    simp
    omega
  refine ⟨A, n, c, zs.map Int.toNat, rfl, by rw [e]; exact hr, hn, hm, fun x hx => ?_⟩
  obtain ⟨z, hzz, rfl⟩ := List.mem_map.1 hx
  have := hb z hzz
  omega
end
end Go.Proofs.YtkhbemmcegmdaaaGreatDoor.frame
end
section
set_option linter.all false
set_option linter.unusedVariables false
set_option maxRecDepth 100000
namespace Go.Proofs.YtkhbemmcegmdaaaGreatDoor
open Go.RowKit

def wcells (PK : List Nat) : Array Value := ((List.range 32).map fun k => Value.bool (decide (k ∈ PK))).toArray
theorem wcells_get {PK : List Nat} {k : Nat} (h : k < 32) : (wcells PK)[k]? = some (.bool (decide (k ∈ PK))) := by
  unfold wcells
  simp [h]
theorem wcells_set (PK : List Nat) (k : Nat) : (wcells PK).setIfInBounds k (.bool true) = wcells (spk PK k) := by
  unfold wcells
  apply Array.ext'
  simp only [Array.toList_setIfInBounds]
  apply List.ext_getElem?
  intro j
  by_cases e : k = j
  · subst e
    by_cases h : k < 32
    · simp [h, (spk_mem PK k k).2 (.inr rfl)]
    · simp [h]
  · rw [List.getElem?_set_ne e]
    by_cases h : j < 32
    · have : (j ∈ spk PK k) ↔ j ∈ PK := by rw [spk_mem]; exact ⟨fun h => h.resolve_right (Ne.symm e), .inl⟩
      simp [h, this]
    · simp [h]
theorem seg_ix (bv N : Nat) (h : 1 ≤ N ∧ N ≤ 256) : ∃ m q : Nat, m < N ∧ m / 8 = q ∧ q < 32 ∧ (bv : Int).tmod (N : Int) = (m : Int) ∧ ((N : Int) == 0) = false ∧ ¬ (N : Int) = 0 ∧ (wrap64 (m : Int) = (m : Int) ∧ IntKind.i64.wrap (m : Int) = (m : Int)) ∧ (m : Int).tdiv 8 = (q : Int) ∧ wrap64 (q : Int) = (q : Int) ∧ IntKind.i64.wrap (q : Int) = (q : Int) := by
  have hm : bv % N < N := Nat.mod_lt _ (by omega)
  have h1 : (bv : Int).tmod (N : Int) = ((bv % N : Nat) : Int) := by rw [Int.tmod_eq_emod_of_nonneg (by omega)]; rfl
  generalize bv % N = m at hm h1
  have h2 : (m : Int).tdiv 8 = ((m / 8 : Nat) : Int) := by rw [Int.tdiv_eq_ediv_of_nonneg (by omega)]; rfl
  have h3 : m / 8 < 32 := by omega
  exact ⟨m, m / 8, hm, rfl, h3, h1, by simp; omega, by omega, small_ok (by omega), h2, small_ok (by omega)⟩
theorem ix_small (k n : Nat) (h : k < n) (h2 : n ≤ 80) : (wrap64 (k : Int) = (k : Int) ∧ IntKind.i64.wrap (k : Int) = (k : Int)) ∧ (wrap64 ((k : Int) + 1) = (k : Int) + 1 ∧ IntKind.i64.wrap ((k : Int) + 1) = (k : Int) + 1) ∧ IntKind.u64.wrap (k : Int) = (k : Int) :=
  ⟨small_ok (by omega), ⟨by unfold wrap64; omega, i64_same (by omega) (by omega)⟩, by rw [IntKind.wrap_u64]; omega⟩
theorem ne_m1 (q : Nat) : ((q : Int) != -1) = true := by simp <;> omega
theorem ne_facts {q k0 : Nat} (h : ¬ k0 = q) (h2 : k0 < 32) : ((q : Int) != (k0 : Int)) = true ∧ (q != k0) = true ∧ ¬ q = k0 ∧ (0 : Int) ≤ (k0 : Int) ∧ (k0 : Int) < 32 := ⟨by simp; omega, by simp; omega, by omega, by omega, by omega⟩
theorem len_small (k : Nat) (h : k + 1 ≤ 32) : wrap64 ((k : Int) + 1) = (k : Int) + 1 ∧ IntKind.i64.wrap ((k : Int) + 1) = (k : Int) + 1 := ⟨by unfold wrap64; omega, i64_same (by omega) (by omega)⟩
theorem made_big (y : Nat) : 1 ≤ 1 + y % 9 := by omega
set_option maxHeartbeats 3200000 in
theorem law_pages (nn : Nat) (hnn : nn < 256) (A : Option Addr) (n c : Nat) (bs : List Nat) (y : Nat) (hy : y < 256) (w : World) (ha : Reads w w.heap.size 1 A n (bs.map fun b => .int .u8 ((b : Nat) : Int))) (hbs : ∀ b ∈ bs, b < 256) (hn : n ≤ 9223372036854775807) : Calls Tryz.prog 10 #[.int .u8 (nn : Int), .slice A n c, .int .u8 (y : Int)] w fun e w' => e = .returned (.bool true) ∧ Fr (fun _ => False) w w' := by
  by_cases h80 : 80 < n
  · have p0 : (n : Int) > 80 := by omega
    have p1 : (80 : Int) < (n : Int) := by omega
    clear ha
    go_enter Tryz.func10, Tryz.ntmps10
    go_wp2
    go_ret
    exact ⟨rfl, Fr.refl _ _⟩
  · have p0 : ¬ (n : Int) > 80 := by omega
    have p1 : ¬ (80 : Int) < (n : Int) := by omega
    have HA0 := hide ha
    have HBS := hide hbs
    have HLN := hide (show bs.length = n by have := ha.1; simpa using this)
    have HN80 := hide (show n ≤ 80 by omega)
    obtain ⟨N, hN⟩ : ∃ N, 1 + nn = N := ⟨_, rfl⟩
    have hNi : 1 + (nn : Int) = (N : Int) := by omega
    have hN1 : 1 ≤ N ∧ N ≤ 256 := by omega
    have HN1 := hide hN1
    have hwN : wrap64 (N : Int) = (N : Int) := by unfold wrap64; omega
    have hwN2 : IntKind.i64.wrap (N : Int) = (N : Int) := i64_same (by omega) (by omega)
    have HSP := hide (show SPar N 1 ((N + 7) / 8) from spar_of (by omega) (by omega) (by omega))
    clear ha hbs h80 hN1
    go_enter Tryz.func10, Tryz.ntmps10
    have HMD := hide (made_ok y hy w)
    go_wp2_with fail
    go_at_call 16
    refine HMD.out.mono ?_
    rintro e W1 ⟨cb, fb, X1, rfl, at1, nx1, _, fr1⟩
    have HSN := hide (SLaw.new (K := 0) (room := 60) (segs := (N + 7) / 8) (Z := fun j => j < w.heap.size) at1 (rest_new 60 (by omega) (by omega) _) (fun j hj => Nat.lt_of_lt_of_le hj fr1.size) (fun j hj hz => absurd hz (Nat.not_lt.2 (nx1 j hj))) [118] name_v N 1 HSP.out rfl (by have := HN1.out; simp [total]; omega) (made_big y) (by simp))
    have HF1 := hide fr1
    clear at1 nx1 fr1 HMD
    go_wp2_with fail
    go_at_call 41
    refine HSN.out.mono ?_
    rintro e W2 ⟨sb, rfl, hl2, hf2⟩
    have HL2 := hide hl2
    have HF2 := hide (HF1.out.then_ hf2)
    clear hl2 hf2 HSN HF1
    go_wp2
    obtain ⟨W3, hW3⟩ : ∃ W3, W3 = W2.alloc (.cells #[.bool false, .bool false, .bool false, .bool false, .bool false, .bool false, .bool false, .bool false, .bool false, .bool false, .bool false, .bool false, .bool false, .bool false, .bool false, .bool false, .bool false, .bool false, .bool false, .bool false, .bool false, .bool false, .bool false, .bool false, .bool false, .bool false, .bool false, .bool false, .bool false, .bool false, .bool false, .bool false] 76) := ⟨_, rfl⟩
    rw [← hW3]
    have hf3 : Fr (fun _ => False) W2 W3 := by rw [hW3]; exact (Fr.refl _ _).alloc _
    obtain ⟨wb, hwb⟩ : ∃ wb, W2.heap.size = wb := ⟨_, rfl⟩
    rw [hwb]
    have HB3 : Hid (Blk W3 wb 76 (wcells [])) := by rw [hW3, ← hwb]; exact Blk.new W2 76 _
    have HL3 := hide (HL2.out.more hf3 wb (by omega) (by have := HB3.out.lt; omega))
    have HF3 := hide ((HF2.out.then_ hf3).mono (S' := fun j => ¬ j < w.heap.size) (fun _ h => h.elim))
    have HWB := hide (show ¬ wb < w.heap.size by have := HF2.out.size; omega)
    clear hW3 hf3 hwb HL2 HF2
    go_loopw [12, 13, 14] (fun a p i wr => ∃ (k : Nat) (lz : Int) (t : SSt) (s : CSt), a = .int .i64 lz ∧ p = .int .i64 (t.PK.length : Int) ∧ i = .int .i64 (k : Int) ∧ k ≤ n ∧ SLaw (fun j => j < w.heap.size ∨ j = wb) wr sb cb fb [118] N 1 ((N + 7) / 8) 60 (1 + y % 9) k t s ∧ s.left = -1 ∧ Blk wr wb 76 (wcells t.PK) ∧ Fr (fun j => ¬ j < w.heap.size) w wr ∧ ((lz = -1 ∧ t.T = [] ∧ t.PK = []) ∨ ∃ (k0 : Nat) (v : List Nat), lz = (k0 : Int) ∧ k0 < 32 ∧ t.T = [⟨k0, v, true⟩])) (fun _ _ i _ => n - (intOf i).toNat)
    case atStart => exact ⟨0, -1, ⟨[], []⟩, _, rfl, rfl, rfl, by omega, HL3.out, rfl, HB3.out, HF3.out, .inl ⟨rfl, rfl, rfl⟩⟩
    case round =>
      obtain ⟨k, lz, t, s, rfl, rfl, rfl, hk, hst, hlf, hbw, hfr, hlast⟩ := hrel
      have HS := hide hst
      have HLF := hide hlf
      have HBW := hide hbw
      have HFR := hide hfr
      clear hst hlf hbw hfr HL3 HB3 HF3
      by_cases hlt : k < n
      · have u0 : (k : Int) < (n : Int) := by omega
        have u1 : (0 : Int) ≤ (k : Int) := by omega
        have hkb : k < bs.length := by rw [HLN.out]; exact hlt
        obtain ⟨b, o, u, rfl, hbB, hxu, hcu⟩ := (HA0.out.fr HFR.out.down (Nat.le_refl _) (fun _ h => h.elim)).at_ hlt
        rw [List.getElem?_map, List.getElem?_eq_getElem hkb] at hxu
        obtain rfl := Option.some.inj hxu
        have hb256 := HBS.out _ (List.getElem_mem hkb)
        generalize bs[k] = bv at *
        have hN0 := HN1.out
        have hkb1 : k ≤ 1000000 := by have := HN80.out; omega
        have hkb2 : k < 18446744073709551616 := by have := HN80.out; omega
        obtain ⟨m, q, hmN, hq, hq32, m0, m1, m2, ⟨m3, m4⟩, q0, q1, q2⟩ := seg_ix bv N HN1.out
        obtain ⟨v1, v2⟩ := small_ok hb256
        obtain ⟨⟨k1, k2⟩, ⟨k3, k4⟩, k5⟩ := ix_small k n hlt HN80.out
        have HG := hide (HS.out.set HSP.out hkb1 m k hmN hkb2)
        rw [hq] at HG
        have HQ := hide hq32
        clear hq hq32 hmN hb256 hkb1 hkb2 hN0
        go_wp2_with fail
        go_at_call 42
        refine HG.out.mono ?_
        rintro e W4 (⟨rfl, t1, s1, has, hl, hkp, _, hff⟩ | ⟨_, h0, _⟩)
        rotate_left
        · exact absurd (HLF.out.symm.trans h0) (by decide)
        obtain ⟨t2, ht2⟩ : ∃ t2 : SSt, { t1 with T := tset q (m % 8) k t1.T } = t2 := ⟨_, rfl⟩
        rw [ht2] at hl hkp
        have HS4 := hide hl
        have HLF4 := hide (hkp.lft HLF.out)
        have HBW4 := hide (HBW.out.fr hff (fun h => h (.inr rfl)))
        have HFR4 := hide (HFR.out.trans hff (fun j h => .inl (fun hj => h (.inl hj))))
        have HT2 := hide (show t2.PK = t1.PK ∧ t2.T = tset q (m % 8) k t1.T by rw [← ht2]; exact ⟨rfl, rfl⟩)
        have HAS := hide has
        clear hl hkp hff ht2 has HG HS HBW HFR
        rcases hlast with ⟨rfl, hT, hPK⟩ | ⟨k0, v, rfl, hk0, hT⟩
        · have HT1 := hide (ask_none HAS.out hT)
          have HPK0 := hide hPK
          have n1 : ((q : Int) != -1) = true := ne_m1 q
          have HPT : Hid (t2.PK = []) := by show _ = _; rw [HT2.out.1, HT1.out.2, HPK0.out]
          have HV : Hid (∃ v, t2.T = [⟨q, v, true⟩]) := by
            obtain ⟨v, hv⟩ := HT1.out.1
            exact ⟨v.set (m % 8) k, by rw [HT2.out.2, hv]; simp [tset]⟩
          have hp0 : ((t.PK.length : Nat) : Int) = 0 := by rw [hPK]; rfl
          have HBX : Hid (Blk W4 wb 76 (wcells t2.PK)) := by show Blk _ _ _ _; rw [HPT.out, ← HPK0.out]; exact HBW4.out
          clear hT hPK
          have HFS := hide HS4.out.fs
          have HPGS := hide HS4.out.pages
          rw [HPT.out, show ((([] : List Nat).length : Nat) : Int) = 0 from rfl] at HPGS
          have HRES := hide HS4.out.res
          rw [show ((t2.T.length : Nat) : Int) = 1 by obtain ⟨v, hv⟩ := HV.out; rw [hv]; rfl] at HRES
          skip
          go_wp2_with fail
          go_at_call 18
          refine HFS.out.mono ?_
          rintro e w9 ⟨rfl, rfl⟩
          go_wp2_with fail
          go_at_call 43
          refine HPGS.out.mono ?_
          rintro e w9 ⟨rfl, rfl⟩
          go_wp2_with fail
          go_at_call 44
          refine HRES.out.mono ?_
          rintro e w9 ⟨rfl, rfl⟩
          go_wp2
          go_roundw
          case rel =>
            obtain ⟨v2, hv2⟩ := HV.out
            exact ⟨k + 1, (q : Int), t2, s1, rfl, by rw [HPT.out]; rfl, by go_num, hlt, HS4.out, HLF4.out, HBX.out, HFR4.out, .inr ⟨q, v2, rfl, HQ.out, hv2⟩⟩
          case measure => clear v1 v2 m3 m4 q1 q2 k1 k2 k3 k4 k5 q0 m0; simp [intOf]; omega
        · rcases ask_one HAS.out hT with ⟨hkq, ht1⟩ | ⟨hkq, hv1, hpk1⟩
          · have hk0q : k0 = q := hkq
            subst hk0q
            have HPT : Hid (t2.PK = t.PK) := by show _ = _; rw [HT2.out.1, ht1]
            have HV : Hid (∃ v, t2.T = [⟨k0, v, true⟩]) := ⟨v.set (m % 8) k, by rw [HT2.out.2, ht1, hT]; simp [tset]⟩
            have HBX : Hid (Blk W4 wb 76 (wcells t2.PK)) := by show Blk _ _ _ _; rw [HPT.out]; exact HBW4.out
            clear hT hkq ht1
            have HFS := hide HS4.out.fs
            have HPGS := hide HS4.out.pages
            rw [HPT.out] at HPGS
            have HRES := hide HS4.out.res
            rw [show ((t2.T.length : Nat) : Int) = 1 by obtain ⟨v, hv⟩ := HV.out; rw [hv]; rfl] at HRES
            skip
            go_wp2_with fail
            go_at_call 18
            refine HFS.out.mono ?_
            rintro e w9 ⟨rfl, rfl⟩
            go_wp2_with fail
            go_at_call 43
            refine HPGS.out.mono ?_
            rintro e w9 ⟨rfl, rfl⟩
            go_wp2_with fail
            go_at_call 44
            refine HRES.out.mono ?_
            rintro e w9 ⟨rfl, rfl⟩
            go_wp2
            go_roundw
            case rel =>
              obtain ⟨v2, hv2⟩ := HV.out
              exact ⟨k + 1, (k0 : Int), t2, s1, rfl, by rw [HPT.out], by go_num, hlt, HS4.out, HLF4.out, HBX.out, HFR4.out, .inr ⟨k0, v2, rfl, HQ.out, hv2⟩⟩
            case measure => clear v1 v2 m3 m4 q1 q2 k1 k2 k3 k4 k5 q0 m0; simp [intOf]; omega
          · have hkq2 : ¬ k0 = q := hkq
            have HPK : Hid (t2.PK = spk t.PK k0) := by show _ = _; rw [HT2.out.1, hpk1]; rfl
            have HV : Hid (∃ v, t2.T = [⟨q, v, true⟩]) := by
              obtain ⟨v, hv⟩ := hv1
              exact ⟨v.set (m % 8) k, by rw [HT2.out.2, hv]; simp [tset]⟩
            obtain ⟨n1, n2, n3, n4, n5⟩ := ne_facts hkq2 hk0
            have hcw : W4.cell? ⟨wb, k0, none⟩ = some (.bool (decide (k0 ∈ t.PK))) := (HBW4.out.cell k0).trans (wcells_get hk0)
            have hfz : W4.frozen? ⟨wb, k0, none⟩ = false := HBW4.out.frozen k0
            by_cases hin : k0 ∈ t.PK
            · rw [decide_eq_true hin] at hcw
              have HPT : Hid (t2.PK = t.PK) := by show _ = _; rw [HPK.out]; unfold spk; rw [if_pos hin]
              have HBX : Hid (Blk W4 wb 76 (wcells t2.PK)) := by show Blk _ _ _ _; rw [HPT.out]; exact HBW4.out
              clear hT hkq hv1 hpk1 hin hkq2 hk0
              have HFS := hide HS4.out.fs
              have HPGS := hide HS4.out.pages
              rw [HPT.out] at HPGS
              have HRES := hide HS4.out.res
              rw [show ((t2.T.length : Nat) : Int) = 1 by obtain ⟨v, hv⟩ := HV.out; rw [hv]; rfl] at HRES
              skip
              go_wp2_with fail
              go_at_call 18
              refine HFS.out.mono ?_
              rintro e w9 ⟨rfl, rfl⟩
              go_wp2_with fail
              go_at_call 43
              refine HPGS.out.mono ?_
              rintro e w9 ⟨rfl, rfl⟩
              go_wp2_with fail
              go_at_call 44
              refine HRES.out.mono ?_
              rintro e w9 ⟨rfl, rfl⟩
              go_wp2
              go_roundw
              case rel =>
                obtain ⟨v2, hv2⟩ := HV.out
                exact ⟨k + 1, (q : Int), t2, s1, rfl, by rw [HPT.out], by go_num, hlt, HS4.out, HLF4.out, HBX.out, HFR4.out, .inr ⟨q, v2, rfl, HQ.out, hv2⟩⟩
              case measure => clear v1 v2 m3 m4 q1 q2 k1 k2 k3 k4 k5 q0 m0; simp [intOf]; omega
            · rw [decide_eq_false hin] at hcw
              have HPT : Hid (t2.PK = t.PK ++ [k0]) := by show _ = _; rw [HPK.out]; unfold spk; rw [if_neg hin]
              have HPL := hide (show t.PK.length + 1 ≤ 32 by
                have := keys_lt HS4.out.ok.inv.pnd HS4.out.ok.inv.plt
                rw [HPT.out, List.length_append] at this
                simp only [List.length_singleton] at this
                have := HN1.out
                clear v1 v2 m3 m4 q1 q2 k1 k2 k3 k4 k5 q0 m0
                omega)
              obtain ⟨l1, l2⟩ := len_small t.PK.length HPL.out
              have hfs : Fr (fun j => j = wb) W4 (W4.setCell ⟨wb, k0, none⟩ (.bool true)) := Fr.one W4 wb k0 (.bool true)
              have HS5 := hide (HS4.out.keep hfs (fun j e => .inr e))
              have HBX : Hid (Blk (W4.setCell ⟨wb, k0, none⟩ (.bool true)) wb 76 (wcells t2.PK)) := by show Blk _ _ _ _; rw [HPK.out, ← wcells_set]; exact HBW4.out.set_ k0 _
              have HFR5 := hide (HFR4.out.trans hfs (fun j e => .inl (by rw [e]; exact HWB.out)))
              clear hT hkq hv1 hpk1 hin hkq2 hk0 hfs
              have HFS := hide HS5.out.fs
              have HPGS := hide HS5.out.pages
              rw [HPT.out, show (((t.PK ++ [k0]).length : Nat) : Int) = (t.PK.length : Int) + 1 by simp] at HPGS
              have HRES := hide HS5.out.res
              rw [show ((t2.T.length : Nat) : Int) = 1 by obtain ⟨v, hv⟩ := HV.out; rw [hv]; rfl] at HRES
              skip
              go_wp2_with fail
              go_at_call 18
              refine HFS.out.mono ?_
              rintro e w9 ⟨rfl, rfl⟩
              go_wp2_with fail
              go_at_call 43
              refine HPGS.out.mono ?_
              rintro e w9 ⟨rfl, rfl⟩
              go_wp2_with fail
              go_at_call 44
              refine HRES.out.mono ?_
              rintro e w9 ⟨rfl, rfl⟩
              go_wp2
              go_roundw
              case rel =>
                obtain ⟨v2, hv2⟩ := HV.out
                exact ⟨k + 1, (q : Int), t2, s1, rfl, by rw [HPT.out]; simp, by go_num, hlt, HS5.out, HLF4.out, HBX.out, HFR5.out, .inr ⟨q, v2, rfl, HQ.out, hv2⟩⟩
              case measure => clear v1 v2 m3 m4 q1 q2 k1 k2 k3 k4 k5 q0 m0; simp [intOf]; omega
      · obtain rfl : k = n := by omega
        have HDO := hide (does15_true wr)
        go_wp2_with fail
        go_at_call 45
        refine HDO.out.mono ?_
        rintro e W9 ⟨rfl, hf9⟩
        have HF9 := hide (HFR.out.down.then_ hf9)
        clear hf9
        go_wp2
        go_ret
        exact ⟨rfl, HF9.out⟩
end Go.Proofs.YtkhbemmcegmdaaaGreatDoor
end
