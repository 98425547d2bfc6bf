/- CacheOldest, by contract. -/
import Derived.Test.YtkhbemmcegmdaaaGreatDoorLwMost
set_option linter.all false
set_option linter.unusedVariables false
set_option maxRecDepth 100000
namespace Go.Proofs.YtkhbemmcegmdaaaGreatDoor
open Go.RowKit

--PURE
def oF (k : Nat) : FileL := if k = 0 then [] else [([102], (List.range k).map fun i => encB [UInt8.ofNat i])]
theorem oF_pg (k : Nat) : fpg [102] (oF k) = (List.range k).map fun i => encB [UInt8.ofNat i] := by
  unfold oF
  by_cases h : k = 0
  · subst h; rfl
  · rw [if_neg h]; simp [fpg]
theorem oF_total (k : Nat) : total (oF k) = k := by
  unfold oF
  by_cases h : k = 0
  · subst h; rfl
  · rw [if_neg h]; simp [total]
theorem oput {k : Nat} (hk : k < 12) (hn : nameB [102] = true) : fsput 60 (oF k) [102] (k : Int) (encB [UInt8.ofNat k]) = (0, oF (k + 1)) := by
  have hl : (encB [UInt8.ofNat k]).length = 128 := encB_len (by simp)
  have hpl : (fpg [102] (oF k)).length = k := by rw [oF_pg]; simp
  unfold fsput
  rw [if_neg (by simp [hn, hl, hpl]), if_neg (by rw [hpl]; omega), if_neg (by rw [oF_total]; omega)]
  congr 1
  rw [oF_pg]
  have e1 : oF (k + 1) = [([102], (List.range (k + 1)).map fun i => encB [UInt8.ofNat i])] := by unfold oF; rw [if_neg (by omega)]
  rw [e1]
  by_cases h : k = 0
  · subst h; simp [oF, fput]
  · have e2 : oF k = [([102], (List.range k).map fun i => encB [UInt8.ofNat i])] := by unfold oF; rw [if_neg h]
    rw [e2]
    unfold fput
    rw [if_pos (by simp)]
    simp [List.range_succ]
theorem oinv {k : Nat} (hk : k ≤ 12) (hn : nameB [102] = true) : FInv 60 (oF k) := by
  refine ⟨by rw [oF_total]; omega, by omega, fun p hp => ?_, fun p hp => ?_⟩
  · unfold oF at hp
    split at hp
    · cases hp
    · rw [List.mem_singleton] at hp; rw [hp]; exact hn
  · unfold oF at hp
    split at hp
    · cases hp
    · next h =>
      rw [List.mem_singleton] at hp; rw [hp]
      refine ⟨by simp [h], fun s hs => ?_⟩
      obtain ⟨i, _, rfl⟩ := List.mem_map.1 hs
      exact encB_len (by simp)
theorem ond (k : Nat) : ((oF k).map (·.1)).Nodup := by
  unfold oF
  split <;> simp
theorem orep (most : Nat) (c : Nat) : OldRep [102] most [] ⟨-1, oF 12, [], c⟩ := by
  refine ⟨rfl, by simp, by simp, by simp, fun k hk => ?_, rfl⟩
  rw [oF_pg]
  refine ⟨by simp; omega, ?_⟩
  simp [List.getD, hk]
/-- what the inner loop has gathered -/
def gath (k j : Nat) (last : List Nat) : List Nat := k :: (last.take j).filter fun x => decide (x ≠ k)
theorem gath_end {k j most : Nat} {last : List Nat} (h1 : (gath k j last).length ≤ most) (h2 : j ≤ last.length) (h3 : j = last.length ∨ (gath k j last).length = most) : gath k j last = (k :: last.filter fun x => decide (x ≠ k)).take most := by
  have hpre : gath k j last <+: (k :: last.filter fun x => decide (x ≠ k)) := by
    unfold gath
    have : last.take j <+: last := List.take_prefix j last
    exact List.cons_prefix_cons.2 ⟨rfl, this.filter _⟩
  rcases h3 with h3 | h3
  · subst h3
    have e : gath k last.length last = k :: last.filter fun x => decide (x ≠ k) := by unfold gath; rw [List.take_length]
    rw [e] at h1 ⊢
    rw [List.take_of_length_le h1]
  · rw [← h3]
    exact List.prefix_iff_eq_take.1 hpre
theorem gath_succ {k j x : Nat} {last : List Nat} (h : last[j]? = some x) : gath k (j + 1) last = if x ≠ k then gath k j last ++ [x] else gath k j last := by
  unfold gath
  rw [List.take_add_one, h, List.filter_append]
  by_cases e : x ≠ k
  · rw [if_pos e]; simp [e]
  · rw [if_neg e]; simp [e]
--ENDPURE
def ivals (l : List Nat) : List Value := l.map fun v : Nat => .int .i64 (v : Int)
theorem int_info : (Tryz.prog.info? 3).map (fun i => (i.zero, i.size, i.bytes)) = some (some (.int .i64 0), 1, 8) := by kernel_rfl
theorem cget_clk (most : Nat) (k : CKey) (s : CSt) (hn : (s.L.map (·.key)).Nodup) : (cget most k s).2.2.clk ≤ s.clk + 1 := by
  unfold cget
  split <;> exact cfind_clk most k s hn
theorem own_one (w : World) (v : Value) (base : Nat) (hb : base ≤ w.heap.size) : (w.alloc (.cells #[v] 3)).ownsRow base 3 1 (.slice (some ⟨w.heap.size, 0, none⟩) 1 1) 1 [v] :=
  ⟨rfl, .inr ⟨w.heap.size, 1, #[v], rfl, hb, heap_alloc_new w _, Nat.le_refl _, by unfold maxLen; omega, rfl, rfl⟩⟩
theorem own_cap {w : World} {base n c : Nat} {A : Option Addr} {e : TypeId} {xs : List Value} (h : w.ownsRow base e 1 (.slice A n c) n xs) : n ≤ c := by
  rcases h.2 with ⟨h1, _⟩ | ⟨g, cap, cur, h1, _, _, h2, _⟩
  · injection h1 with _ h1 _
    omega
  · injection h1 with _ _ h1
    omega
set_option maxHeartbeats 3200000 in
theorem law_old (y : Nat) (hy : y < 256) (A : Option Addr) (n c : Nat) (bs : List Nat) (w : World) (ha : Reads w w.heap.size 1 A n (bs.map fun b => .int .u8 ((b : Nat) : Int))) (hbs : ∀ b ∈ bs, b < 256) (hn : n ≤ 9223372036854775807) : Calls Tryz.prog 3 #[.int .u8 (y : Int), .slice A n c] w fun e w' => e = .returned (.bool true) ∧ Fr (fun _ => False) w w' := by
  by_cases h40 : 40 < n
  · have p0 : (n : Int) > 40 := by omega
    have p1 : (40 : Int) < (n : Int) := by omega
    have HDO := hide (does07_true w)
    clear ha
    go_enter Tryz.func3, Tryz.ntmps3
    go_wp2_with fail
    go_at_call 15
    refine HDO.out.mono ?_
    rintro e W9 ⟨rfl, hf9⟩
    have HF9 := hide hf9
    clear hf9
    go_wp2
    go_ret
    exact ⟨rfl, HF9.out⟩
  · have p0 : ¬ (n : Int) > 40 := by omega
    have p1 : ¬ (40 : Int) < (n : Int) := by omega
    have HA0 := hide ha
    have HBS := hide hbs
    have hM : ((1 + y % 9 : Nat) : Int) = 1 + (y : Int) % 9 := by omega
    have hMt : Int.tmod ((y : Nat) : Int) 9 = (y : Int) % 9 := by rw [Int.tmod_eq_emod_of_nonneg (by omega)]
    have HLN := hide (show bs.length = n by have := ha.1; simpa using this)
    clear ha hbs
    obtain ⟨i1, hj, hj0, hj1, hj2⟩ := info_parts int_info
    have hsm : True := trivial
    go_enter Tryz.func3, Tryz.ntmps3
    have HSM := hide hsm
    clear hsm
    have HMD := hide (made_ok y hy w)
    go_wp2_with fail
    go_at_call 16
    refine HMD.out.mono ?_
    rintro e W1 ⟨cb, fb, X1, rfl, at1, nx1, _, fr1⟩
    have HS1 : Hid (St 60 (1 + y % 9) w W1 cb fb X1 ⟨-1, [], [], 0⟩) := ⟨at1, made_inv y, nx1, fr1⟩
    clear at1 nx1 fr1 HMD
    go_wp2
    go_loopw [6] (fun i wr => ∃ (k : Nat) (X : Nat → Prop), i = .int .i64 (k : Int) ∧ k ≤ 12 ∧ St 60 (1 + y % 9) w wr cb fb X ⟨-1, oF k, [], 0⟩) (fun i _ => 12 - (intOf i).toNat)
    case atStart => exact ⟨0, X1, rfl, by omega, HS1.out⟩
    case round =>
      obtain ⟨k, X, rfl, hk, hst⟩ := hrel
      have HS := hide hst
      clear hst HS1
      by_cases hlt : k < 12
      · have u0 : (k : Int) < 12 := by omega
        have hwr : IntKind.u8.wrap (k : Int) = (k : Int) := by simp only [IntKind.wrap, IntKind.bits, IntKind.signed]; simp; omega
        have hch := char_str k (by omega) wr
        have HE := hide (fun W => pg_enc ⟨#[UInt8.ofNat k]⟩ (by show (#[UInt8.ofNat k] : Array UInt8).size ≤ 122; simp) W)
        rw [show ((⟨#[UInt8.ofNat k]⟩ : ByteArray)).data.toList = [UInt8.ofNat k] from rfl] at HE
        have HF5 : Hid (Fr (fun _ => False) wr (wr.alloc (.cells #[.int .u8 (k : Int)] 5))) := (Fr.refl _ _).alloc _
        go_wp2_with fail
        go_at_call 17
        refine (HE.out _).mono ?_
        rintro e W6 ⟨rfl, hf6⟩
        have HS6 := hide (HS.out.up (HF5.out.then_ hf6))
        have HCF := hide (cfs_ok HS6.out.at_)
        have HP := hide (HS6.out.at_.lift (fun XF hat => fput_any hat HS6.out.inv.fs [102] (k : Int) (encB [UInt8.ofNat k]) (by simp) (by rw [encB_len (by simp)]; omega)))
        simp only at HP
        rw [oput hlt name_f] at HP
        clear hf6
        go_wp2_with fail
        go_at_call 18
        refine HCF.out.mono ?_
        rintro e w9 ⟨rfl, rfl⟩
        go_wp2_with fail
        go_at_call 19
        refine HP.out.mono ?_
        rintro e W7 ⟨rfl, ⟨X7, at7, nx7⟩, fr7⟩
        have HS7 := hide (HS6.out.step at7 nx7 fr7 (HS6.out.inv.setF ⟨oinv (k := k + 1) (by omega) name_f, ond _⟩))
        clear at7 nx7 fr7 HP HS6 HS
        go_wp2
        go_roundw
        case rel => exact ⟨k + 1, X7, by go_num, by omega, HS7.out⟩
        case measure => simp [intOf]; omega
      · obtain rfl : k = 12 := by omega
        go_wp2
        go_loopw [9, 10] (fun sv i wr => ∃ (k : Nat) (l : List Nat) (X : Nat → Prop) (s : CSt) (A' : Option Addr) (q c' : Nat), i = .int .i64 (k : Int) ∧ sv = .slice A' q c' ∧ k ≤ n ∧ l.length = q ∧ q ≤ c' ∧ St 60 (1 + y % 9) w wr cb fb X s ∧ s.clk ≤ k ∧ OldRep [102] (1 + y % 9) l s ∧ Reads wr wr.heap.size 1 A' q (ivals l.reverse) ∧ ∀ b o, A' = some ⟨b, o, none⟩ → ¬ X b ∧ b < wr.heap.size) (fun _ i _ => n - (intOf i).toNat)
        case atStart => exact ⟨0, [], X, _, none, 0, 0, rfl, rfl, by omega, rfl, Nat.le_refl _, HS.out, by simp, orep _ _, Reads.none_, fun b o h => by cases h⟩
        case round =>
          obtain ⟨k, l, X, s, A', q, c', rfl, rfl, hk, hq, hqc, hst, hclk, hor, hrd, hax⟩ := hrel
          have HS2 := hide hst
          have HO := hide hor
          have HRD := hide hrd
          have HAX := hide hax
          have hqM : q ≤ 1 + y % 9 := by rw [← hq]; exact hor.len
          have HQ := hide hq
          clear hst HS hor hrd hq hax
          by_cases hlt : k < n
          · have u0 : (k : Int) < (n : Int) := by omega
            have u1 : (0 : Int) ≤ (k : Int) := by omega
            have hkb : k < bs.length := by rw [HLN.out]; exact hlt
            obtain ⟨b, o, u, rfl, hbB, hxu, hcu⟩ := (HA0.out.fr HS2.out.fr (Nat.le_refl _) (fun _ h => h.elim)).at_ hlt
            rw [List.getElem?_map, List.getElem?_eq_getElem hkb] at hxu
            obtain rfl := Option.some.inj hxu
            have hb256 := HBS.out _ (List.getElem_mem hkb)
            generalize bs[k] = bv at *
            obtain ⟨m, hm⟩ : ∃ m, bv % 12 = m := ⟨_, rfl⟩
            have hm1 : ((bv : Nat) : Int) % 12 = (m : Int) := by omega
            have hm2 : Int.tmod ((bv : Nat) : Int) 12 = (m : Int) := by rw [Int.tmod_eq_emod_of_nonneg (by omega)]; exact hm1
            have hm12 : m < 12 := by omega
            have HG := hide (cget_ok HS2.out.at_ HS2.out.inv ([102], (m : Int)) (by omega))
            have HIV := hide (HS2.out.inv.got (by omega) ([102], (m : Int)))
            have HCK := hide (cget_clk (1 + y % 9) ([102], (m : Int)) s HS2.out.inv.nd)
            obtain ⟨e1, e2, e3⟩ := HO.out.step (k := m) (by omega) hm12
            obtain ⟨r, hr⟩ : ∃ r, cget (1 + y % 9) ([102], (m : Int)) s = r := ⟨_, rfl⟩
            rw [hr] at HG HIV HCK e1 e2 e3
            rw [e1, e2] at HG
            have HO4 := hide e3
            clear hr e1 e2 e3 hm hm1 hxu
            go_wp2_with fail
            go_at_call 20
            refine HG.out.mono ?_
            rintro e W4 ⟨rfl, ⟨X4, at4, nx4⟩, fr4⟩
            have HS4 := hide (HS2.out.step at4 nx4 fr4 HIV.out)
            have hX4 := at4.lt
            clear at4 HG
            have HRD4 : Hid (Reads W4 W4.heap.size 1 A' q (ivals l.reverse)) := by
              refine ⟨HRD.out.1, fun h0 => ?_⟩
              obtain ⟨b', o', e', hb', hc'⟩ := HRD.out.2 h0
              exact ⟨b', o', e', Nat.lt_of_lt_of_le hb' fr4.size, fun j v hv => fr4.cell (hc' j v hv) (HAX.out b' o' e').1⟩
            have hAX4 : ∀ b o, A' = some ⟨b, o, none⟩ → ¬ X4 b := fun b' o' e' hx => by
              rcases nx4 b' hx with h | h
              · exact (HAX.out b' o' e').1 h
              · have := (HAX.out b' o' e').2; omega
            clear nx4 fr4
            have hwr : IntKind.u8.wrap (m : Int) = (m : Int) := by simp only [IntKind.wrap, IntKind.bits, IntKind.signed]; simp; omega
            have hch := char_str m (by omega) W4
            have HLL := hide (show (l.reverse).length = q by rw [List.length_reverse]; exact HQ.out)
            have HOR := hide (onext_rev (most := 1 + y % 9) (k := m) HO.out.nd HO.out.len (by omega))
            obtain ⟨la, hla⟩ : ∃ la, l.reverse = la := ⟨_, rfl⟩
            rw [hla] at HRD4 HLL HOR
            go_wp2
            go_loopw [14, 15] (fun sv j wq => ∃ (u : Nat) (A2 : Option Addr) (q2 c2 : Nat), j = .int .i64 (u : Int) ∧ sv = .slice A2 q2 c2 ∧ u ≤ q ∧ q2 ≤ 1 + y % 9 ∧ (gath m u la).length = q2 ∧ Hid (wq.ownsRow W4.heap.size 3 1 (.slice A2 q2 c2) q2 (ivals (gath m u la)) ∧ Fr (fun _ => False) W4 wq)) (fun _ j _ => q - (intOf j).toNat)
            case atStart =>
              refine ⟨0, _, 1, 1, rfl, rfl, by omega, by omega, by simp [gath], ?_, ?_⟩
              · have := own_one (W4.alloc (.cells #[.int .u8 (m : Int)] 5)) (.int .i64 (m : Int)) W4.heap.size (by simp)
                simpa [gath, ivals] using this
              · exact ((Fr.refl _ _).alloc _).alloc _
            case round =>
              obtain ⟨u, A2, q2, c2, rfl, rfl, hu, hq2, hgl, hown, hfr⟩ := hrel
              have HOW := hide hown
              have HFW := hide hfr
              have HGL := hide hgl
              clear hown hfr hgl
              by_cases hc1 : u < q
              · have v0 : decide ((u : Int) < (q : Int)) = true := by simp; omega
                have v0' : (u : Int) < (q : Int) := by omega
                by_cases hc2 : q2 < 1 + y % 9
                · have v1 : decide ((q2 : Int) < 1 + (y : Int) % 9) = true := by simp; omega
                  have v1' : (q2 : Int) < 1 + (y : Int) % 9 := by omega
                  have hul : u < la.length := by rw [HLL.out]; exact hc1
                  obtain ⟨b9, o9, x9, rfl, _, hx9, hcx⟩ := (HRD4.out.fr HFW.out (Nat.le_refl _) (fun _ h => h.elim)).at_ hc1
                  unfold ivals at hx9
                  rw [List.getElem?_map, List.getElem?_eq_getElem hul] at hx9
                  obtain rfl := Option.some.inj hx9
                  have HGS := hide (gath_succ (k := m) (j := u) (x := la[u]) (last := la) (List.getElem?_eq_getElem hul))
                  generalize la[u] = xv at *
                  have v2 : (0 : Int) ≤ (u : Int) := by omega
                  clear hx9
                  by_cases hxm : xv = m
                  · have v3 : ((xv : Int) == (m : Int)) = true := by simp; omega
                    have v4 : ((xv : Int) != (m : Int)) = false := by simp; omega
                    go_wp2
                    go_roundw
                    case rel =>
                      have e : gath m (u + 1) la = gath m u la := by rw [HGS.out, if_neg (by simpa using hxm)]
                      refine ⟨u + 1, A2, q2, c2, by go_num, rfl, by omega, hq2, by rw [e]; exact HGL.out, by rw [e]; exact HOW.out, HFW.out⟩
                    case measure => simp [intOf]; omega
                  · have v3 : ((xv : Int) == (m : Int)) = false := by simp; omega
                    have v4 : ((xv : Int) != (m : Int)) = true := by simp; omega
                    have hown := HOW.out
                    have HXM := hide hxm
                    clear hxm
                    go_wp2_with (at_builtin; refine wpList_append_box wr _ _ rfl (.tmp 100) (.tmp 105) _ rfl W4.heap.size 3 i1 _ 1 8 Tryz.underlying32 hj hj0 hj1 hj2 rfl (by decide) _ _ _ rfl hown rfl rfl ?c1 ?c2 ?c3 ?c4 ?c5)
                    case c1 => simp [Value.oneCell']
                    case c2 => unfold maxLen; omega
                    case c3 => omega
                    case c4 => exact HFW.out.size
                    case c5 =>
                      intro v5 w5 hown5 hg5 hn5
                      obtain ⟨A5, c5, rfl⟩ := Reads.own_val hown5
                      have e : gath m (u + 1) la = gath m u la ++ [xv] := by rw [HGS.out, if_pos (by simpa using HXM.out)]
                      have HO5 := hide (show w5.ownsRow W4.heap.size 3 1 (.slice A5 (q2 + 1) c5) (q2 + 1) (ivals (gath m (u + 1) la)) by
                        rw [e, show ivals (gath m u la ++ [xv]) = ivals (gath m u la) ++ [.int .i64 (xv : Int)] by simp [ivals]]
                        exact hown5)
                      have HF5 := hide (HFW.out.grown hg5 (fun k hk => .inr ((hown.lt k hk).1)))
                      have HQ5 := hide (show (gath m (u + 1) la).length = q2 + 1 by rw [e, List.length_append, HGL.out]; rfl)
                      clear hown5 hg5 hn5 hown e
                      go_wp2
                      go_roundw
                      case rel => exact ⟨u + 1, A5, q2 + 1, c5, by go_num, rfl, by omega, by omega, HQ5.out, HO5.out, HF5.out⟩
                      case measure => simp [intOf]; omega
                · have v1 : decide ((q2 : Int) < 1 + (y : Int) % 9) = false := by simp; omega
                  have v1' : ¬ (q2 : Int) < 1 + (y : Int) % 9 := by omega
                  have hge : gath m u la = (onext (1 + y % 9) m l).reverse := by
                    rw [HOR.out]
                    exact gath_end (by rw [HGL.out]; exact hq2) (by rw [HLL.out]; exact hu) (by rw [HGL.out, HLL.out]; omega)
                  go_wp2
                  have hlt5 := HOW.out
                  refine ⟨⟨_, _, _, ⟨k + 1, ?zze, onext (1 + y % 9) m l, X4, r.2.2, A2, q2, c2, rfl, by omega, ?zzl, own_cap hlt5, HS4.out.up HFW.out, by have := HCK.out; omega, HO4.out, ?zzr, ?zzx⟩, rfl, rfl, rfl⟩, ?zzm⟩
                  case zze => go_num
                  case zzl => rw [← List.length_reverse, ← hge]; exact HGL.out
                  case zzr => rw [← hge]; exact Reads.of_own hlt5
                  case zzx =>
                    intro b2 o2 e2
                    subst e2
                    have := hlt5.lt b2 rfl
                    exact ⟨fun hx => by have := hX4 b2 hx; omega, by omega⟩
                  case zzm => simp [intOf]; omega
              · have v0 : decide ((u : Int) < (q : Int)) = false := by simp; omega
                have v0' : ¬ (u : Int) < (q : Int) := by omega
                have hge : gath m u la = (onext (1 + y % 9) m l).reverse := by
                  rw [HOR.out]
                  exact gath_end (by rw [HGL.out]; exact hq2) (by rw [HLL.out]; exact hu) (by rw [HGL.out, HLL.out]; omega)
                go_wp2
                have hlt5 := HOW.out
                refine ⟨⟨_, _, _, ⟨k + 1, ?zze, onext (1 + y % 9) m l, X4, r.2.2, A2, q2, c2, rfl, by omega, ?zzl, own_cap hlt5, HS4.out.up HFW.out, by have := HCK.out; omega, HO4.out, ?zzr, ?zzx⟩, rfl, rfl, rfl⟩, ?zzm⟩
                case zze => go_num
                case zzl => rw [← List.length_reverse, ← hge]; exact HGL.out
                case zzr => rw [← hge]; exact Reads.of_own hlt5
                case zzx =>
                  intro b2 o2 e2
                  subst e2
                  have := hlt5.lt b2 rfl
                  exact ⟨fun hx => by have := hX4 b2 hx; omega, by omega⟩
                case zzm => simp [intOf]; omega
          · obtain rfl : k = n := by omega
            have HLN4 := hide (clen_ok HS2.out.at_)
            rw [show s.L.length = q by rw [HO.out.L, List.length_map]; exact HQ.out] at HLN4
            have HCF := hide (cfs_ok HS2.out.at_)
            have HWR := hide (HS2.out.at_.lift (fun XF hat => ffail_any hat 0))
            rw [show fsfail s.left 0 = (0, 0) from rfl] at HWR
            have hwq : IntKind.i64.wrap ((q : Int) - 1) = (q : Int) - 1 := by simp only [IntKind.wrap, IntKind.bits, IntKind.signed]; simp; omega
            go_wp2_with fail
            go_at_call 21
            refine HLN4.out.mono ?_
            rintro e w9 ⟨rfl, rfl⟩
            go_wp2_with fail
            go_at_call 18
            refine HCF.out.mono ?_
            rintro e w9 ⟨rfl, rfl⟩
            go_wp2_with fail
            go_at_call 22
            refine HWR.out.mono ?_
            rintro e W5 ⟨rfl, ⟨X5, at5, nx5⟩, fr5⟩
            have HS5 := hide (HS2.out.step at5 nx5 fr5 (HS2.out.inv.setL (by decide) (by decide)))
            have HRD5 : Hid (Reads W5 W5.heap.size 1 A' q (ivals l.reverse)) := by
              refine ⟨HRD.out.1, fun h0 => ?_⟩
              obtain ⟨b', o', e', hb', hc'⟩ := HRD.out.2 h0
              exact ⟨b', o', e', Nat.lt_of_lt_of_le hb' fr5.size, fun j v hv => fr5.cell (hc' j v hv) (HAX.out b' o' e').1⟩
            have HAX5 := hide (show ∀ b o, A' = some ⟨b, o, none⟩ → ¬ X5 b ∧ b < W5.heap.size from fun b' o' e' => by
              have h1 := HAX.out b' o' e'
              have := fr5.size
              exact ⟨fun hx => (nx5 b' hx).elim h1.1 (fun h => by omega), by omega⟩)
            have HKS : Hid (∀ m ∈ l, ∃ x ∈ s.L, x.key = ([102], (m : Int))) := fun m hm => ⟨omk [102] m, by rw [HO.out.L]; exact List.mem_map_of_mem hm, rfl⟩
            clear at5 nx5 fr5 HWR HCF HLN4
            go_wp2
            go_loopw [16] (fun j wr => ∃ (u : Nat) (X : Nat → Prop) (s : CSt), j = .int .i64 ((u : Int) - 1) ∧ u ≤ q ∧ St 60 (1 + y % 9) w wr cb fb X s ∧ s.clk ≤ k + (q - u) ∧ (∀ m ∈ l, ∃ x ∈ s.L, x.key = ([102], (m : Int))) ∧ Reads wr wr.heap.size 1 A' q (ivals l.reverse) ∧ ∀ b o, A' = some ⟨b, o, none⟩ → ¬ X b ∧ b < wr.heap.size) (fun j _ => (intOf j + 1).toNat)
            case atStart => exact ⟨q, X5, _, rfl, Nat.le_refl _, HS5.out, by simp only; omega, HKS.out, HRD5.out, HAX5.out⟩
            case round =>
              obtain ⟨u, X6, s6, rfl, hu, hst6, hclk6, hks6, hrd6, hax6⟩ := hrel
              have HS6 := hide hst6
              have HK6 := hide hks6
              have HR6 := hide hrd6
              have HAX6 := hide hax6
              clear hst6 hks6 hrd6 hax6
              by_cases hu0 : 0 < u
              · obtain ⟨v, rfl⟩ : ∃ v, u = v + 1 := ⟨u - 1, by omega⟩
                have e0 : (((v + 1 : Nat) : Int) - 1) = (v : Int) := by omega
                rw [e0]
                have g0 : (v : Int) ≥ 0 := by omega
                have g0' : (0 : Int) ≤ (v : Int) := by omega
                have g1 : (v : Int) < (q : Int) := by omega
                have hvl : v < l.reverse.length := by rw [List.length_reverse, HQ.out]; omega
                obtain ⟨b9, o9, x9, rfl, _, hx9, hcx⟩ := HR6.out.at_ (k := v) (by omega)
                unfold ivals at hx9
                rw [List.getElem?_map, List.getElem?_eq_getElem hvl] at hx9
                obtain rfl := Option.some.inj hx9
                have hxm : l.reverse[v] ∈ l := by
                  have := List.getElem_mem hvl
                  exact List.mem_reverse.1 this
                generalize l.reverse[v] = xv at *
                have HG := hide (cget_ok HS6.out.at_ HS6.out.inv ([102], (xv : Int)) (by omega))
                have HIV := hide (HS6.out.inv.got (by omega) ([102], (xv : Int)))
                have HCK := hide (cget_clk (1 + y % 9) ([102], (xv : Int)) s6 HS6.out.inv.nd)
                have htg := there_got (most := 1 + y % 9) (k := ([102], (xv : Int))) (s := s6) (K := l.map fun (m : Nat) => (([102], (m : Int)) : CKey)) HS6.out.inv.nd (fun j hj => by
                  obtain ⟨m, hm, rfl⟩ := List.mem_map.1 hj
                  exact HK6.out m hm) (List.mem_map.2 ⟨xv, hxm, rfl⟩)
                obtain ⟨e1, _, e3, _, _⟩ := htg
                rw [e1] at HG
                have HK7 := hide (show ∀ m ∈ l, ∃ x ∈ (cget (1 + y % 9) ([102], (xv : Int)) s6).2.2.L, x.key = ([102], (m : Int)) from fun m hm => e3 _ (List.mem_map.2 ⟨m, hm, rfl⟩))
                have hwv : IntKind.i64.wrap ((v : Int) - 1) = (v : Int) - 1 := by simp only [IntKind.wrap, IntKind.bits, IntKind.signed]; simp; omega
                clear e1 e3 hx9
                go_wp2_with fail
                go_at_call 20
                refine HG.out.mono ?_
                rintro e W7 ⟨rfl, ⟨X7, at7, nx7⟩, fr7⟩
                have HS7 := hide (HS6.out.step at7 nx7 fr7 HIV.out)
                have HRD7 : Hid (Reads W7 W7.heap.size 1 (some ⟨b9, o9, none⟩) q (ivals l.reverse)) := by
                  refine ⟨HR6.out.1, fun h0 => ?_⟩
                  obtain ⟨b', o', e', hb', hc'⟩ := HR6.out.2 h0
                  exact ⟨b', o', e', Nat.lt_of_lt_of_le hb' fr7.size, fun j v hv => fr7.cell (hc' j v hv) (HAX6.out b' o' e').1⟩
                have HAX7 := hide (show ∀ b o, some (⟨b9, o9, none⟩ : Addr) = some ⟨b, o, none⟩ → ¬ X7 b ∧ b < W7.heap.size from fun b' o' e' => by
                  have h1 := HAX6.out b' o' e'
                  have := fr7.size
                  exact ⟨fun hx => (nx7 b' hx).elim h1.1 (fun h => by omega), by omega⟩)
                clear at7 nx7 fr7 HG
                go_wp2
                go_roundw
                case rel => exact ⟨v, X7, _, by go_num, by omega, HS7.out, by have := HCK.out; omega, HK7.out, HRD7.out, HAX7.out⟩
                case measure => simp [intOf]
              · obtain rfl : u = 0 := by omega
                have HDO := hide (does07_true wr)
                go_wp2_with fail
                go_at_call 15
                refine HDO.out.mono ?_
                rintro e W9 ⟨rfl, hf9⟩
                have HF9 := hide (HS6.out.fr.then_ hf9)
                clear hf9
                go_wp2
                go_ret
                exact ⟨rfl, HF9.out⟩
end Go.Proofs.YtkhbemmcegmdaaaGreatDoor
