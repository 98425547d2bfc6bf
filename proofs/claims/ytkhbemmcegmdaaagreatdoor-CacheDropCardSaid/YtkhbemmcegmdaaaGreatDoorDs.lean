/- carousellaw07.does, by contract. -/
import Derived.Test.YtkhbemmcegmdaaaGreatDoorDn
set_option linter.all false
set_option linter.unusedVariables false
set_option maxRecDepth 100000
namespace Go.Proofs.YtkhbemmcegmdaaaGreatDoor
open Go.RowKit
open Go.ChangeMaps (setBlock)

/-- a cache that came into being behind w -/
structure St (room : Int) (most : Nat) (w W : World) (cb fb : Nat) (X : Nat → Prop) (s : CSt) : Prop where
  at_ : CAt W cb fb X room most s
  inv : CInv room most s
  new : ∀ j, X j → w.heap.size ≤ j
  fr : Fr (fun _ => False) w W
theorem St.step {room : Int} {most : Nat} {w W W' : World} {cb fb : Nat} {X X' : Nat → Prop} {s s' : CSt} (h : St room most w W cb fb X s) (h1 : CAt W' cb fb X' room most s') (h2 : ∀ j, X' j → X j ∨ W.heap.size ≤ j) (hf : Fr X W W') (hi : CInv room most s') : St room most w W' cb fb X' s' :=
  ⟨h1, hi, fun j hj => (h2 j hj).elim (h.new j) (fun h3 => Nat.le_trans h.fr.size h3), h.fr.trans hf (fun k hk => .inr (h.new k hk))⟩
theorem St.up {room : Int} {most : Nat} {w W W' : World} {cb fb : Nat} {X : Nat → Prop} {s : CSt} (h : St room most w W cb fb X s) (hf : Fr (fun _ => False) W W') : St room most w W' cb fb X s := ⟨h.at_.up hf, h.inv, h.new, h.fr.then_ hf⟩
section
variable {e0 e1 e2 : List UInt8}
abbrev dF (e0 e1 e2 : List UInt8) : FileL := [([102], [e0, e1, e2])]
abbrev dk (i : Int) : CKey := ([102], i)
theorem d1 (p : pageB e0 = true) (d : datB e0 = [97]) : cget 2 (dk 0) ⟨-1, dF e0 e1 e2, [], 0⟩ = ([97], 0, ⟨-1, dF e0 e1 e2, [⟨dk 0, [97], 0⟩], 1⟩) := by
  simp [cget, cfind, lget, lfull, lold, frd, fpg, rdLeft, p, d, ldata, lroom]
theorem d2 (p : pageB e1 = true) (d : datB e1 = [98]) : cpin 2 (dk 1) ⟨-1, dF e0 e1 e2, [⟨dk 0, [97], 0⟩], 1⟩ = ([98], 0, ⟨-1, dF e0 e1 e2, [⟨dk 0, [97], 0⟩, ⟨dk 1, [98], 1⟩], 2⟩) := by
  simp [cpin, cfind, lget, lfull, lold, frd, fpg, rdLeft, p, d, ldata, lroom, lmap]
theorem d3 (p : pageB e2 = true) (d : datB e2 = [99]) : cget 2 (dk 2) ⟨-1, dF e0 e1 e2, [⟨dk 0, [97], 0⟩, ⟨dk 1, [98], 1⟩], 2⟩ = ([99], 0, ⟨-1, dF e0 e1 e2, [⟨dk 1, [98], 1⟩, ⟨dk 2, [99], 0⟩], 3⟩) := by
  simp [cget, cfind, lget, lfull, lold, frd, fpg, rdLeft, p, d, ldata, lroom, lwo]
theorem d4 : cpin 2 (dk 2) ⟨-1, dF e0 e1 e2, [⟨dk 1, [98], 1⟩, ⟨dk 2, [99], 0⟩], 3⟩ = ([99], 0, ⟨-1, dF e0 e1 e2, [⟨dk 1, [98], 1⟩, ⟨dk 2, [99], 1⟩], 4⟩) := by
  simp [cpin, cfind, lget, luse, lwo, ldata, lmap]
theorem d5 : cget 2 (dk 0) ⟨-1, dF e0 e1 e2, [⟨dk 1, [98], 1⟩, ⟨dk 2, [99], 1⟩], 4⟩ = ([], 70, ⟨-1, dF e0 e1 e2, [⟨dk 1, [98], 1⟩, ⟨dk 2, [99], 1⟩], 4⟩) := by
  simp [cget, cfind, lget, lfull, lold]
theorem d6 : cunpin (dk 1) ⟨-1, dF e0 e1 e2, [⟨dk 1, [98], 1⟩, ⟨dk 2, [99], 1⟩], 4⟩ = (0, ⟨-1, dF e0 e1 e2, [⟨dk 1, [98], 0⟩, ⟨dk 2, [99], 1⟩], 4⟩) := by
  simp [cunpin, lget, lmap]
theorem d7 (p : pageB e0 = true) (d : datB e0 = [97]) : cget 2 (dk 0) ⟨-1, dF e0 e1 e2, [⟨dk 1, [98], 0⟩, ⟨dk 2, [99], 1⟩], 4⟩ = ([97], 0, ⟨-1, dF e0 e1 e2, [⟨dk 2, [99], 1⟩, ⟨dk 0, [97], 0⟩], 5⟩) := by
  simp [cget, cfind, lget, lfull, lold, frd, fpg, rdLeft, p, d, ldata, lroom, lwo]
theorem d8 : cunpin (dk 0) ⟨-1, dF e0 e1 e2, [⟨dk 2, [99], 1⟩, ⟨dk 0, [97], 0⟩], 5⟩ = (4, ⟨-1, dF e0 e1 e2, [⟨dk 2, [99], 1⟩, ⟨dk 0, [97], 0⟩], 5⟩) := by
  simp [cunpin, lget]
end
def dD (k : Nat) : List (List UInt8) := if k = 0 then [encB []] else (List.range k).map fun i => encB [UInt8.ofNat (97 + i)]
theorem dput {k : Nat} (hk : k < 3) (hn : nameB [102] = true) : fsput 9 [([102], dD k)] [102] (k : Int) (encB [UInt8.ofNat (97 + k)]) = (0, [([102], dD (k + 1))]) := by
  have hl : ∀ i : Nat, (encB [UInt8.ofNat (97 + i)]).length = 128 := fun i => encB_len (by simp)
  have : k = 0 ∨ k = 1 ∨ k = 2 := by omega
  rcases this with rfl | rfl | rfl
  · simp [fsput, hn, fpg, dD, fput, encB_len]
  · simp [fsput, hn, fpg, dD, total, fput, encB_len, List.range_succ]
  · simp [fsput, hn, fpg, dD, total, fput, encB_len, List.range_succ]
theorem name_f : nameB [102] = true := by decide +kernel
theorem dinv {k : Nat} (hk : k ≤ 3) : FInv 9 [([102], dD k)] := by
  have hl : ∀ s ∈ dD k, s.length = 128 := fun s hs => by
    unfold dD at hs
    split at hs
    · rw [List.mem_singleton] at hs; rw [hs]; exact encB_len (by simp)
    · obtain ⟨i, _, rfl⟩ := List.mem_map.1 hs; exact encB_len (by simp)
  have hn : dD k ≠ [] ∧ (dD k).length ≤ 3 := by
    have : k = 0 ∨ k = 1 ∨ k = 2 ∨ k = 3 := by omega
    rcases this with rfl | rfl | rfl | rfl <;> simp [dD, List.range_succ]
  refine ⟨?_, by omega, fun p hp => ?_, fun p hp => ?_⟩
  · simp [total]; omega
  · rw [List.mem_singleton] at hp; rw [hp]; exact name_f
  · rw [List.mem_singleton] at hp; rw [hp]; exact ⟨hn.1, hl⟩
theorem same_fs (fb : Nat) (W : World) : (binOp .neq 29 (.pointer (some ⟨fb, 0, none⟩)) (.pointer (some ⟨fb, 0, none⟩))).run Tryz.prog W = .ok (.bool false) W := by
  have h : ∀ d : Nat, (Op.equalIn (d + 1) 29 (.pointer (some ⟨fb, 0, none⟩)) (.pointer (some ⟨fb, 0, none⟩))).run Tryz.prog W = .ok true W := fun d => by
    have hs : (sizeOf 125).run Tryz.prog W = .ok 3 W := by simp [Tryz.sizeOf125]
    simp [Op.equalIn, run_underlying (Tryz.underlying29), hs, sameAddr, Result.andThen]
  simp only [binOp]
  simp [Op.equal, Op.maxDepth, h 9999]
theorem char_str (z : Nat) (hz : z < 256) (W : World) : (convert 22 9 (.slice (some ⟨W.heap.size, 0, none⟩) 1 1)).run Tryz.prog (W.alloc (.cells #[.int .u8 (z : Int)] 5)) =
    .ok (.string ⟨#[UInt8.ofNat z]⟩) (W.alloc (.cells #[.int .u8 (z : Int)] 5)) := by
  have h := run_strN (P := Tryz.prog) W 22 9 5 5 [(z : Int)] (by
    intro y hy
    simp only [List.mem_cons, List.not_mem_nil, or_false] at hy
    omega) Tryz.underlying22 Tryz.underlying5 Tryz.underlying9
  have e : ([(z : Int)].map fun z => UInt8.ofNat z.toNat) = [UInt8.ofNat z] := by simp
  rw [e] at h
  exact h
theorem does07_true (w : World) : Calls Tryz.prog 15 #[] w fun e w' => e = .returned (.bool true) ∧ Fr (fun _ => False) w w' := by
  have HN := hide (fnew_ok 9 (by omega) (by omega) w)
  have hneq := same_fs
  go_enter Tryz.func15, Tryz.ntmps15
  go_wp2_with fail
  go_at_call 24
  refine HN.out.mono ?_
  rintro e W1 ⟨fb, XF, rfl, hat, hx1, hf1⟩
  have HC := hide (cnew_ok hat 2 (by omega) (by omega))
  have H1 := hide (And.intro hx1 hf1)
  clear hat hx1 hf1 HN
  go_wp2_with fail
  go_at_call 26
  refine HC.out.mono ?_
  rintro e W2 ⟨cb, X2, rfl, hat, hx2, _, hcb, hf2⟩
  have HS2 : Hid (St 9 2 w W2 cb fb X2 ⟨-1, [], [], 0⟩) := ⟨hat, ⟨⟨by simp [total], by omega, by simp, by simp⟩, by simp, by simp, by simp, by simp, by simp, by simp, by simp, by simp⟩, fun j hj => (hx2 j hj).elim (H1.out.1 j) (fun h => Nat.le_trans H1.out.2.size h), H1.out.2.then_ hf2⟩
  clear hat hx2 hcb hf2 HC H1
  have HSP := hide (pg_split ⟨#[]⟩ W2 (by decide))
  rw [show (splitB ((⟨#[]⟩ : ByteArray)).data.toList) = [encB []] from splitB_short (by simp)] at HSP
  go_wp2_with fail
  go_at_call 56
  refine HSP.out.mono ?_
  rintro e W3 ⟨A, c, rfl, _, _, hrd, hf3⟩
  have HS3 := hide (HS2.out.up hf3)
  have HW := hide (HS3.out.at_.lift (fun XF hat => fwrite_any hat HS3.out.inv.fs [102] (by simp) A c _ [encB []] hrd (Nat.le_refl _) (fun s hs => by rw [List.mem_singleton] at hs; rw [hs]; exact encB_len (by simp)) (by simp) (by simp)))
  rw [show fswrite 9 [] [102] [encB []] = (0, [([102], dD 0)]) by simp [fswrite, name_f, total, fpg, fput, dD]] at HW
  clear hrd hf3 HSP HS2
  go_wp2_with fail
  go_at_call 55
  refine HW.out.mono ?_
  rintro e W4 ⟨rfl, ⟨X4, at4, nx4⟩, fr4⟩
  have HS4 := hide (HS3.out.step at4 nx4 fr4 (HS3.out.inv.setF ⟨dinv (by omega), by simp⟩))
  clear at4 nx4 fr4 HW HS3
  have HCF := hide (cfs_ok HS4.out.at_)
  go_wp2_with fail
  go_at_call 18
  refine HCF.out.mono ?_
  rintro e w9 ⟨rfl, rfl⟩
  go_wp2
  go_loopw [5] (fun i wr => ∃ (k : Nat) (X : Nat → Prop), i = .int .i64 (k : Int) ∧ k ≤ 3 ∧ St 9 2 w wr cb fb X ⟨-1, [([102], dD k)], [], 0⟩) (fun i _ => 3 - (intOf i).toNat)
  case atStart => exact ⟨0, X4, rfl, by omega, HS4.out⟩
  case round =>
    obtain ⟨k, X, rfl, hk, hst⟩ := hrel
    have HS := hide hst
    clear hst HS4
    by_cases hlt : k < 3
    · have hcase : k = 0 ∨ k = 1 ∨ k = 2 := by omega
      rcases hcase with rfl | rfl | rfl
      · have hch : (convert 22 9 (.slice (some ⟨wr.heap.size, 0, none⟩) 1 1)).run Tryz.prog (wr.alloc (.cells #[.int .u8 97] 5)) = .ok (.string ⟨#[97]⟩) (wr.alloc (.cells #[.int .u8 97] 5)) := char_str 97 (by omega) wr
        have HE := hide (fun W => pg_enc ⟨#[97]⟩ (by decide) W)
        rw [show ((⟨#[97]⟩ : ByteArray)).data.toList = [97] from rfl] at HE
        have hf5 : Fr (fun _ => False) wr (wr.alloc (.cells #[.int .u8 97] 5)) := (Fr.refl _ _).alloc _
        have HF5 := hide hf5
        clear hf5
        go_wp2_with fail
        go_at_call 17
        refine (HE.out _).mono ?_
        rintro e W6 ⟨rfl, hf6⟩
        have HS6 := hide (HS.out.up (HF5.out.then_ hf6))
        have HP := hide (HS6.out.at_.lift (fun XF hat => fput_any hat HS6.out.inv.fs [102] 0 (encB [97]) (by simp) (by rw [encB_len (by simp)]; omega)))
        rw [show fsput 9 [([102], dD 0)] [102] 0 (encB [97]) = (0, [([102], dD 1)]) from dput (k := 0) (by omega) name_f] at HP
        clear hf6
        go_wp2_with fail
        go_at_call 19
        refine HP.out.mono ?_
        rintro e W7 ⟨rfl, ⟨X7, at7, nx7⟩, fr7⟩
        have HS7 := hide (HS6.out.step at7 nx7 fr7 (HS6.out.inv.setF ⟨dinv (k := 1) (by omega), by simp⟩))
        clear at7 nx7 fr7 HP HS6 HS
        go_wp2
        go_roundw
        case rel => exact ⟨1, X7, by go_num, by omega, HS7.out⟩
        case measure => simp [intOf]
      · have hch : (convert 22 9 (.slice (some ⟨wr.heap.size, 0, none⟩) 1 1)).run Tryz.prog (wr.alloc (.cells #[.int .u8 98] 5)) = .ok (.string ⟨#[98]⟩) (wr.alloc (.cells #[.int .u8 98] 5)) := char_str 98 (by omega) wr
        have HE := hide (fun W => pg_enc ⟨#[98]⟩ (by decide) W)
        rw [show ((⟨#[98]⟩ : ByteArray)).data.toList = [98] from rfl] at HE
        have hf5 : Fr (fun _ => False) wr (wr.alloc (.cells #[.int .u8 98] 5)) := (Fr.refl _ _).alloc _
        have HF5 := hide hf5
        clear hf5
        go_wp2_with fail
        go_at_call 17
        refine (HE.out _).mono ?_
        rintro e W6 ⟨rfl, hf6⟩
        have HS6 := hide (HS.out.up (HF5.out.then_ hf6))
        have HP := hide (HS6.out.at_.lift (fun XF hat => fput_any hat HS6.out.inv.fs [102] 1 (encB [98]) (by simp) (by rw [encB_len (by simp)]; omega)))
        rw [show fsput 9 [([102], dD 1)] [102] 1 (encB [98]) = (0, [([102], dD 2)]) from dput (k := 1) (by omega) name_f] at HP
        clear hf6
        go_wp2_with fail
        go_at_call 19
        refine HP.out.mono ?_
        rintro e W7 ⟨rfl, ⟨X7, at7, nx7⟩, fr7⟩
        have HS7 := hide (HS6.out.step at7 nx7 fr7 (HS6.out.inv.setF ⟨dinv (k := 2) (by omega), by simp⟩))
        clear at7 nx7 fr7 HP HS6 HS
        go_wp2
        go_roundw
        case rel => exact ⟨2, X7, by go_num, by omega, HS7.out⟩
        case measure => simp [intOf]
      · have hch : (convert 22 9 (.slice (some ⟨wr.heap.size, 0, none⟩) 1 1)).run Tryz.prog (wr.alloc (.cells #[.int .u8 99] 5)) = .ok (.string ⟨#[99]⟩) (wr.alloc (.cells #[.int .u8 99] 5)) := char_str 99 (by omega) wr
        have HE := hide (fun W => pg_enc ⟨#[99]⟩ (by decide) W)
        rw [show ((⟨#[99]⟩ : ByteArray)).data.toList = [99] from rfl] at HE
        have hf5 : Fr (fun _ => False) wr (wr.alloc (.cells #[.int .u8 99] 5)) := (Fr.refl _ _).alloc _
        have HF5 := hide hf5
        clear hf5
        go_wp2_with fail
        go_at_call 17
        refine (HE.out _).mono ?_
        rintro e W6 ⟨rfl, hf6⟩
        have HS6 := hide (HS.out.up (HF5.out.then_ hf6))
        have HP := hide (HS6.out.at_.lift (fun XF hat => fput_any hat HS6.out.inv.fs [102] 2 (encB [99]) (by simp) (by rw [encB_len (by simp)]; omega)))
        rw [show fsput 9 [([102], dD 2)] [102] 2 (encB [99]) = (0, [([102], dD 3)]) from dput (k := 2) (by omega) name_f] at HP
        clear hf6
        go_wp2_with fail
        go_at_call 19
        refine HP.out.mono ?_
        rintro e W7 ⟨rfl, ⟨X7, at7, nx7⟩, fr7⟩
        have HS7 := hide (HS6.out.step at7 nx7 fr7 (HS6.out.inv.setF ⟨dinv (k := 3) (by omega), by simp⟩))
        clear at7 nx7 fr7 HP HS6 HS
        go_wp2
        go_roundw
        case rel => exact ⟨3, X7, by go_num, by omega, HS7.out⟩
        case measure => simp [intOf]
    · obtain rfl : k = 3 := by omega
      have HS3 : Hid (St 9 2 w wr cb fb X ⟨-1, dF (encB [97]) (encB [98]) (encB [99]), [], 0⟩) := by
        have e : dD 3 = [encB [97], encB [98], encB [99]] := rfl
        have := HS.out
        rw [e] at this
        exact this
      have hp0 : pageB (encB [97]) = true := page_enc (by simp)
      have hp1 : pageB (encB [98]) = true := page_enc (by simp)
      have hp2 : pageB (encB [99]) = true := page_enc (by simp)
      have hd0 : datB (encB [97]) = [97] := dat_enc (by simp)
      have hd1 : datB (encB [98]) = [98] := dat_enc (by simp)
      have hd2 : datB (encB [99]) = [99] := dat_enc (by simp)
      generalize encB [97] = e0 at *
      generalize encB [98] = e1 at *
      generalize encB [99] = e2 at *
      have E1 := hide (d1 (e1 := e1) (e2 := e2) hp0 hd0)
      have E2 := hide (d2 (e0 := e0) (e2 := e2) hp1 hd1)
      have E3 := hide (d3 (e0 := e0) (e1 := e1) hp2 hd2)
      have E7 := hide (d7 (e1 := e1) (e2 := e2) hp0 hd0)
      clear hp0 hp1 hp2 hd0 hd1 hd2 HS
      have HC := hide (cget_ok HS3.out.at_ HS3.out.inv (dk 0) (by simp))
      rw [E1.out] at HC
      have HI := hide (HS3.out.inv.got (by omega) (dk 0))
      rw [E1.out] at HI
      go_wp2_with fail
      go_at_call 20
      refine HC.out.mono ?_
      rintro e W4 ⟨rfl, ⟨X4, at1, nx1⟩, fr1⟩
      have HS4 := hide (HS3.out.step at1 nx1 fr1 HI.out)
      clear at1 nx1 fr1 HC HI
      have HC := hide (cpin_ok HS4.out.at_ HS4.out.inv (dk 1) (by simp))
      rw [E2.out] at HC
      have HI := hide (HS4.out.inv.pinned (by omega) (dk 1))
      rw [E2.out] at HI
      go_wp2_with fail
      go_at_call 39
      refine HC.out.mono ?_
      rintro e W5 ⟨rfl, ⟨X5, at1, nx1⟩, fr1⟩
      have HS5 := hide (HS4.out.step at1 nx1 fr1 HI.out)
      clear at1 nx1 fr1 HC HI
      have HC := hide (cget_ok HS5.out.at_ HS5.out.inv (dk 2) (by simp))
      rw [E3.out] at HC
      have HI := hide (HS5.out.inv.got (by omega) (dk 2))
      rw [E3.out] at HI
      go_wp2_with fail
      go_at_call 20
      refine HC.out.mono ?_
      rintro e W6 ⟨rfl, ⟨X6, at1, nx1⟩, fr1⟩
      have HS6 := hide (HS5.out.step at1 nx1 fr1 HI.out)
      clear at1 nx1 fr1 HC HI
      have HR := hide (chas_ok HS6.out.at_ (dk 0))
      rw [show (lget (dk 0) [(⟨dk 1, [98], 1⟩ : CE), ⟨dk 2, [99], 0⟩]).isSome = false by simp [lget]] at HR
      go_wp2_with fail
      go_at_call 31
      refine HR.out.mono ?_
      rintro e w9 ⟨rfl, rfl⟩
      clear HR
      have HR := hide (chas_ok HS6.out.at_ (dk 1))
      rw [show (lget (dk 1) [(⟨dk 1, [98], 1⟩ : CE), ⟨dk 2, [99], 0⟩]).isSome = true by simp [lget]] at HR
      go_wp2_with fail
      go_at_call 31
      refine HR.out.mono ?_
      rintro e w9 ⟨rfl, rfl⟩
      clear HR
      have HR := hide (clen_ok HS6.out.at_)
      go_wp2_with fail
      go_at_call 21
      refine HR.out.mono ?_
      rintro e w9 ⟨rfl, rfl⟩
      clear HR
      have HC := hide (cpin_ok HS6.out.at_ HS6.out.inv (dk 2) (by simp))
      rw [d4] at HC
      have HI := hide (HS6.out.inv.pinned (by omega) (dk 2))
      rw [d4] at HI
      go_wp2_with fail
      go_at_call 39
      refine HC.out.mono ?_
      rintro e W7 ⟨rfl, ⟨X7, at1, nx1⟩, fr1⟩
      have HS7 := hide (HS6.out.step at1 nx1 fr1 HI.out)
      clear at1 nx1 fr1 HC HI
      have HC := hide (cget_ok HS7.out.at_ HS7.out.inv (dk 0) (by simp))
      rw [d5] at HC
      have HI := hide (HS7.out.inv.got (by omega) (dk 0))
      rw [d5] at HI
      go_wp2_with fail
      go_at_call 20
      refine HC.out.mono ?_
      rintro e W8 ⟨rfl, ⟨X8, at1, nx1⟩, fr1⟩
      have HS8 := hide (HS7.out.step at1 nx1 fr1 HI.out)
      clear at1 nx1 fr1 HC HI
      have HC := hide (cunpin_ok HS8.out.at_ HS8.out.inv (dk 1) (by simp))
      rw [d6] at HC
      have HI := hide (HS8.out.inv.unpinned (dk 1))
      rw [d6] at HI
      go_wp2_with fail
      go_at_call 40
      refine HC.out.mono ?_
      rintro e W9 ⟨rfl, at1, fr1⟩
      have HS9 := hide (HS8.out.step at1 (fun _ h => .inl h) fr1 HI.out)
      clear at1 fr1 HC HI
      have HC := hide (cget_ok HS9.out.at_ HS9.out.inv (dk 0) (by simp))
      rw [E7.out] at HC
      have HI := hide (HS9.out.inv.got (by omega) (dk 0))
      rw [E7.out] at HI
      go_wp2_with fail
      go_at_call 20
      refine HC.out.mono ?_
      rintro e W10 ⟨rfl, ⟨X10, at1, nx1⟩, fr1⟩
      have HS10 := hide (HS9.out.step at1 nx1 fr1 HI.out)
      clear at1 nx1 fr1 HC HI
      have HR := hide (chas_ok HS10.out.at_ (dk 1))
      rw [show (lget (dk 1) [(⟨dk 2, [99], 1⟩ : CE), ⟨dk 0, [97], 0⟩]).isSome = false by simp [lget]] at HR
      go_wp2_with fail
      go_at_call 31
      refine HR.out.mono ?_
      rintro e w9 ⟨rfl, rfl⟩
      clear HR
      have HC := hide (cunpin_ok HS10.out.at_ HS10.out.inv (dk 0) (by simp))
      rw [d8] at HC
      have HI := hide (HS10.out.inv.unpinned (dk 0))
      rw [d8] at HI
      go_wp2_with fail
      go_at_call 40
      refine HC.out.mono ?_
      rintro e W11 ⟨rfl, at1, fr1⟩
      have HS11 := hide (HS10.out.step at1 (fun _ h => .inl h) fr1 HI.out)
      clear at1 fr1 HC HI
      have HR := hide (cpinned_ok HS11.out.at_ (by simp))
      rw [show pinned [(⟨dk 2, [99], 1⟩ : CE), ⟨dk 0, [97], 0⟩] = 1 from rfl] at HR
      go_wp2_with fail
      go_at_call 29
      refine HR.out.mono ?_
      rintro e W12 ⟨rfl, hf12⟩
      have HF12 := hide (HS11.out.fr.then_ hf12)
      clear hf12
      go_wp2
      go_ret
      exact ⟨rfl, HF12.out⟩

end Go.Proofs.YtkhbemmcegmdaaaGreatDoor
