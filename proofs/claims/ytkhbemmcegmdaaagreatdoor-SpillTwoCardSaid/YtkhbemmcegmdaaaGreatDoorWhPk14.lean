/- Parts of the proof of several laws: no conditions of their own. -/
import Derived.Test.YtkhbemmcegmdaaaGreatDoorWhPk13
import Derived.Test.YtkhbemmcegmdaaaGreatDoorWhPk6
import Derived.Test.YtkhbemmcegmdaaaGreatDoorWhPk7
section
set_option linter.all false
set_option linter.unusedVariables false
set_option maxRecDepth 100000
namespace Go.Proofs.YtkhbemmcegmdaaaGreatDoor
open Go.RowKit
open Go.ChangeMaps (setBlock)

/-- a cache that came into being behind w -/
structure St (room : Int) (most : Nat) (w W : World) (cb fb : Nat) (X : Nat → Prop) (s : CSt) : Prop where
  at_ : CAt W cb fb X room most s
  inv : CInv room most s
  new : ∀ j, X j → w.heap.size ≤ j
  fr : Fr (fun _ => False) w W
theorem St.step {room : Int} {most : Nat} {w W W' : World} {cb fb : Nat} {X X' : Nat → Prop} {s s' : CSt} (h : St room most w W cb fb X s) (h1 : CAt W' cb fb X' room most s') (h2 : ∀ j, X' j → X j ∨ W.heap.size ≤ j) (hf : Fr X W W') (hi : CInv room most s') : St room most w W' cb fb X' s' :=
  ⟨h1, hi, fun j hj => (h2 j hj).elim (h.new j) (fun h3 => Nat.le_trans h.fr.size h3), h.fr.trans hf (fun k hk => .inr (h.new k hk))⟩
theorem St.up {room : Int} {most : Nat} {w W W' : World} {cb fb : Nat} {X : Nat → Prop} {s : CSt} (h : St room most w W cb fb X s) (hf : Fr (fun _ => False) W W') : St room most w W' cb fb X s := ⟨h.at_.up hf, h.inv, h.new, h.fr.then_ hf⟩
section
variable {e0 e1 e2 : List UInt8}
abbrev dF (e0 e1 e2 : List UInt8) : FileL := [([102], [e0, e1, e2])]
abbrev dk (i : Int) : CKey := ([102], i)
theorem d1 (p : pageB e0 = true) (d : datB e0 = [97]) : cget 2 (dk 0) ⟨-1, dF e0 e1 e2, [], 0⟩ = ([97], 0, ⟨-1, dF e0 e1 e2, [⟨dk 0, [97], 0⟩], 1⟩) := by
  simp [cget, cfind, lget, lfull, lold, frd, fpg, rdLeft, p, d, ldata, lroom]
theorem d2 (p : pageB e1 = true) (d : datB e1 = [98]) : cpin 2 (dk 1) ⟨-1, dF e0 e1 e2, [⟨dk 0, [97], 0⟩], 1⟩ = ([98], 0, ⟨-1, dF e0 e1 e2, [⟨dk 0, [97], 0⟩, ⟨dk 1, [98], 1⟩], 2⟩) := by
  simp [cpin, cfind, lget, lfull, lold, frd, fpg, rdLeft, p, d, ldata, lroom, lmap]
theorem d3 (p : pageB e2 = true) (d : datB e2 = [99]) : cget 2 (dk 2) ⟨-1, dF e0 e1 e2, [⟨dk 0, [97], 0⟩, ⟨dk 1, [98], 1⟩], 2⟩ = ([99], 0, ⟨-1, dF e0 e1 e2, [⟨dk 1, [98], 1⟩, ⟨dk 2, [99], 0⟩], 3⟩) := by
  simp [cget, cfind, lget, lfull, lold, frd, fpg, rdLeft, p, d, ldata, lroom, lwo]
theorem d4 : cpin 2 (dk 2) ⟨-1, dF e0 e1 e2, [⟨dk 1, [98], 1⟩, ⟨dk 2, [99], 0⟩], 3⟩ = ([99], 0, ⟨-1, dF e0 e1 e2, [⟨dk 1, [98], 1⟩, ⟨dk 2, [99], 1⟩], 4⟩) := by
  simp [cpin, cfind, lget, luse, lwo, ldata, lmap]
theorem d5 : cget 2 (dk 0) ⟨-1, dF e0 e1 e2, [⟨dk 1, [98], 1⟩, ⟨dk 2, [99], 1⟩], 4⟩ = ([], 70, ⟨-1, dF e0 e1 e2, [⟨dk 1, [98], 1⟩, ⟨dk 2, [99], 1⟩], 4⟩) := by
  simp [cget, cfind, lget, lfull, lold]
theorem d6 : cunpin (dk 1) ⟨-1, dF e0 e1 e2, [⟨dk 1, [98], 1⟩, ⟨dk 2, [99], 1⟩], 4⟩ = (0, ⟨-1, dF e0 e1 e2, [⟨dk 1, [98], 0⟩, ⟨dk 2, [99], 1⟩], 4⟩) := by
  simp [cunpin, lget, lmap]
theorem d7 (p : pageB e0 = true) (d : datB e0 = [97]) : cget 2 (dk 0) ⟨-1, dF e0 e1 e2, [⟨dk 1, [98], 0⟩, ⟨dk 2, [99], 1⟩], 4⟩ = ([97], 0, ⟨-1, dF e0 e1 e2, [⟨dk 2, [99], 1⟩, ⟨dk 0, [97], 0⟩], 5⟩) := by
  simp [cget, cfind, lget, lfull, lold, frd, fpg, rdLeft, p, d, ldata, lroom, lwo]
theorem d8 : cunpin (dk 0) ⟨-1, dF e0 e1 e2, [⟨dk 2, [99], 1⟩, ⟨dk 0, [97], 0⟩], 5⟩ = (4, ⟨-1, dF e0 e1 e2, [⟨dk 2, [99], 1⟩, ⟨dk 0, [97], 0⟩], 5⟩) := by
  simp [cunpin, lget]
end
def dD (k : Nat) : List (List UInt8) := if k = 0 then [encB []] else (List.range k).map fun i => encB [UInt8.ofNat (97 + i)]
theorem dput {k : Nat} (hk : k < 3) (hn : nameB [102] = true) : fsput 9 [([102], dD k)] [102] (k : Int) (encB [UInt8.ofNat (97 + k)]) = (0, [([102], dD (k + 1))]) := by
  have hl : ∀ i : Nat, (encB [UInt8.ofNat (97 + i)]).length = 128 := fun i => encB_len (by simp)
  have : k = 0 ∨ k = 1 ∨ k = 2 := by omega
  rcases this with rfl | rfl | rfl
  · simp [fsput, hn, fpg, dD, fput, encB_len]
  · simp [fsput, hn, fpg, dD, total, fput, encB_len, List.range_succ]
  · simp [fsput, hn, fpg, dD, total, fput, encB_len, List.range_succ]
theorem name_f : nameB [102] = true := by decide +kernel
theorem dinv {k : Nat} (hk : k ≤ 3) : FInv 9 [([102], dD k)] := by
  have hl : ∀ s ∈ dD k, s.length = 128 := fun s hs => by
    unfold dD at hs
    split at hs
    · rw [List.mem_singleton] at hs; rw [hs]; exact encB_len (by simp)
    · obtain ⟨i, _, rfl⟩ := List.mem_map.1 hs; exact encB_len (by simp)
  have hn : dD k ≠ [] ∧ (dD k).length ≤ 3 := by
    have : k = 0 ∨ k = 1 ∨ k = 2 ∨ k = 3 := by omega
    rcases this with rfl | rfl | rfl | rfl <;> simp [dD, List.range_succ]
  refine ⟨?_, by omega, fun p hp => ?_, fun p hp => ?_⟩
  · simp [total]; omega
  · rw [List.mem_singleton] at hp; rw [hp]; exact name_f
  · rw [List.mem_singleton] at hp; rw [hp]; exact ⟨hn.1, hl⟩
theorem same_fs (fb : Nat) (W : World) : (binOp .neq 29 (.pointer (some ⟨fb, 0, none⟩)) (.pointer (some ⟨fb, 0, none⟩))).run Tryz.prog W = .ok (.bool false) W := by
  have h : ∀ d : Nat, (Op.equalIn (d + 1) 29 (.pointer (some ⟨fb, 0, none⟩)) (.pointer (some ⟨fb, 0, none⟩))).run Tryz.prog W = .ok true W := fun d => by
    have hs : (sizeOf 125).run Tryz.prog W = .ok 3 W := by simp [Tryz.sizeOf125]
    simp [Op.equalIn, run_underlying (Tryz.underlying29), hs, sameAddr, Result.andThen]
  simp only [binOp]
  simp [Op.equal, Op.maxDepth, h 9999]
theorem char_str (z : Nat) (hz : z < 256) (W : World) : (convert 22 9 (.slice (some ⟨W.heap.size, 0, none⟩) 1 1)).run Tryz.prog (W.alloc (.cells #[.int .u8 (z : Int)] 5)) =
    .ok (.string ⟨#[UInt8.ofNat z]⟩) (W.alloc (.cells #[.int .u8 (z : Int)] 5)) := by
  have h := run_strN (P := Tryz.prog) W 22 9 5 5 [(z : Int)] (by
    intro y hy
    simp only [List.mem_cons, List.not_mem_nil, or_false] at hy
    omega) Tryz.underlying22 Tryz.underlying5 Tryz.underlying9
  have e : ([(z : Int)].map fun z => UInt8.ofNat z.toNat) = [UInt8.ofNat z] := by simp
  rw [e] at h
  exact h
theorem does07_true (w : World) : Calls Tryz.prog 15 #[] w fun e w' => e = .returned (.bool true) ∧ Fr (fun _ => False) w w' := by
  have HN := hide (fnew_ok 9 (by omega) (by omega) w)
  have hneq := same_fs
  go_enter Tryz.func15, Tryz.ntmps15
  go_wp2_with fail
  go_at_call 24
  refine HN.out.mono ?_
  rintro e W1 ⟨fb, XF, rfl, hat, hx1, hf1⟩
  have HC := hide (cnew_ok hat 2 (by omega) (by omega))
  have H1 := hide (And.intro hx1 hf1)
  clear hat hx1 hf1 HN
  go_wp2_with fail
  go_at_call 26
  refine HC.out.mono ?_
  rintro e W2 ⟨cb, X2, rfl, hat, hx2, _, hcb, hf2⟩
  have HS2 : Hid (St 9 2 w W2 cb fb X2 ⟨-1, [], [], 0⟩) := ⟨hat, ⟨⟨by simp [total], by omega, by simp, by simp⟩, by simp, by simp, by simp, by simp, by simp, by simp, by simp, by simp⟩, fun j hj => (hx2 j hj).elim (H1.out.1 j) (fun h => Nat.le_trans H1.out.2.size h), H1.out.2.then_ hf2⟩
  clear hat hx2 hcb hf2 HC H1
  have HSP := hide (pg_split ⟨#[]⟩ W2 (by decide))
  rw [show (splitB ((⟨#[]⟩ : ByteArray)).data.toList) = [encB []] from splitB_short (by simp)] at HSP
  go_wp2_with fail
  go_at_call 56
  refine HSP.out.mono ?_
  rintro e W3 ⟨A, c, rfl, _, _, hrd, hf3⟩
  have HS3 := hide (HS2.out.up hf3)
  have HW := hide (HS3.out.at_.lift (fun XF hat => fwrite_any hat HS3.out.inv.fs [102] (by simp) A c _ [encB []] hrd (Nat.le_refl _) (fun s hs => by rw [List.mem_singleton] at hs; rw [hs]; exact encB_len (by simp)) (by simp) (by simp)))
  rw [show fswrite 9 [] [102] [encB []] = (0, [([102], dD 0)]) by simp [fswrite, name_f, total, fpg, fput, dD]] at HW
  clear hrd hf3 HSP HS2
  go_wp2_with fail
  go_at_call 55
  refine HW.out.mono ?_
  rintro e W4 ⟨rfl, ⟨X4, at4, nx4⟩, fr4⟩
  have HS4 := hide (HS3.out.step at4 nx4 fr4 (HS3.out.inv.setF ⟨dinv (by omega), by simp⟩))
  clear at4 nx4 fr4 HW HS3
  have HCF := hide (cfs_ok HS4.out.at_)
  go_wp2_with fail
  go_at_call 18
  refine HCF.out.mono ?_
  rintro e w9 ⟨rfl, rfl⟩
  go_wp2
  go_loopw [5] (fun i wr => ∃ (k : Nat) (X : Nat → Prop), i = .int .i64 (k : Int) ∧ k ≤ 3 ∧ St 9 2 w wr cb fb X ⟨-1, [([102], dD k)], [], 0⟩) (fun i _ => 3 - (intOf i).toNat)
  case atStart => exact ⟨0, X4, rfl, by omega, HS4.out⟩
  case round =>
    obtain ⟨k, X, rfl, hk, hst⟩ := hrel
    have HS := hide hst
    clear hst HS4
    by_cases hlt : k < 3
    · have hcase : k = 0 ∨ k = 1 ∨ k = 2 := by omega
      rcases hcase with rfl | rfl | rfl
      · have hch : (convert 22 9 (.slice (some ⟨wr.heap.size, 0, none⟩) 1 1)).run Tryz.prog (wr.alloc (.cells #[.int .u8 97] 5)) = .ok (.string ⟨#[97]⟩) (wr.alloc (.cells #[.int .u8 97] 5)) := char_str 97 (by omega) wr
        have HE := hide (fun W => pg_enc ⟨#[97]⟩ (by decide) W)
        rw [show ((⟨#[97]⟩ : ByteArray)).data.toList = [97] from rfl] at HE
        have hf5 : Fr (fun _ => False) wr (wr.alloc (.cells #[.int .u8 97] 5)) := (Fr.refl _ _).alloc _
        have HF5 := hide hf5
        clear hf5
        go_wp2_with fail
        go_at_call 17
        refine (HE.out _).mono ?_
        rintro e W6 ⟨rfl, hf6⟩
        have HS6 := hide (HS.out.up (HF5.out.then_ hf6))
        have HP := hide (HS6.out.at_.lift (fun XF hat => fput_any hat HS6.out.inv.fs [102] 0 (encB [97]) (by simp) (by rw [encB_len (by simp)]; omega)))
        rw [show fsput 9 [([102], dD 0)] [102] 0 (encB [97]) = (0, [([102], dD 1)]) from dput (k := 0) (by omega) name_f] at HP
        clear hf6
        go_wp2_with fail
        go_at_call 19
        refine HP.out.mono ?_
        rintro e W7 ⟨rfl, ⟨X7, at7, nx7⟩, fr7⟩
        have HS7 := hide (HS6.out.step at7 nx7 fr7 (HS6.out.inv.setF ⟨dinv (k := 1) (by omega), by simp⟩))
        clear at7 nx7 fr7 HP HS6 HS
        go_wp2
        go_roundw
        case rel => exact ⟨1, X7, by go_num, by omega, HS7.out⟩
        case measure => simp [intOf]
      · have hch : (convert 22 9 (.slice (some ⟨wr.heap.size, 0, none⟩) 1 1)).run Tryz.prog (wr.alloc (.cells #[.int .u8 98] 5)) = .ok (.string ⟨#[98]⟩) (wr.alloc (.cells #[.int .u8 98] 5)) := char_str 98 (by omega) wr
        have HE := hide (fun W => pg_enc ⟨#[98]⟩ (by decide) W)
        rw [show ((⟨#[98]⟩ : ByteArray)).data.toList = [98] from rfl] at HE
        have hf5 : Fr (fun _ => False) wr (wr.alloc (.cells #[.int .u8 98] 5)) := (Fr.refl _ _).alloc _
        have HF5 := hide hf5
        clear hf5
        go_wp2_with fail
        go_at_call 17
        refine (HE.out _).mono ?_
        rintro e W6 ⟨rfl, hf6⟩
        have HS6 := hide (HS.out.up (HF5.out.then_ hf6))
        have HP := hide (HS6.out.at_.lift (fun XF hat => fput_any hat HS6.out.inv.fs [102] 1 (encB [98]) (by simp) (by rw [encB_len (by simp)]; omega)))
        rw [show fsput 9 [([102], dD 1)] [102] 1 (encB [98]) = (0, [([102], dD 2)]) from dput (k := 1) (by omega) name_f] at HP
        clear hf6
        go_wp2_with fail
        go_at_call 19
        refine HP.out.mono ?_
        rintro e W7 ⟨rfl, ⟨X7, at7, nx7⟩, fr7⟩
        have HS7 := hide (HS6.out.step at7 nx7 fr7 (HS6.out.inv.setF ⟨dinv (k := 2) (by omega), by simp⟩))
        clear at7 nx7 fr7 HP HS6 HS
        go_wp2
        go_roundw
        case rel => exact ⟨2, X7, by go_num, by omega, HS7.out⟩
        case measure => simp [intOf]
      · have hch : (convert 22 9 (.slice (some ⟨wr.heap.size, 0, none⟩) 1 1)).run Tryz.prog (wr.alloc (.cells #[.int .u8 99] 5)) = .ok (.string ⟨#[99]⟩) (wr.alloc (.cells #[.int .u8 99] 5)) := char_str 99 (by omega) wr
        have HE := hide (fun W => pg_enc ⟨#[99]⟩ (by decide) W)
        rw [show ((⟨#[99]⟩ : ByteArray)).data.toList = [99] from rfl] at HE
        have hf5 : Fr (fun _ => False) wr (wr.alloc (.cells #[.int .u8 99] 5)) := (Fr.refl _ _).alloc _
        have HF5 := hide hf5
        clear hf5
        go_wp2_with fail
        go_at_call 17
        refine (HE.out _).mono ?_
        rintro e W6 ⟨rfl, hf6⟩
        have HS6 := hide (HS.out.up (HF5.out.then_ hf6))
        have HP := hide (HS6.out.at_.lift (fun XF hat => fput_any hat HS6.out.inv.fs [102] 2 (encB [99]) (by simp) (by rw [encB_len (by simp)]; omega)))
        rw [show fsput 9 [([102], dD 2)] [102] 2 (encB [99]) = (0, [([102], dD 3)]) from dput (k := 2) (by omega) name_f] at HP
        clear hf6
        go_wp2_with fail
        go_at_call 19
        refine HP.out.mono ?_
        rintro e W7 ⟨rfl, ⟨X7, at7, nx7⟩, fr7⟩
        have HS7 := hide (HS6.out.step at7 nx7 fr7 (HS6.out.inv.setF ⟨dinv (k := 3) (by omega), by simp⟩))
        clear at7 nx7 fr7 HP HS6 HS
        go_wp2
        go_roundw
        case rel => exact ⟨3, X7, by go_num, by omega, HS7.out⟩
        case measure => simp [intOf]
    · obtain rfl : k = 3 := by omega
      have HS3 : Hid (St 9 2 w wr cb fb X ⟨-1, dF (encB [97]) (encB [98]) (encB [99]), [], 0⟩) := by
        have e : dD 3 = [encB [97], encB [98], encB [99]] := rfl
        have := HS.out
        rw [e] at this
        exact this
      have hp0 : pageB (encB [97]) = true := page_enc (by simp)
      have hp1 : pageB (encB [98]) = true := page_enc (by simp)
      have hp2 : pageB (encB [99]) = true := page_enc (by simp)
      have hd0 : datB (encB [97]) = [97] := dat_enc (by simp)
      have hd1 : datB (encB [98]) = [98] := dat_enc (by simp)
      have hd2 : datB (encB [99]) = [99] := dat_enc (by simp)
      generalize encB [97] = e0 at *
      generalize encB [98] = e1 at *
      generalize encB [99] = e2 at *
      have E1 := hide (d1 (e1 := e1) (e2 := e2) hp0 hd0)
      have E2 := hide (d2 (e0 := e0) (e2 := e2) hp1 hd1)
      have E3 := hide (d3 (e0 := e0) (e1 := e1) hp2 hd2)
      have E7 := hide (d7 (e1 := e1) (e2 := e2) hp0 hd0)
      clear hp0 hp1 hp2 hd0 hd1 hd2 HS
      have HC := hide (cget_ok HS3.out.at_ HS3.out.inv (dk 0) (by simp))
      rw [E1.out] at HC
      have HI := hide (HS3.out.inv.got (by omega) (dk 0))
      rw [E1.out] at HI
      go_wp2_with fail
      go_at_call 20
      refine HC.out.mono ?_
      rintro e W4 ⟨rfl, ⟨X4, at1, nx1⟩, fr1⟩
      have HS4 := hide (HS3.out.step at1 nx1 fr1 HI.out)
      clear at1 nx1 fr1 HC HI
      have HC := hide (cpin_ok HS4.out.at_ HS4.out.inv (dk 1) (by simp))
      rw [E2.out] at HC
      have HI := hide (HS4.out.inv.pinned (by omega) (dk 1))
      rw [E2.out] at HI
      go_wp2_with fail
      go_at_call 39
      refine HC.out.mono ?_
      rintro e W5 ⟨rfl, ⟨X5, at1, nx1⟩, fr1⟩
      have HS5 := hide (HS4.out.step at1 nx1 fr1 HI.out)
      clear at1 nx1 fr1 HC HI
      have HC := hide (cget_ok HS5.out.at_ HS5.out.inv (dk 2) (by simp))
      rw [E3.out] at HC
      have HI := hide (HS5.out.inv.got (by omega) (dk 2))
      rw [E3.out] at HI
      go_wp2_with fail
      go_at_call 20
      refine HC.out.mono ?_
      rintro e W6 ⟨rfl, ⟨X6, at1, nx1⟩, fr1⟩
      have HS6 := hide (HS5.out.step at1 nx1 fr1 HI.out)
      clear at1 nx1 fr1 HC HI
      have HR := hide (chas_ok HS6.out.at_ (dk 0))
      rw [show (lget (dk 0) [(⟨dk 1, [98], 1⟩ : CE), ⟨dk 2, [99], 0⟩]).isSome = false by simp [lget]] at HR
      go_wp2_with fail
      go_at_call 31
      refine HR.out.mono ?_
      rintro e w9 ⟨rfl, rfl⟩
      clear HR
      have HR := hide (chas_ok HS6.out.at_ (dk 1))
      rw [show (lget (dk 1) [(⟨dk 1, [98], 1⟩ : CE), ⟨dk 2, [99], 0⟩]).isSome = true by simp [lget]] at HR
      go_wp2_with fail
      go_at_call 31
      refine HR.out.mono ?_
      rintro e w9 ⟨rfl, rfl⟩
      clear HR
      have HR := hide (clen_ok HS6.out.at_)
      go_wp2_with fail
      go_at_call 21
      refine HR.out.mono ?_
      rintro e w9 ⟨rfl, rfl⟩
      clear HR
      have HC := hide (cpin_ok HS6.out.at_ HS6.out.inv (dk 2) (by simp))
      rw [d4] at HC
      have HI := hide (HS6.out.inv.pinned (by omega) (dk 2))
      rw [d4] at HI
      go_wp2_with fail
      go_at_call 39
      refine HC.out.mono ?_
      rintro e W7 ⟨rfl, ⟨X7, at1, nx1⟩, fr1⟩
      have HS7 := hide (HS6.out.step at1 nx1 fr1 HI.out)
      clear at1 nx1 fr1 HC HI
      have HC := hide (cget_ok HS7.out.at_ HS7.out.inv (dk 0) (by simp))
      rw [d5] at HC
      have HI := hide (HS7.out.inv.got (by omega) (dk 0))
      rw [d5] at HI
      go_wp2_with fail
      go_at_call 20
      refine HC.out.mono ?_
      rintro e W8 ⟨rfl, ⟨X8, at1, nx1⟩, fr1⟩
      have HS8 := hide (HS7.out.step at1 nx1 fr1 HI.out)
      clear at1 nx1 fr1 HC HI
      have HC := hide (cunpin_ok HS8.out.at_ HS8.out.inv (dk 1) (by simp))
      rw [d6] at HC
      have HI := hide (HS8.out.inv.unpinned (dk 1))
      rw [d6] at HI
      go_wp2_with fail
      go_at_call 40
      refine HC.out.mono ?_
      rintro e W9 ⟨rfl, at1, fr1⟩
      have HS9 := hide (HS8.out.step at1 (fun _ h => .inl h) fr1 HI.out)
      clear at1 fr1 HC HI
      have HC := hide (cget_ok HS9.out.at_ HS9.out.inv (dk 0) (by simp))
      rw [E7.out] at HC
      have HI := hide (HS9.out.inv.got (by omega) (dk 0))
      rw [E7.out] at HI
      go_wp2_with fail
      go_at_call 20
      refine HC.out.mono ?_
      rintro e W10 ⟨rfl, ⟨X10, at1, nx1⟩, fr1⟩
      have HS10 := hide (HS9.out.step at1 nx1 fr1 HI.out)
      clear at1 nx1 fr1 HC HI
      have HR := hide (chas_ok HS10.out.at_ (dk 1))
      rw [show (lget (dk 1) [(⟨dk 2, [99], 1⟩ : CE), ⟨dk 0, [97], 0⟩]).isSome = false by simp [lget]] at HR
      go_wp2_with fail
      go_at_call 31
      refine HR.out.mono ?_
      rintro e w9 ⟨rfl, rfl⟩
      clear HR
      have HC := hide (cunpin_ok HS10.out.at_ HS10.out.inv (dk 0) (by simp))
      rw [d8] at HC
      have HI := hide (HS10.out.inv.unpinned (dk 0))
      rw [d8] at HI
      go_wp2_with fail
      go_at_call 40
      refine HC.out.mono ?_
      rintro e W11 ⟨rfl, at1, fr1⟩
      have HS11 := hide (HS10.out.step at1 (fun _ h => .inl h) fr1 HI.out)
      clear at1 fr1 HC HI
      have HR := hide (cpinned_ok HS11.out.at_ (by simp))
      rw [show pinned [(⟨dk 2, [99], 1⟩ : CE), ⟨dk 0, [97], 0⟩] = 1 from rfl] at HR
      go_wp2_with fail
      go_at_call 29
      refine HR.out.mono ?_
      rintro e W12 ⟨rfl, hf12⟩
      have HF12 := hide (HS11.out.fr.then_ hf12)
      clear hf12
      go_wp2
      go_ret
      exact ⟨rfl, HF12.out⟩

end Go.Proofs.YtkhbemmcegmdaaaGreatDoor
end
section
set_option linter.all false
set_option linter.unusedVariables false
set_option maxRecDepth 100000
namespace Go.Proofs.YtkhbemmcegmdaaaGreatDoor
open Go.RowKit
open Go.ChangeMaps (setBlock)

abbrev ikey (z : Int) : Value := .int .i64 z
theorem key_i : KeyE Tryz.prog 3 ikey := key_int (q := .i64) Tryz.underlying3
theorem mapt : Tryz.prog.underlying 90 = some (.map 3 149) := Tryz.underlying90
theorem mapp : Tryz.prog.underlying 91 = some (.map 3 3) := Tryz.underlying91
theorem segp_zero (w : World) : (zeroValue 149).run Tryz.prog w = .ok (.pointer none) w := by simp [Tryz.zeroValue149]
theorem int_zero (w : World) : (zeroValue 3).run Tryz.prog w = .ok (.int .i64 0) w := by simp [Tryz.zeroValue3]
/-- a segment that is resident, in memory -/
structure SF where
  key : Nat
  v : List Nat
  set : Bool
  asked : Int
  blk : Nat
  vb : Nat
  born : Nat
def SF.abs (x : SF) : Seg := ⟨x.key, x.v, x.set⟩
def SF.ent (x : SF) : Ent Int := ((x.key : Int), ptr x.blk, x.born)
def SF.cells (x : SF) : Array Value := #[.slice (some ⟨x.vb, 0, none⟩) 8 8, .bool x.set, .int .i64 x.asked]
def pents : List Nat → Nat → List (Ent Int)
  | [], _ => []
  | k :: L, i => ((k : Int), .int .i64 (i : Int), i) :: pents L (i + 1)
theorem pents_get (k : Nat) : ∀ (L : List Nat) (i : Nat), aget (k : Int) (pents L i) = if k ∈ L then some (.int .i64 ((i + L.idxOf k : Nat) : Int)) else none
  | [], i => rfl
  | j :: L, i => by
    unfold pents aget
    by_cases e : k = j
    · subst e
      rw [if_pos rfl, if_pos (by simp)]
      simp
    · rw [if_neg (by simp; omega), pents_get k L (i + 1)]
      have hm : (k ∈ j :: L) ↔ k ∈ L := by simp [e]
      by_cases h : k ∈ L
      · rw [if_pos h, if_pos (hm.2 h), List.idxOf_cons, show (j == k) = false by simpa using Ne.symm e]
        simp only [cond_false]
        congr 3
        omega
      · rw [if_neg h, if_neg (fun h2 => h (hm.1 h2))]
theorem pents_snoc (k : Nat) : ∀ (L : List Nat) (i : Nat), pents (L ++ [k]) i = pents L i ++ [((k : Int), .int .i64 ((i + L.length : Nat) : Int), i + L.length)]
  | [], i => by simp [pents]
  | j :: L, i => by
    rw [List.cons_append]
    unfold pents
    rw [pents_snoc k L (i + 1), List.cons_append, List.length_cons]
    rw [show i + 1 + L.length = i + (L.length + 1) by omega]
theorem pents_len : ∀ (L : List Nat) (i : Nat), (pents L i).length = L.length
  | [], _ => rfl
  | _ :: L, i => by unfold pents; rw [List.length_cons, List.length_cons, pents_len L (i + 1)]
theorem iset_same {k : Int} {v : Value} : ∀ {L : List (Ent Int)}, aget k L = some v → aset k v L = L
  | [], h => by cases h
  | x :: L, h => by
    unfold aget at h
    unfold aset
    by_cases e : k = x.1
    · rw [if_pos e] at h ⊢
      injection h with h
      rw [e, ← h]
    · rw [if_neg e] at h ⊢
      rw [iset_same h]
theorem pents_put (PK : List Nat) (k : Nat) : aput (k : Int) (.int .i64 (spage PK k : Int)) (pents PK 0) PK.length = pents (spk PK k) 0 ∧ aclk (k : Int) (pents PK 0) PK.length = (spk PK k).length := by
  have hg := pents_get k PK 0
  unfold aput aclk spage spk
  by_cases h : k ∈ PK
  · rw [if_pos h] at hg
    rw [hg]
    simp only [Option.isSome_some, if_true, if_pos h]
    refine ⟨iset_same ?_, trivial⟩
    rw [hg]
    simp
  · rw [if_neg h] at hg
    rw [hg]
    simp only [Option.isSome_none, Bool.false_eq_true, if_false, if_neg h]
    rw [pents_snoc]
    simp
def scells (cb : Nat) (n : Name) (N : Nat) (most : Nat) (over : Bool) (there pages : Value) (ask : Int) (done : Int) : Array Value :=
  #[ptr cb, strv n, .int .i64 (N : Int), .int .i64 (most : Int), .bool over, there, pages, .int .i64 ask, .int .u32 done, .int .i32 0, .int .u32 0]
/-- a store in block sb, its segments tb, its pages' numbers pb -/
structure SRep (w : World) (sb tb pb cb : Nat) (n : Name) (N most : Nat) (ask : Int) (X : Nat → Prop) (Q : List SF) (PK : List Nat) (clock : Nat) : Prop where
  lt : ∀ k, X k → k < w.heap.size
  xs : X sb
  xt : X tb
  xp : X pb
  ntp : tb ≠ pb
  blk : Blk w sb 103 (scells cb n N most false (.map (some tb)) (.map (some pb)) ask 0)
  map : MBlk w tb ikey (Q.map SF.ent) clock
  pmap : MBlk w pb ikey (pents PK 0) PK.length
  nd : (Q.map (·.key)).Nodup
  bnd : (Q.map (·.born)).Nodup
  bclk : ∀ x ∈ Q, x.born < clock
  frm : ∀ x ∈ Q, Blk w x.blk 154 x.cells ∧ Blk w x.vb 78 (x.v.map u64v).toArray ∧ X x.blk ∧ X x.vb
  bn : (Q.map (·.blk)).Nodup
  vn : (Q.map (·.vb)).Nodup
theorem Blk.ne_map {w : World} {g b clock : Nat} {t : TypeId} {cs : Array Value} {L : List (Ent Int)} (h : Blk w g t cs) (hm : MBlk w b ikey L clock) : g ≠ b := by
  intro e
  subst e
  have h1 := h.raw
  unfold MBlk at hm
  rw [h1] at hm
  injection hm with hm
  cases hm
section
variable {w w' w1 : World} {sb tb pb cb clock N most : Nat} {X S : Nat → Prop} {ask : Int} {n : Name} {Q : List SF} {PK : List Nat}
theorem SRep.keep (h : SRep w sb tb pb cb n N most ask X Q PK clock) (hf : Fr S w w') (hs : ∀ k, X k → ¬ S k) : SRep w' sb tb pb cb n N most ask X Q PK clock :=
  { h with
    lt := fun k hk => Nat.lt_of_lt_of_le (h.lt k hk) hf.size
    blk := h.blk.fr hf (hs _ h.xs)
    map := h.map.fr hf (hs _ h.xt)
    pmap := h.pmap.fr hf (hs _ h.xp)
    frm := fun x hx => by
      obtain ⟨h1, h2, h3, h4⟩ := h.frm x hx
      exact ⟨h1.fr hf (hs _ h3), h2.fr hf (hs _ h4), h3, h4⟩ }
theorem SRep.kn (h : SRep w sb tb pb cb n N most ask X Q PK clock) : ((Q.map SF.ent).map (·.1)).Nodup := by
  rw [List.map_map]
  have := h.nd
  have e : Q.map ((fun x : Ent Int => x.1) ∘ SF.ent) = (Q.map (·.key)).map (fun k : Nat => (k : Int)) := by rw [List.map_map]; rfl
  rw [e]
  refine List.Pairwise.map _ (fun a b hab => ?_) this
  omega
theorem SRep.get_some (h : SRep w sb tb pb cb n N most ask X Q PK clock) {x : SF} (hx : x ∈ Q) : aget (x.key : Int) (Q.map SF.ent) = some (ptr x.blk) := aget_of_mem (x := x.ent) h.kn (List.mem_map_of_mem hx)
theorem SRep.get_none {Q : List SF} {k : Nat} (hk : ∀ x ∈ Q, x.key ≠ k) : aget (k : Int) (Q.map SF.ent) = none := by
  rw [aget_none_iff]
  intro hm
  rw [List.map_map] at hm
  obtain ⟨x, hx, he⟩ := List.mem_map.1 hm
  have : (x.key : Int) = (k : Int) := he
  exact hk x hx (by omega)
theorem SRep.setAsk (h : SRep w sb tb pb cb n N most ask X Q PK clock) (z : Int) : SRep (w.setCell ⟨sb, 7, none⟩ (.int .i64 z)) sb tb pb cb n N most z X Q PK clock := by
  have hf := Fr.one w sb 7 (.int .i64 z)
  exact { h with
    lt := fun k hk => Nat.lt_of_lt_of_le (h.lt k hk) hf.size
    blk := h.blk.set_ 7 _
    map := h.map.fr hf (Ne.symm (h.blk.ne_map h.map))
    pmap := h.pmap.fr hf (Ne.symm (h.blk.ne_map h.pmap))
    frm := fun x hx => by
      obtain ⟨h1, h2, h3, h4⟩ := h.frm x hx
      exact ⟨h1.fr hf (h1.ne_ h.blk (by decide)), h2.fr hf (h2.ne_ h.blk (by decide)), h3, h4⟩ }
theorem sturn_map {Q : List SF} {x x' : SF} (hn : (Q.map (·.key)).Nodup) (hx : x ∈ Q) {β : Type} (f : SF → β) (e : f x' = f x) : (Q.map fun y => if y.key = x.key then x' else y).map f = Q.map f := by
  rw [List.map_map]
  refine List.map_congr_left fun y hy => ?_
  simp only [Function.comp]
  split
  · next e2 => rw [e, nodup_inj hn hy hx e2]
  · rfl
theorem sturn_mem {Q : List SF} {x x' y' : SF} (hn : (Q.map (·.key)).Nodup) (hx : x ∈ Q) (hy' : y' ∈ (Q.map fun y => if y.key = x.key then x' else y)) : y' = x' ∨ (y' ∈ Q ∧ y' ≠ x) := by
  obtain ⟨y, hy, rfl⟩ := List.mem_map.1 hy'
  split
  · exact .inl rfl
  · next e => exact .inr ⟨hy, fun e2 => e (by rw [e2])⟩
/-- a segment's cell turned -/
theorem SRep.turn (h : SRep w sb tb pb cb n N most ask X Q PK clock) {x : SF} (hx : x ∈ Q) (x' : SF) (j : Nat) (v : Value) (h1 : x'.key = x.key) (h2 : x'.blk = x.blk) (h3 : x'.born = x.born) (h4 : x'.vb = x.vb) (h5 : x'.v = x.v) (hc : x.cells.setIfInBounds j v = x'.cells) :
    SRep (w.setCell ⟨x.blk, j, none⟩ v) sb tb pb cb n N most ask X (Q.map fun y => if y.key = x.key then x' else y) PK clock := by
  have hf := Fr.one w x.blk j v
  obtain ⟨b1, b2, b3, b4⟩ := h.frm x hx
  exact { h with
    lt := fun k hk => Nat.lt_of_lt_of_le (h.lt k hk) hf.size
    blk := h.blk.fr hf (h.blk.ne_ b1 (by decide))
    map := by
      rw [sturn_map h.nd hx SF.ent (by unfold SF.ent; rw [h1, h2, h3])]
      exact h.map.fr hf (Ne.symm (b1.ne_map h.map))
    pmap := h.pmap.fr hf (Ne.symm (b1.ne_map h.pmap))
    nd := by rw [sturn_map h.nd hx (·.key) h1]; exact h.nd
    bnd := by rw [sturn_map h.nd hx (·.born) h3]; exact h.bnd
    bclk := fun y' hy' => by
      rcases sturn_mem h.nd hx hy' with rfl | ⟨hy, _⟩
      · rw [h3]; exact h.bclk x hx
      · exact h.bclk y' hy
    frm := fun y' hy' => by
      rcases sturn_mem h.nd hx hy' with rfl | ⟨hy, hne⟩
      · rw [h2, h4, h5, ← hc]
        exact ⟨b1.set_ j v, b2.fr hf (b2.ne_ b1 (by decide)), b3, b4⟩
      · obtain ⟨c1, c2, c3⟩ := h.frm y' hy
        exact ⟨c1.fr hf (fun e => hne (nodup_inj h.bn hy hx e)), c2.fr hf (c2.ne_ b1 (by decide)), c3⟩
    bn := by rw [sturn_map h.nd hx (·.blk) h2]; exact h.bn
    vn := by rw [sturn_map h.nd hx (·.vb) h4]; exact h.vn }
/-- a number set -/
theorem SRep.setv (h : SRep w sb tb pb cb n N most ask X Q PK clock) {x : SF} (hx : x ∈ Q) (r y : Nat) :
    SRep (w.setCell ⟨x.vb, r, none⟩ (.int .u64 (y : Int))) sb tb pb cb n N most ask X (Q.map fun z => if z.key = x.key then { x with v := x.v.set r y } else z) PK clock := by
  have hf := Fr.one w x.vb r (.int .u64 (y : Int))
  obtain ⟨b1, b2, b3, b4⟩ := h.frm x hx
  exact { h with
    lt := fun k hk => Nat.lt_of_lt_of_le (h.lt k hk) hf.size
    blk := h.blk.fr hf (h.blk.ne_ b2 (by decide))
    map := by
      rw [sturn_map (x' := { x with v := x.v.set r y }) h.nd hx SF.ent rfl]
      exact h.map.fr hf (Ne.symm (b2.ne_map h.map))
    pmap := h.pmap.fr hf (Ne.symm (b2.ne_map h.pmap))
    nd := by rw [sturn_map (x' := { x with v := x.v.set r y }) h.nd hx (·.key) rfl]; exact h.nd
    bnd := by rw [sturn_map (x' := { x with v := x.v.set r y }) h.nd hx (·.born) rfl]; exact h.bnd
    bclk := fun y' hy' => by
      rcases sturn_mem h.nd hx hy' with rfl | ⟨hy, _⟩
      · exact h.bclk x hx
      · exact h.bclk y' hy
    frm := fun y' hy' => by
      rcases sturn_mem h.nd hx hy' with rfl | ⟨hy, hne⟩
      · have hb := b2.set_ r (.int .u64 (y : Int))
        refine ⟨b1.fr hf (b1.ne_ b2 (by decide)), ?_, b3, b4⟩
        simpa [List.map_set, u64v] using hb
      · obtain ⟨c1, c2, c3⟩ := h.frm y' hy
        exact ⟨c1.fr hf (c1.ne_ b2 (by decide)), c2.fr hf (fun e => hne (nodup_inj h.vn hy hx e)), c3⟩
    bn := by rw [sturn_map (x' := { x with v := x.v.set r y }) h.nd hx (·.blk) rfl]; exact h.bn
    vn := by rw [sturn_map (x' := { x with v := x.v.set r y }) h.nd hx (·.vb) rfl]; exact h.vn }
theorem sdel {Q : List SF} (k : Nat) (hn : ((Q.map SF.ent).map (·.1)).Nodup) : adel (k : Int) (Q.map SF.ent) = (Q.filter fun x => decide (x.key ≠ k)).map SF.ent := by
  rw [adel_filter (k : Int) hn, List.filter_map]
  congr 1
  refine List.filter_congr fun x _ => ?_
  simp only [Function.comp]
  refine decide_eq_decide.2 ?_
  show ¬ ((x.key : Int) = (k : Int)) ↔ _
  omega
/-- a segment less -/
theorem SRep.del (h : SRep w sb tb pb cb n N most ask X Q PK clock) (k : Nat) : SRep (setBlock w tb (.map ((adel (k : Int) (Q.map SF.ent)).map (ent ikey)).toArray clock)) sb tb pb cb n N most ask X (Q.filter fun x => decide (x.key ≠ k)) PK clock := by
  have hf := fr_setBlock w tb (.map ((adel (k : Int) (Q.map SF.ent)).map (ent ikey)).toArray clock)
  have e1 := sdel k h.kn
  exact { h with
    lt := fun k hk => Nat.lt_of_lt_of_le (h.lt k hk) hf.size
    blk := h.blk.fr hf (h.blk.ne_map h.map)
    map := by
      have := h.map.set (adel (k : Int) (Q.map SF.ent)) clock
      rw [e1] at this ⊢
      exact this
    pmap := h.pmap.fr hf (Ne.symm h.ntp)
    nd := h.nd.sublist (List.Sublist.map _ List.filter_sublist)
    bnd := h.bnd.sublist (List.Sublist.map _ List.filter_sublist)
    bclk := fun x hx => h.bclk x (List.mem_filter.1 hx).1
    frm := fun x hx => by
      obtain ⟨h1, h2, h3⟩ := h.frm x (List.mem_filter.1 hx).1
      exact ⟨h1.fr hf (h1.ne_map h.map), h2.fr hf (h2.ne_map h.map), h3⟩
    bn := h.bn.sublist (List.Sublist.map _ List.filter_sublist)
    vn := h.vn.sublist (List.Sublist.map _ List.filter_sublist) }
/-- a page's number laid -/
theorem SRep.page (h : SRep w sb tb pb cb n N most ask X Q PK clock) (k : Nat) : SRep (setBlock w pb (.map ((aput (k : Int) (.int .i64 (spage PK k : Int)) (pents PK 0) PK.length).map (ent ikey)).toArray (aclk (k : Int) (pents PK 0) PK.length))) sb tb pb cb n N most ask X Q (spk PK k) clock := by
  have hf := fr_setBlock w pb (.map ((aput (k : Int) (.int .i64 (spage PK k : Int)) (pents PK 0) PK.length).map (ent ikey)).toArray (aclk (k : Int) (pents PK 0) PK.length))
  have hm := h.pmap.set (aput (k : Int) (.int .i64 (spage PK k : Int)) (pents PK 0) PK.length) (aclk (k : Int) (pents PK 0) PK.length)
  obtain ⟨e1, e2⟩ := pents_put PK k
  exact { h with
    lt := fun k hk => Nat.lt_of_lt_of_le (h.lt k hk) hf.size
    blk := h.blk.fr hf (h.blk.ne_map h.pmap)
    map := h.map.fr hf h.ntp
    pmap := by rw [e1, e2] at hm ⊢; exact hm
    frm := fun x hx => by
      obtain ⟨h1, h2, h3⟩ := h.frm x hx
      exact ⟨h1.fr hf (h1.ne_map h.pmap), h2.fr hf (h2.ne_map h.pmap), h3⟩ }
/-- a segment more -/
theorem SRep.add (h : SRep w sb tb pb cb n N most ask X Q PK clock) (hf : Fr S w w1) (hs : ∀ k, X k → ¬ S k) (x : SF) (hbo : x.born = clock) (hge : w.heap.size ≤ x.blk) (hgv : w.heap.size ≤ x.vb) (hb : Blk w1 x.blk 154 x.cells) (hv : Blk w1 x.vb 78 (x.v.map u64v).toArray) (hk : ∀ y ∈ Q, y.key ≠ x.key) :
    SRep (setBlock w1 tb (.map ((aput (x.key : Int) (ptr x.blk) (Q.map SF.ent) clock).map (ent ikey)).toArray (aclk (x.key : Int) (Q.map SF.ent) clock))) sb tb pb cb n N most ask (fun k => X k ∨ k = x.blk ∨ k = x.vb) (Q ++ [x]) PK (clock + 1) := by
  have hn := SRep.get_none (Q := Q) (k := x.key) hk
  have e1 : aput (x.key : Int) (ptr x.blk) (Q.map SF.ent) clock = (Q ++ [x]).map SF.ent := by unfold aput; rw [hn, List.map_append, List.map_cons, List.map_nil]; simp [SF.ent, hbo]
  have e2 : aclk (x.key : Int) (Q.map SF.ent) clock = clock + 1 := by unfold aclk; rw [hn]; rfl
  rw [e1, e2]
  have hfs := fr_setBlock w1 tb (.map (((Q ++ [x]).map SF.ent).map (ent ikey)).toArray (clock + 1))
  have h1 := h.keep hf hs
  exact {
    lt := fun k hk => by
      have := hfs.size
      have := hf.size
      rcases hk with hk | rfl | rfl
      · have := h1.lt k hk; omega
      · have := hb.lt; omega
      · have := hv.lt; omega
    xs := .inl h.xs
    xt := .inl h.xt
    xp := .inl h.xp
    ntp := h.ntp
    blk := h1.blk.fr hfs (h1.blk.ne_map h1.map)
    map := h1.map.set _ _
    pmap := h1.pmap.fr hfs (Ne.symm h.ntp)
    nd := by
      rw [List.map_append]
      refine List.nodup_append.2 ⟨h.nd, by simp, fun a ha b hb e => ?_⟩
      simp at hb
      obtain ⟨y, hy, rfl⟩ := List.mem_map.1 ha
      exact hk y hy (e.trans hb)
    bnd := by
      rw [List.map_append]
      refine List.nodup_append.2 ⟨h.bnd, by simp, fun a ha b hb e => ?_⟩
      simp at hb
      obtain ⟨y, hy, rfl⟩ := List.mem_map.1 ha
      have := h.bclk y hy
      omega
    bclk := fun y hy => by
      rcases List.mem_append.1 hy with hy | hy
      · have := h.bclk y hy; omega
      · simp at hy; subst hy; omega
    frm := fun y hy => by
      rcases List.mem_append.1 hy with hy | hy
      · obtain ⟨c1, c2, c3, c4⟩ := h1.frm y hy
        exact ⟨c1.fr hfs (c1.ne_map h1.map), c2.fr hfs (c2.ne_map h1.map), .inl c3, .inl c4⟩
      · simp at hy
        subst hy
        exact ⟨hb.fr hfs (hb.ne_map h1.map), hv.fr hfs (hv.ne_map h1.map), .inr (.inl rfl), .inr (.inr rfl)⟩
    bn := by
      rw [List.map_append]
      refine List.nodup_append.2 ⟨h.bn, by simp, fun a ha b hb e => ?_⟩
      simp at hb
      obtain ⟨y, hy, rfl⟩ := List.mem_map.1 ha
      have := h.lt _ (h.frm y hy).2.2.1
      omega
    vn := by
      rw [List.map_append]
      refine List.nodup_append.2 ⟨h.vn, by simp, fun a ha b hb e => ?_⟩
      simp at hb
      obtain ⟨y, hy, rfl⟩ := List.mem_map.1 ha
      have := h.lt _ (h.frm y hy).2.2.2
      omega }
end
end Go.Proofs.YtkhbemmcegmdaaaGreatDoor
end
section
set_option linter.all false
set_option linter.unusedVariables false
set_option maxRecDepth 100000
namespace Go.Proofs.YtkhbemmcegmdaaaGreatDoor
open Go.RowKit
open Go.ChangeMaps (setBlock)

/-- a store that is over -/
def SEnd (w : World) (sb cb : Nat) (n : Name) (N most : Nat) (d : Int) : Prop := ∃ ask pages, Blk w sb 103 (scells cb n N most true (.map none) pages ask d)
theorem snext {wr : World} {r tb clock c0 : Nat} {seen : Array Nat} {Q : List SF} (hit : wr.heap[r]? = some (.mapIter (some tb) clock seen c0)) (hm : MBlk wr tb ikey (Q.map SF.ent) clock) (hbc : ∀ x ∈ Q, x.born < clock) (hbn : (Q.map (·.born)).Nodup) (hc0 : clock ≤ c0) (hrt : r ≠ tb) :
    ((∀ y ∈ Q, seen.contains y.born = true) ∧ ∀ ty, (Instr.next (.pointer (some ⟨r, 0, none⟩)) false ty).run Tryz.prog wr = .ok (.tuple #[.bool false]) wr) ∨
    ∃ (x : SF) (W5 : World), x ∈ Q ∧ W5.heap[r]? = some (.mapIter (some tb) clock (seen.push x.born) clock) ∧ Fr (fun k => k = r) wr W5 ∧
      (∀ ty, (Instr.next (.pointer (some ⟨r, 0, none⟩)) false ty).run Tryz.prog wr = .ok (.tuple #[.bool true, .int .i64 (x.key : Int), .pointer (some ⟨x.blk, 0, none⟩)]) W5) ∧
      (Instr.entry (.pointer (some ⟨r, 0, none⟩))).run Tryz.prog W5 = .ok (.tuple #[.int .i64 (x.key : Int), .pointer (some ⟨x.blk, 0, none⟩)]) W5 ∧
      (leftOf ((Q.map SF.ent).map (ent ikey)).toArray (seen.push x.born)).size < (leftOf ((Q.map SF.ent).map (ent ikey)).toArray seen).size := by
  have hold : ∀ x ∈ ((Q.map SF.ent).map (ent ikey)).toArray.toList, x.born < clock := fun x hx => by
    rw [List.toList_toArray] at hx
    obtain ⟨y, hy, rfl⟩ := List.mem_map.1 hx
    obtain ⟨z, hz, rfl⟩ := List.mem_map.1 hy
    exact hbc z hz
  have hnext := fun ty => run_next_at (P := Tryz.prog) wr ty r tb clock c0 seen _ clock hit hm hold hc0
  have hborn : (((Q.map SF.ent).map (ent ikey)).toArray.toList.map (·.born)).Nodup := by
    rw [List.toList_toArray, List.map_map, List.map_map]
    exact hbn
  by_cases hz : (leftOf ((Q.map SF.ent).map (ent ikey)).toArray seen).size = 0
  · refine .inl ⟨fun y hy => ?_, fun ty => ?_⟩
    · unfold leftOf at hz
      rw [← Array.length_toList, Array.toList_filter, List.toList_toArray] at hz
      have h0 := List.eq_nil_of_length_eq_zero hz
      rw [List.filter_eq_nil_iff] at h0
      have := h0 (ent ikey y.ent) (List.mem_map_of_mem (List.mem_map_of_mem hy))
      simpa [ent, SF.ent] using this
    · rcases hnext ty with ⟨_, h⟩ | ⟨e, he, _⟩
      · exact h
      · have h0 := Array.eq_empty_of_size_eq_zero hz
        rw [h0] at he
        simp at he
  · rcases hnext 0 with ⟨h, _⟩ | ⟨e, he, w1, hw1, hn⟩
    · exact absurd h hz
    · have hes : e ∈ ((Q.map SF.ent).map (ent ikey)).toArray.toList ∧ seen.contains e.born = false := by
        unfold leftOf at he
        rw [Array.toList_filter] at he
        obtain ⟨h1, h2⟩ := List.mem_filter.1 he
        exact ⟨h1, by simpa using h2⟩
      obtain ⟨hem, hsn⟩ := hes
      have hless := left_less he
      have hem2 := hem
      rw [List.toList_toArray] at hem2
      obtain ⟨y, hy, rfl⟩ := List.mem_map.1 hem2
      obtain ⟨x, hx, rfl⟩ := List.mem_map.1 hy
      have hw1h : w1.heap = wr.heap := by rcases hw1 with rfl | rfl <;> rfl
      have hrlt : r < wr.heap.size := (Array.getElem?_eq_some_iff.1 hit).1
      have hfr1 : Fr (fun k => k = r) wr w1 := by
        rcases hw1 with rfl | rfl
        · exact Fr.refl _ _
        · exact (Fr.refl _ _).drew
      have hfr5 := hfr1.trans (fr_setBlock w1 r (.mapIter (some tb) clock (seen.push x.born) clock)) (fun k hk => .inl hk)
      have hit5 : (setBlock w1 r (.mapIter (some tb) clock (seen.push x.born) clock)).heap[r]? = some (.mapIter (some tb) clock (seen.push x.born) clock) := by
        unfold setBlock
        simp only
        rw [Array.getElem?_setIfInBounds_self_of_lt (by rw [hw1h]; exact hrlt)]
      refine .inr ⟨x, _, hx, hit5, hfr5, fun ty => ?_, ?_, hless⟩
      · exact hn
      · exact run_entry_at (P := Tryz.prog) _ r tb clock seen _ clock (ent ikey x.ent) hit5 (hm.fr hfr5 (Ne.symm hrt)) hem hborn
section
variable {w w' w1 : World} {sb tb pb cb clock N most : Nat} {X S : Nat → Prop} {ask : Int} {n : Name} {Q : List SF} {PK : List Nat}
theorem sstate_open (h : SRep w sb tb pb cb n N most ask X Q PK clock) : Calls Tryz.prog 132 #[.pointer (some ⟨sb, 0, none⟩)] w fun e w' => e = .returned (.int .i64 0) ∧ w = w' := by
  have c0 : w.cell? ⟨sb, 0, none⟩ = some (.pointer (some ⟨cb, 0, none⟩)) := (h.blk.cell 0).trans rfl
  have c4 : w.cell? ⟨sb, 4, none⟩ = some (.bool false) := (h.blk.cell 4).trans rfl
  clear h
  go_enter Tryz.func132, Tryz.ntmps132
  go_wp2
  go_ret
  exact ⟨rfl, rfl⟩
theorem sstate_over {d : Int} (h : SEnd w sb cb n N most d) : Calls Tryz.prog 132 #[.pointer (some ⟨sb, 0, none⟩)] w fun e w' => e = .returned (.int .i64 150) ∧ w = w' := by
  obtain ⟨ask, pages, h⟩ := h
  have c0 : w.cell? ⟨sb, 0, none⟩ = some (.pointer (some ⟨cb, 0, none⟩)) := (h.cell 0).trans rfl
  have c4 : w.cell? ⟨sb, 4, none⟩ = some (.bool true) := (h.cell 4).trans rfl
  clear h
  go_enter Tryz.func132, Tryz.ntmps132
  go_wp2
  go_ret
  exact ⟨rfl, rfl⟩
/-- nil, or a store that New did not make -/
def SNone (w : World) (v : Value) : Prop := v = .pointer none ∨ ∃ sb, v = .pointer (some ⟨sb, 0, none⟩) ∧ w.cell? ⟨sb, 0, none⟩ = some (.pointer none) ∧ w.cell? ⟨sb, 2, none⟩ = some (.int .i64 0) ∧ w.cell? ⟨sb, 5, none⟩ = some (.map none)
theorem sstate_none {v : Value} (h : SNone w v) : Calls Tryz.prog 132 #[v] w fun e w' => e = .returned (.int .i64 1) ∧ w = w' := by
  rcases h with rfl | ⟨sb, rfl, c0, _, _⟩
  · go_enter Tryz.func132, Tryz.ntmps132
    go_wp2
    go_ret
    exact ⟨rfl, rfl⟩
  · go_enter Tryz.func132, Tryz.ntmps132
    go_wp2
    go_ret
    exact ⟨rfl, rfl⟩
theorem slen_none {v : Value} (h : SNone w v) : Calls Tryz.prog 49 #[v] w fun e w' => e = .returned (.int .i64 0) ∧ w = w' := by
  rcases h with rfl | ⟨sb, rfl, c0, c2, _⟩
  · go_enter Tryz.func49, Tryz.ntmps49
    go_wp2
    go_ret
    exact ⟨rfl, rfl⟩
  · go_enter Tryz.func49, Tryz.ntmps49
    go_wp2
    go_ret
    exact ⟨rfl, rfl⟩
theorem sres_none {v : Value} (h : SNone w v) : Calls Tryz.prog 44 #[v] w fun e w' => e = .returned (.int .i64 0) ∧ w = w' := by
  rcases h with rfl | ⟨sb, rfl, c0, c2, c5⟩
  · go_enter Tryz.func44, Tryz.ntmps44
    go_wp2
    go_ret
    exact ⟨rfl, rfl⟩
  · have hln : (Builtin.len_ #[90] 3 #[.map none]).run Tryz.prog w = .ok (.int .i64 0) w := by simp [Builtin.len_, run_underlying mapt, goInt]
    go_enter Tryz.func44, Tryz.ntmps44
    go_wp2
    go_ret
    exact ⟨rfl, rfl⟩
theorem slen_open (h : SRep w sb tb pb cb n N most ask X Q PK clock) : Calls Tryz.prog 49 #[.pointer (some ⟨sb, 0, none⟩)] w fun e w' => e = .returned (.int .i64 (N : Int)) ∧ w = w' := by
  have c2 : w.cell? ⟨sb, 2, none⟩ = some (.int .i64 (N : Int)) := (h.blk.cell 2).trans rfl
  clear h
  go_enter Tryz.func49, Tryz.ntmps49
  go_wp2
  go_ret
  exact ⟨rfl, rfl⟩
theorem slen_over {d : Int} (h : SEnd w sb cb n N most d) : Calls Tryz.prog 49 #[.pointer (some ⟨sb, 0, none⟩)] w fun e w' => e = .returned (.int .i64 (N : Int)) ∧ w = w' := by
  obtain ⟨ask, pages, h⟩ := h
  have c2 : w.cell? ⟨sb, 2, none⟩ = some (.int .i64 (N : Int)) := (h.cell 2).trans rfl
  clear h
  go_enter Tryz.func49, Tryz.ntmps49
  go_wp2
  go_ret
  exact ⟨rfl, rfl⟩
theorem sres_open (h : SRep w sb tb pb cb n N most ask X Q PK clock) : Calls Tryz.prog 44 #[.pointer (some ⟨sb, 0, none⟩)] w fun e w' => e = .returned (.int .i64 (Q.length : Int)) ∧ w = w' := by
  have c5 : w.cell? ⟨sb, 5, none⟩ = some (.map (some tb)) := (h.blk.cell 5).trans rfl
  have hln := len_ok (P := Tryz.prog) mapt h.map 3
  rw [List.length_map] at hln
  clear h
  go_enter Tryz.func44, Tryz.ntmps44
  go_wp2
  go_ret
  exact ⟨rfl, rfl⟩
theorem sres_over {d : Int} (h : SEnd w sb cb n N most d) : Calls Tryz.prog 44 #[.pointer (some ⟨sb, 0, none⟩)] w fun e w' => e = .returned (.int .i64 0) ∧ w = w' := by
  obtain ⟨ask, pages, h⟩ := h
  have c5 : w.cell? ⟨sb, 5, none⟩ = some (.map none) := (h.cell 5).trans rfl
  have hln : (Builtin.len_ #[90] 3 #[.map none]).run Tryz.prog w = .ok (.int .i64 0) w := by simp [Builtin.len_, run_underlying mapt, goInt]
  clear h
  go_enter Tryz.func44, Tryz.ntmps44
  go_wp2
  go_ret
  exact ⟨rfl, rfl⟩
theorem send_ok {over : Bool} {there pages : Value} {d : Int} (h : Blk w sb 103 (scells cb n N most over there pages ask d)) : Calls Tryz.prog 91 #[.pointer (some ⟨sb, 0, none⟩)] w fun e w' => e = .returned (.tuple #[]) ∧ Blk w' sb 103 (scells cb n N most true (.map none) pages ask d) ∧ Fr (fun k => k = sb) w w' := by
  have f4 := h.frozen 4
  have f5 := h.frozen 5
  have c4 : w.cell? ⟨sb, 4, none⟩ = some (.bool over) := (h.cell 4).trans rfl
  have c5 : w.cell? ⟨sb, 5, none⟩ = some there := (h.cell 5).trans rfl
  have HB := hide h
  clear h
  go_enter Tryz.func91, Tryz.ntmps91
  go_wp2
  go_end0
  refine ⟨rfl, ?_, ((Fr.refl (fun k => k = sb) w).setCell (p := ⟨sb, 4, none⟩) (.inl rfl) _).setCell (p := ⟨sb, 5, none⟩) (.inl rfl) _⟩
  exact (HB.out.set_ 4 _).set_ 5 _
theorem sold_ok (h : SRep w sb tb pb cb n N most ask X Q PK clock) (hne : Q ≠ []) : Calls Tryz.prog 171 #[.pointer (some ⟨sb, 0, none⟩)] w fun e w' => (∃ x ∈ Q, e = .returned (.int .i64 (x.key : Int))) ∧ Fr (fun _ => False) w w' := by
  have c5 : w.cell? ⟨sb, 5, none⟩ = some (.map (some tb)) := (h.blk.cell 5).trans rfl
  have hrg := run_range_map (P := Tryz.prog) w _ _ _ tb _ clock mapt h.map
  have HH := hide h
  have HNE := hide hne
  clear h hne
  go_enter Tryz.func171, Tryz.ntmps171
  go_wp2
  go_loopw [3] (fun o wr => ∃ (out : Int) (seen : Array Nat) (c0 : Nat), o = .int .i64 out ∧ clock ≤ c0 ∧ wr.heap[w.heap.size]? = some (.mapIter (some tb) clock seen c0) ∧ Fr (fun _ => False) w wr ∧ ((out = -1 ∧ seen = #[]) ∨ ∃ x ∈ Q, out = (x.key : Int))) (fun _ wr => itLeft wr w.heap.size tb)
  case atStart => exact ⟨-1, #[], clock, rfl, Nat.le_refl _, heap_alloc_new w _, (Fr.refl _ _).alloc _, .inl ⟨rfl, rfl⟩⟩
  case round =>
    obtain ⟨out, seen, c0, rfl, hc0, hit, hfr, hout⟩ := hrel
    have hm := HH.out.map.fr hfr id
    have hrt : w.heap.size ≠ tb := fun e => by have := HH.out.lt tb HH.out.xt; omega
    have HM : Hid (itLeft wr w.heap.size tb = (leftOf ((Q.map SF.ent).map (ent ikey)).toArray seen).size) := by
      show _ = _
      unfold itLeft
      rw [hit, show wr.heap[tb]? = some (.map ((Q.map SF.ent).map (ent ikey)).toArray clock) from hm]
    rcases snext hit hm HH.out.bclk HH.out.bnd hc0 hrt with ⟨hall, hnext⟩ | ⟨x, W5, hx, hit5, hf5, hnext, hentry, hless⟩
    · have HFR := hide hfr
      have HO : Hid (∃ x ∈ Q, out = (x.key : Int)) := by
        rcases hout with ⟨_, rfl⟩ | h
        · obtain ⟨y, hy⟩ := List.exists_mem_of_ne_nil Q HNE.out
          have := hall y hy
          simp at this
        · exact h
      clear hall hm hit hfr hout
      go_wp2
      go_ret
      obtain ⟨x, hx, rfl⟩ := HO.out
      exact ⟨⟨x, hx, rfl⟩, HFR.out⟩
    · have hfr5 := hfr.trans hf5 (fun k hk => .inr (by omega))
      have H5 := hide (And.intro hit5 (And.intro hfr5 hless))
      have HTB : Hid (W5.heap[tb]? = some (.map ((Q.map SF.ent).map (ent ikey)).toArray clock)) := hm.fr hf5 (Ne.symm hrt)
      have HX := hide hx
      have hm5 := HH.out.map.fr hfr5 id
      have p0 : W5.cell? ⟨x.blk, 2, none⟩ = some (.int .i64 x.asked) := (((HH.out.frm x hx).1.fr hfr5 id).cell 2).trans rfl
      have p1 : W5.cell? ⟨sb, 5, none⟩ = some (.map (some tb)) := ((HH.out.blk.fr hfr5 id).cell 5).trans rfl
      obtain ⟨xb, hxb⟩ : ∃ xb, x.blk = xb := ⟨_, rfl⟩
      obtain ⟨xa, hxa⟩ : ∃ xa, x.asked = xa := ⟨_, rfl⟩
      rw [hxb, hxa] at p0
      rw [hxb] at hnext hentry
      have PC := hide (fun W (hS : Fr (fun _ => False) W5 W) => (⟨hS.cell p0 id, hS.cell p1 id⟩ : W.cell? ⟨xb, 2, none⟩ = some (.int .i64 xa) ∧ W.cell? ⟨sb, 5, none⟩ = some (.map (some tb))))
      rcases hout with ⟨rfl, _⟩ | ⟨o, ho, rfl⟩
      · clear hit5 hf5 hless hm hit hfr hx hfr5 hm5 p0 p1 hxb hxa
        go_wp2_with fail
        refine wp_region_reads (fun W => Fr (fun _ => False) W5 W) (by kernel_rfl) (by kernel_rfl) (Fr.refl _ _).drew ?_
        iterate 3
          refine readsY_cons ?_ ?_ (fun W hS => ?_) ?_
          · rfl
          rotate_left
          · (obtain ⟨s0, s1⟩ := PC.out W hS; go_simp; try with_reducible rfl)
          simp only [List.getElem_toArray, List.getElem_cons_zero, List.getElem_cons_succ, Act.put, List.setIfInBounds_toArray, List.set_cons_zero, List.set_cons_succ]
        iterate 14
          refine readsY_skip ?_ ?_
          · rfl
          simp only [List.getElem_toArray, List.getElem_cons_zero, List.getElem_cons_succ, Act.put, List.setIfInBounds_toArray, List.set_cons_zero, List.set_cons_succ]
        iterate 1
          refine readsY_cons ?_ ?_ (fun W hS => ?_) ?_
          · rfl
          rotate_left
          · (obtain ⟨s0, s1⟩ := PC.out W hS; go_simp; try with_reducible rfl)
          simp only [List.getElem_toArray, List.getElem_cons_zero, List.getElem_cons_succ, Act.put, List.setIfInBounds_toArray, List.set_cons_zero, List.set_cons_succ]
        simp only [wpReadsY]
        refine NoPanic.normal ?_
        go_wp2
        go_roundw
        case rel => exact ⟨x.key, seen.push x.born, clock, rfl, Nat.le_refl _, H5.out.1, H5.out.2.1.drew, .inr ⟨x, HX.out, rfl⟩⟩
        case measure =>
          rw [HM.out]
          refine Nat.lt_of_le_of_lt (Nat.le_of_eq ?_) H5.out.2.2
          unfold itLeft
          rw [show W5.drew.heap[w.heap.size]? = some (.mapIter (some tb) clock (seen.push x.born) clock) from H5.out.1, show W5.drew.heap[tb]? = some (.map ((Q.map SF.ent).map (ent ikey)).toArray clock) from HTB.out]
      · have HLO := hide (fun W (hS : Fr (fun _ => False) W5 W) => (⟨by
          have := lookup_v (P := Tryz.prog) key_i mapt segp_zero (hm5.fr hS id) (o.key : Int)
          rw [HH.out.get_some ho] at this
          exact this, hS.cell ((((HH.out.frm o ho).1.fr hfr5 id).cell 2).trans rfl) id⟩ : (Instr.lookup 90 (.map (some tb)) (.int .i64 (o.key : Int)) false).run Tryz.prog W = .ok (.pointer (some ⟨o.blk, 0, none⟩)) W ∧ W.cell? ⟨o.blk, 2, none⟩ = some (.int .i64 o.asked)))
        have HO := hide ho
        have k0 : decide ((o.key : Int) < 0) = false := by simp
        generalize hob : o.blk = ob at *
        generalize hoa : o.asked = oa at *
        clear hit5 hf5 hless hm hit hfr hx hfr5 hm5 p0 p1 hxb hxa ho hob hoa
        by_cases hlt : xa < oa
        · have b1 : decide (xa < oa) = true := by simpa using hlt
          go_wp2_with fail
          refine wp_region_reads (fun W => Fr (fun _ => False) W5 W) (by kernel_rfl) (by kernel_rfl) (Fr.refl _ _).drew ?_
          iterate 18
            refine readsY_cons ?_ ?_ (fun W hS => ?_) ?_
            · rfl
            rotate_left
            · (obtain ⟨s0, s1⟩ := PC.out W hS; obtain ⟨s6, s7⟩ := HLO.out W hS; go_simp; try with_reducible rfl)
            simp only [List.getElem_toArray, List.getElem_cons_zero, List.getElem_cons_succ, Act.put, List.setIfInBounds_toArray, List.set_cons_zero, List.set_cons_succ, k0, b1]
          simp only [wpReadsY]
          refine NoPanic.normal ?_
          go_wp2
          go_roundw
          case rel => exact ⟨x.key, seen.push x.born, clock, rfl, Nat.le_refl _, H5.out.1, H5.out.2.1.drew, .inr ⟨x, HX.out, rfl⟩⟩
          case measure =>
            rw [HM.out]
            refine Nat.lt_of_le_of_lt (Nat.le_of_eq ?_) H5.out.2.2
            unfold itLeft
            rw [show W5.drew.heap[w.heap.size]? = some (.mapIter (some tb) clock (seen.push x.born) clock) from H5.out.1, show W5.drew.heap[tb]? = some (.map ((Q.map SF.ent).map (ent ikey)).toArray clock) from HTB.out]
        · have b1 : decide (xa < oa) = false := by simpa using hlt
          go_wp2_with fail
          refine wp_region_reads (fun W => Fr (fun _ => False) W5 W) (by kernel_rfl) (by kernel_rfl) (Fr.refl _ _).drew ?_
          iterate 18
            refine readsY_cons ?_ ?_ (fun W hS => ?_) ?_
            · rfl
            rotate_left
            · (obtain ⟨s0, s1⟩ := PC.out W hS; obtain ⟨s6, s7⟩ := HLO.out W hS; go_simp; try with_reducible rfl)
            simp only [List.getElem_toArray, List.getElem_cons_zero, List.getElem_cons_succ, Act.put, List.setIfInBounds_toArray, List.set_cons_zero, List.set_cons_succ, k0, b1]
          simp only [wpReadsY]
          refine NoPanic.normal ?_
          go_wp2
          go_roundw
          case rel => exact ⟨o.key, seen.push x.born, clock, rfl, Nat.le_refl _, H5.out.1, H5.out.2.1.drew, .inr ⟨o, HO.out, rfl⟩⟩
          case measure =>
            rw [HM.out]
            refine Nat.lt_of_le_of_lt (Nat.le_of_eq ?_) H5.out.2.2
            unfold itLeft
            rw [show W5.drew.heap[w.heap.size]? = some (.mapIter (some tb) clock (seen.push x.born) clock) from H5.out.1, show W5.drew.heap[tb]? = some (.map ((Q.map SF.ent).map (ent ikey)).toArray clock) from HTB.out]
end
end Go.Proofs.YtkhbemmcegmdaaaGreatDoor
end
