/- CacheSame, by contract. -/
import Derived.Test.YtkhbemmcegmdaaaGreatDoorLwMost
set_option linter.all false
set_option linter.unusedVariables false
set_option maxRecDepth 100000
namespace Go.Proofs.YtkhbemmcegmdaaaGreatDoor
open Go.RowKit

set_option maxHeartbeats 3200000 in
theorem law_same (y : Nat) (hy : y < 256) (A : Option Addr) (n c : Nat) (l : List CAct) (w : World) (ha : ActsR w w.heap.size A n l) (hn : n ≤ 9223372036854775807) : Calls Tryz.prog 6 #[.int .u8 (y : Int), .slice A n c] w fun e w' => e = .returned (.bool true) ∧ Fr (fun _ => False) w w' := by
  have HG := hide (great_ok ha 100 c (by omega) hn)
  have HA0 := hide ha
  clear ha
  go_enter Tryz.func6, Tryz.ntmps6
  go_wp2_with fail
  go_at_call 23
  refine HG.out.mono ?_
  rintro e w1 ⟨hg, rfl⟩
  rcases hg with rfl | ⟨rfl, hn100, hsm⟩
  · go_wp2
    go_ret
    exact ⟨rfl, Fr.refl _ _⟩
  · have HSM := hide hsm
    clear hsm
    have HMD := hide (made_ok y hy w)
    go_wp2_with fail
    go_at_call 16
    refine HMD.out.mono ?_
    rintro e W1 ⟨cb, fb, X1, rfl, at1, nx1, _, fr1⟩
    have HS1 : Hid (St 60 (1 + y % 9) w W1 cb fb X1 ⟨-1, [], [], 0⟩) := ⟨at1, made_inv y, nx1, fr1⟩
    clear at1 nx1 fr1 HMD
    go_wp2
    go_loopw [6] (fun i wr => ∃ (k : Nat) (X : Nat → Prop) (s : CSt), i = .int .i64 (k : Int) ∧ k ≤ n ∧ St 60 (1 + y % 9) w wr cb fb X s ∧ s.clk ≤ k ∧ AllSame s) (fun i _ => n - (intOf i).toNat)
    case atStart => exact ⟨0, X1, _, rfl, by omega, HS1.out, by simp, fun x hx => by simp at hx⟩
    case round =>
      obtain ⟨k, X, s, rfl, hk, hst, hclk, hsa⟩ := hrel
      have HS := hide hst
      have HSA := hide hsa
      clear hst HS1 hsa
      by_cases hlt : k < n
      · obtain ⟨a, b, o, hka, hal, rfl, hb, s0, s1, s2, s3, s4⟩ := HA0.out.at hlt
        have hwf := HA0.out.wf a hal
        have g0 : (0 : Int) ≤ (k : Int) := by omega
        have g1 : (k : Int) < (n : Int) := by omega
        have HC := hide (fun W (hS : Fr (fun _ => False) w W) => (⟨hS.cell s0 id, hS.cell s1 id, hS.cell s2 id, hS.cell s3 id, hS.cell s4 id⟩ : W.cell? ⟨b, o + k * 5, none⟩ = some (.int .u8 (a.kind : Int)) ∧ W.cell? ⟨b, o + k * 5 + 1, none⟩ = some (.string ⟨a.name.toArray⟩) ∧ W.cell? ⟨b, o + k * 5 + 2, none⟩ = some (.int .i64 a.i) ∧ W.cell? ⟨b, o + k * 5 + 3, none⟩ = some (.string ⟨a.data.toArray⟩) ∧ W.cell? ⟨b, o + k * 5 + 4, none⟩ = some (.int .u8 (a.x.toNat : Int))))
        clear s0 s1 s2 s3 s4
        obtain ⟨s0, s1, s2, s3, s4⟩ := HC.out wr HS.out.fr
        obtain ⟨kk, hkk⟩ : ∃ kk, a.kind % 10 = kk := ⟨_, rfl⟩
        have hk1 : ((a.kind : Nat) : Int) % 10 = (kk : Int) := by omega
        have hk2 : Int.tmod ((a.kind : Nat) : Int) 10 = (kk : Int) := by rw [Int.tmod_eq_emod_of_nonneg (by omega)]; exact hk1
        by_cases h6 : kk = 6
        · have p0 : ((kk : Int) == 6) = true := by simp; omega
          go_wp2
          go_roundw
          case rel => exact ⟨k + 1, X, s, by go_num, by omega, HS.out, by omega, HSA.out⟩
          case measure => simp [intOf]; omega
        · have p0 : ((kk : Int) == 6) = false := by simp; omega
          by_cases h7 : 7 < kk
          · have p1 : decide ((7 : Int) < (kk : Int)) = true := by simp; omega
            have p2 : (7 : Int) < (kk : Int) := by omega
            go_wp2
            go_roundw
            case rel => exact ⟨k + 1, X, s, by go_num, by omega, HS.out, by omega, HSA.out⟩
            case measure => simp [intOf]; omega
          · have p1 : decide ((7 : Int) < (kk : Int)) = false := by simp; omega
            have p2 : ¬ (7 : Int) < (kk : Int) := by omega
            obtain ⟨r, hr⟩ : ∃ r, cstep 60 (1 + y % 9) a s = r := ⟨_, rfl⟩
            by_cases h2 : 2 < kk
            · have p3 : decide ((2 : Int) < (kk : Int)) = true := by simp; omega
              have p4 : (2 : Int) < (kk : Int) := by omega
              have HDN := hide (done_ok HS.out.at_ HS.out.inv a (Small.ok (HSM.out a hal) hwf) (by omega))
              have HIV := hide (HS.out.inv.step (by omega) a hwf.hi)
              have HCK := hide (cstep_clk HS.out.inv a)
              have HSA2 := hide (HSA.out.step HS.out.inv a (by omega))
              rw [hr] at HDN HIV HCK HSA2
              go_wp2_with fail
              go_at_call 27
              refine HDN.out.mono ?_
              rintro e W4 ⟨rfl, ⟨X4, at4, nx4⟩, fr4⟩
              have HS4 := hide (HS.out.step at4 nx4 fr4 HIV.out)
              clear at4 nx4 fr4 HDN
              go_wp2
              go_roundw
              case rel => exact ⟨k + 1, X4, r.2.2, by go_num, by omega, HS4.out, by have := HCK.out; omega, HSA2.out⟩
              case measure => simp [intOf]; omega
            · have p3 : decide ((2 : Int) < (kk : Int)) = false := by simp; omega
              have p4 : ¬ (2 : Int) < (kk : Int) := by omega
              by_cases he : r.2.1 = 0
              · have hgs := got_same HSA.out HS.out.inv (a := a) (by omega) (by rw [hr]; exact he)
                simp only at hgs
                rw [hr] at hgs
                have HDN := hide (done_ok HS.out.at_ HS.out.inv a (Small.ok (HSM.out a hal) hwf) (by omega))
                have HIV := hide (HS.out.inv.step (by omega) a hwf.hi)
                have HCK := hide (cstep_clk HS.out.inv a)
                have HSA2 := hide (HSA.out.step HS.out.inv a (by omega))
                rw [hr] at HDN HIV HCK HSA2
                rw [he] at HDN
                go_wp2_with fail
                go_at_call 27
                refine HDN.out.mono ?_
                rintro e W4 ⟨rfl, ⟨X4, at4, nx4⟩, fr4⟩
                have HS4 := hide (HS.out.step at4 nx4 fr4 HIV.out)
                clear at4 nx4 fr4 HDN
                have HWR := hide (HS4.out.at_.lift (fun XF hat => ffail_any hat 1099511627776))
                rw [show fsfail r.2.2.left 1099511627776 = (0, 1099511627776) from rfl] at HWR
                have HCF := hide (cfs_ok HS4.out.at_)
                go_wp2_with fail
                go_at_call 18
                refine HCF.out.mono ?_
                rintro e w9 ⟨rfl, rfl⟩
                go_wp2_with fail
                go_at_call 22
                refine HWR.out.mono ?_
                rintro e W5 ⟨rfl, ⟨X5, at5, nx5⟩, fr5⟩
                have HS5 := hide (HS4.out.step at5 nx5 fr5 (HS4.out.inv.setL (by decide) (by decide)))
                clear at5 nx5 fr5 HWR HCF
                have HCF := hide (cfs_ok (HS5.out.at_.up (Fr.refl _ _).drew))
                obtain ⟨p, hp⟩ : ∃ p, (fpg a.name r.2.2.F).getD a.i.toNat [] = p := ⟨_, rfl⟩
                obtain ⟨i1, i2, i3, i4, i5⟩ := hgs
                rw [hp] at i3 i4
                have hfrd : frd 1099511627776 r.2.2.F a.name a.i = (0, p, 1099511627775) := by
                  unfold frd
                  rw [if_pos ⟨i1, i2⟩, if_neg (by decide), hp]
                  rfl
                have HRD := hide ((HS5.out.at_.up (Fr.refl _ _).drew).lift (v := .tuple #[.string ⟨p.toArray⟩, .int .i64 0]) (left' := 1099511627775) (F' := r.2.2.F) (fun XF hat => (fread_any hat a.name a.i (by constructor <;> simp)).mono (fun e w' h => by
                  obtain ⟨rfl, h1, h2⟩ := h
                  simp only at h1 ⊢
                  rw [hfrd] at h1 ⊢
                  exact ⟨rfl, ⟨XF, h1, fun _ h => .inl h⟩, h2⟩)))
                have hpl : p.length ≤ 9223372036854775807 := by
                  have hlt : a.i.toNat < (fpg a.name r.2.2.F).length := by omega
                  rw [← hp, show (fpg a.name r.2.2.F).getD a.i.toNat [] = (fpg a.name r.2.2.F)[a.i.toNat] by simp [List.getD, hlt], HS4.out.inv.fs.pages _ _ (List.getElem_mem hlt)]
                  omega
                have HD := hide (fun w => pg_dec ⟨p.toArray⟩ w (by show p.toArray.size ≤ _; simpa using hpl))
                have e0 : ((⟨p.toArray⟩ : ByteArray)).data.toList = p := by simp
                rw [e0, i3] at HD
                unfold decR at HD
                rw [if_pos (show true = true from rfl), i4] at HD
                have hI5 := hide i5
                clear e0 hpl hfrd i1 i2 i3 i4 i5 hp
                have hss : ((⟨r.1.toArray⟩ : ByteArray) == ⟨r.1.toArray⟩) = true := by rw [MapKept.bytes_beq]
                have hss2 : ((⟨r.1.toArray⟩ : ByteArray) != ⟨r.1.toArray⟩) = false := by simp [bne, hss]
                go_wp2_with fail
                refine wp_region_ord [(0, true), (2, true), (3, true), (4, true), (5, true), (6, true), (7, true), (8, true), (9, true), (10, true), (11, true), (1, false), (12, false), (13, true), (14, true), (15, true), (16, true), (17, true)] (fun W => Fr (fun _ => False) w W) (by kernel_rfl) (by kernel_rfl) HS5.out.fr.drew ?_
                iterate 11
                  refine ord_read rfl ?_ ?_ (fun W hS => ?_) ?_
                  · rfl
                  rotate_left
                  · (obtain ⟨z0, z1, z2, z3, z4⟩ := HC.out W hS; go_simp; try with_reducible rfl)
                  simp only [List.getElem_toArray, List.getElem_cons_zero, List.getElem_cons_succ, Act.put, List.setIfInBounds_toArray, List.set_cons_zero, List.set_cons_succ]
                refine ord_act rfl ?_
                go_wp2_with fail
                go_at_call 18
                refine HCF.out.mono ?_
                rintro e w9 ⟨rfl, rfl⟩
                go_wp2
                refine midQ_ok HS5.out.fr.drew ?_
                refine ord_act rfl ?_
                go_wp2_with fail
                go_at_call 36
                refine HRD.out.mono ?_
                rintro e W6 ⟨rfl, ⟨X6, at6, nx6⟩, fr6⟩
                have HS6 := hide ((HS5.out.up (Fr.refl _ _).drew).step at6 nx6 fr6 (HS4.out.inv.setL (by decide) (by decide)))
                clear at6 nx6 fr6 HRD
                go_wp2
                refine midQ_ok HS6.out.fr ?_
                iterate 5
                  refine ord_read rfl ?_ ?_ (fun W hS => ?_) ?_
                  · rfl
                  rotate_left
                  · (skip; go_simp; try with_reducible rfl)
                  simp only [List.getElem_toArray, List.getElem_cons_zero, List.getElem_cons_succ, Act.put, List.setIfInBounds_toArray, List.set_cons_zero, List.set_cons_succ]
                refine ord_done ?_
                refine NoPanic.normal ?_
                go_wp2_with fail
                go_at_call 37
                refine (HD.out _).mono ?_
                rintro e W7 ⟨rfl, hf7⟩
                have HS7 := hide (HS6.out.up hf7)
                clear hf7
                have HHS := hide (chas_ok (HS7.out.at_.up (Fr.refl _ _).drew) a.key)
                simp only at HHS
                rw [hI5.out] at HHS
                have hkey : a.key = (a.name, a.i) := rfl
                rw [hkey] at HHS
                clear hkey
                go_wp2_with fail
                refine wp_region_ord [(0, true), (1, true), (2, true), (3, true), (4, true), (5, true), (6, true), (7, true), (8, true), (9, true), (10, true), (11, true), (12, true), (13, true), (14, true), (15, true), (16, true), (17, true), (18, true), (19, true), (20, true), (21, true), (22, true), (23, false), (24, true), (25, true)] (fun W => Fr (fun _ => False) w W) (by kernel_rfl) (by kernel_rfl) HS7.out.fr.drew ?_
                iterate 23
                  refine ord_read rfl ?_ ?_ (fun W hS => ?_) ?_
                  · rfl
                  rotate_left
                  · (obtain ⟨z0, z1, z2, z3, z4⟩ := HC.out W hS; go_simp; try with_reducible rfl)
                  simp only [List.getElem_toArray, List.getElem_cons_zero, List.getElem_cons_succ, Act.put, List.setIfInBounds_toArray, List.set_cons_zero, List.set_cons_succ]
                refine ord_act rfl ?_
                go_wp2_with fail
                go_at_call 31
                refine HHS.out.mono ?_
                rintro e w9 ⟨rfl, rfl⟩
                go_wp2
                refine midQ_ok HS7.out.fr.drew ?_
                iterate 2
                  refine ord_read rfl ?_ ?_ (fun W hS => ?_) ?_
                  · rfl
                  rotate_left
                  · (skip; go_simp; try with_reducible rfl)
                  simp only [List.getElem_toArray, List.getElem_cons_zero, List.getElem_cons_succ, Act.put, List.setIfInBounds_toArray, List.set_cons_zero, List.set_cons_succ]
                refine ord_done ?_
                refine NoPanic.normal ?_
                go_wp2
                go_roundw
                case rel => exact ⟨k + 1, X6, _, by go_num, by omega, HS7.out.up (Fr.refl _ _).drew, by have := HCK.out; simp only; omega, HSA2.out⟩
                case measure => simp [intOf]; omega
              · have q0 : (r.2.1 == 0) = false := by simpa using he
                have q1 : (r.2.1 != 0) = true := by simpa using he
                have HDN := hide (done_ok HS.out.at_ HS.out.inv a (Small.ok (HSM.out a hal) hwf) (by omega))
                have HIV := hide (HS.out.inv.step (by omega) a hwf.hi)
                have HCK := hide (cstep_clk HS.out.inv a)
                have HSA2 := hide (HSA.out.step HS.out.inv a (by omega))
                rw [hr] at HDN HIV HCK HSA2
                go_wp2_with fail
                go_at_call 27
                refine HDN.out.mono ?_
                rintro e W4 ⟨rfl, ⟨X4, at4, nx4⟩, fr4⟩
                have HS4 := hide (HS.out.step at4 nx4 fr4 HIV.out)
                clear at4 nx4 fr4 HDN
                go_wp2
                go_roundw
                case rel => exact ⟨k + 1, X4, r.2.2, by go_num, by omega, HS4.out, by have := HCK.out; omega, HSA2.out⟩
                case measure => simp [intOf]; omega
      · obtain rfl : k = n := by omega
        have HDO := hide (does07_true wr)
        go_wp2_with fail
        go_at_call 15
        refine HDO.out.mono ?_
        rintro e W9 ⟨rfl, hf9⟩
        have HF9 := hide (HS.out.fr.then_ hf9)
        clear hf9
        go_wp2
        go_ret
        exact ⟨rfl, HF9.out⟩
end Go.Proofs.YtkhbemmcegmdaaaGreatDoor
