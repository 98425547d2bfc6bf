/- CacheStays, by contract. -/
import Derived.Test.YtkhbemmcegmdaaaGreatDoorLwMost
set_option linter.all false
set_option linter.unusedVariables false
set_option maxRecDepth 100000
namespace Go.Proofs.YtkhbemmcegmdaaaGreatDoor
open Go.RowKit

theorem stay_has {room : Int} {most : Nat} {s : CSt} {k : CKey} {d : List UInt8} (hI : CInv room most s) (h : Stay k d s) : (lget k s.L).isSome = true := by
  obtain ⟨x, hx, h1, _⟩ := h
  rw [(get_some_iff hI.nd).2 ⟨hx, h1⟩]
  rfl
theorem name_kept : nameB [107, 101, 112, 116] = true := by decide +kernel
set_option maxHeartbeats 3200000 in
theorem law_stays (y : Nat) (hy : y < 256) (A0 A1 : Option Addr) (n0 c0 n1 c1 : Nat) (l0 l1 : List CAct) (dt : List UInt8) (w : World) (ha0 : ActsR w w.heap.size A0 n0 l0) (ha1 : ActsR w w.heap.size A1 n1 l1) (hn0 : n0 ≤ 9223372036854775807) (hn1 : n1 ≤ 9223372036854775807) (hdl : dt.length ≤ 9223372036854775807) :
    Calls Tryz.prog 7 #[.int .u8 (y : Int), .agg #[.slice A0 n0 c0, .slice A1 n1 c1], .string ⟨dt.toArray⟩] w fun e w' => e = .returned (.bool true) ∧ Fr (fun _ => False) w w' := by
  obtain ⟨W1, hW1⟩ : ∃ W1, W1 = w.alloc (.cells #[.slice A0 n0 c0, .slice A1 n1 c1] 69) := ⟨_, rfl⟩
  have HF1 : Hid (Fr (fun _ => False) w W1) := by rw [hW1]; exact (Fr.refl _ _).alloc _
  have HB1 : Hid (Blk W1 w.heap.size 69 #[.slice A0 n0 c0, .slice A1 n1 c1]) := by rw [hW1]; exact Blk.new w 69 _
  have HT := hide (fun W (hS : Fr (fun _ => False) W1 W) => (⟨((HB1.out.fr hS id).cell 0).trans rfl, ((HB1.out.fr hS id).cell 1).trans rfl⟩ : W.cell? ⟨w.heap.size, 0, none⟩ = some (.slice A0 n0 c0) ∧ W.cell? ⟨w.heap.size, 1, none⟩ = some (.slice A1 n1 c1)))
  have HG0 := hide (great_ok (ha0.fr HF1.out (Nat.le_refl _) (fun _ h => h.elim)) 40 c0 (by omega) hn0)
  have HG1 := hide (great_ok (ha1.fr HF1.out (Nat.le_refl _) (fun _ h => h.elim)) 60 c1 (by omega) hn1)
  have HA0 := hide ha0
  have HA1 := hide ha1
  obtain ⟨dn, hdn⟩ : ∃ dn, dt.length = dn := ⟨_, rfl⟩
  have z1 : (⟨dt.toArray⟩ : ByteArray).size = dn := by rw [← hdn]; simp [ByteArray.size]
  have HDN0 := hide hdn
  rw [hdn] at hdl
  obtain ⟨t0, t1⟩ := HT.out W1 (Fr.refl _ _)
  have HW1 := hide hW1
  clear ha0 ha1 hW1 hdn
  go_enter Tryz.func7, Tryz.ntmps7
  go_wp2_with fail
  rw [← HW1.out]
  go_wp2_with fail
  go_at_call 23
  refine HG0.out.mono ?_
  rintro e w2 ⟨hg, rfl⟩
  rcases hg with rfl | ⟨rfl, hn40, hsm0⟩
  · have HDO := hide (fun W => does07_true W)
    go_wp2_with fail
    go_at_call 15
    refine (HDO.out _).mono ?_
    rintro e W9 ⟨rfl, hf9⟩
    have HF9 := hide (HF1.out.then_ hf9)
    clear hf9
    go_wp2
    go_ret
    exact ⟨rfl, HF9.out⟩

  · have HSM0 := hide hsm0
    clear hsm0
    go_wp2_with fail
    go_at_call 23
    refine HG1.out.mono ?_
    rintro e w2 ⟨hg, rfl⟩
    rcases hg with rfl | ⟨rfl, hn60, hsm1⟩
    · have HDO := hide (fun W => does07_true W)
      go_wp2_with fail
      go_at_call 15
      refine (HDO.out _).mono ?_
      rintro e W9 ⟨rfl, hf9⟩
      have HF9 := hide (HF1.out.then_ hf9)
      clear hf9
      go_wp2
      go_ret
      exact ⟨rfl, HF9.out⟩

    · have HSM1 := hide hsm1
      clear hsm1
      by_cases hd : 122 < dn
      · have v0 : (122 : Int) < (dn : Int) := by omega
        have v1 : decide ((122 : Int) < (dn : Int)) = true := by simp; omega
        have HDO := hide (fun W => does07_true W)
        go_wp2_with fail
        go_at_call 15
        refine (HDO.out _).mono ?_
        rintro e W9 ⟨rfl, hf9⟩
        have HF9 := hide (HF1.out.then_ hf9)
        clear hf9
        go_wp2
        go_ret
        exact ⟨rfl, HF9.out⟩
      · have v0 : ¬ (122 : Int) < (dn : Int) := by omega
        have v1 : decide ((122 : Int) < (dn : Int)) = false := by simp; omega
        have HMD := hide (made_ok y hy W1)
        go_wp2_with fail
        go_at_call 16
        refine HMD.out.mono ?_
        rintro e W2 ⟨cb, fb, X1, rfl, at1, nx1, _, fr1⟩
        have HS1 : Hid (St 60 (1 + y % 9) W1 W2 cb fb X1 ⟨-1, [], [], 0⟩) := ⟨at1, made_inv y, nx1, fr1⟩
        clear at1 nx1 fr1 HMD
        go_wp2
        go_loopw [8] (fun i wr => ∃ (k : Nat) (X : Nat → Prop) (s : CSt), i = .int .i64 (k : Int) ∧ k ≤ n0 ∧ St 60 (1 + y % 9) W1 wr cb fb X s ∧ s.clk ≤ k) (fun i _ => n0 - (intOf i).toNat)
        case atStart => exact ⟨0, X1, _, rfl, by omega, HS1.out, by simp⟩
        case round =>
          obtain ⟨k, X, s, rfl, hk, hst, hclk⟩ := hrel
          have HS := hide hst
          clear hst HS1
          obtain ⟨t0, t1⟩ := HT.out wr HS.out.fr
          by_cases hlt : k < n0
          · obtain ⟨a, b, o, hka, hal, rfl, hb, s0, s1, s2, s3, s4⟩ := HA0.out.at hlt
            have hwf := HA0.out.wf a hal
            have g0 : (0 : Int) ≤ (k : Int) := by omega
            have g1 : (k : Int) < (n0 : Int) := by omega
            have HC := hide (fun W (hS : Fr (fun _ => False) w W) => (⟨hS.cell s0 id, hS.cell s1 id, hS.cell s2 id, hS.cell s3 id, hS.cell s4 id⟩ : W.cell? ⟨b, o + k * 5, none⟩ = some (.int .u8 (a.kind : Int)) ∧ W.cell? ⟨b, o + k * 5 + 1, none⟩ = some (.string ⟨a.name.toArray⟩) ∧ W.cell? ⟨b, o + k * 5 + 2, none⟩ = some (.int .i64 a.i) ∧ W.cell? ⟨b, o + k * 5 + 3, none⟩ = some (.string ⟨a.data.toArray⟩) ∧ W.cell? ⟨b, o + k * 5 + 4, none⟩ = some (.int .u8 (a.x.toNat : Int))))
            clear s0 s1 s2 s3 s4
            obtain ⟨s0, s1, s2, s3, s4⟩ := HC.out wr (HF1.out.then_ HS.out.fr)
            have HDN := hide (done_ok HS.out.at_ HS.out.inv a (Small.ok (HSM0.out a hal) hwf) (by omega))
            have HIV := hide (HS.out.inv.step (by omega) a hwf.hi)
            have HCK := hide (cstep_clk HS.out.inv a)
            go_wp2_with fail
            go_at_call 27
            refine HDN.out.mono ?_
            rintro e W4 ⟨rfl, ⟨X4, at4, nx4⟩, fr4⟩
            have HS4 := hide (HS.out.step at4 nx4 fr4 HIV.out)
            clear at4 nx4 fr4 HDN
            go_wp2
            go_roundw
            case rel => exact ⟨k + 1, X4, _, by go_num, by omega, HS4.out, by have := HCK.out; omega⟩
            case measure => simp [intOf]; omega
          · obtain rfl : k = n0 := by omega
            have HCF := hide (cfs_ok HS.out.at_)
            have HWR := hide (HS.out.at_.lift (fun XF hat => ffail_any hat 1099511627776))
            rw [show fsfail s.left 1099511627776 = (0, 1099511627776) from rfl] at HWR
            go_wp2_with fail
            go_at_call 18
            refine HCF.out.mono ?_
            rintro e w9 ⟨rfl, rfl⟩
            go_wp2_with fail
            go_at_call 22
            refine HWR.out.mono ?_
            rintro e W5 ⟨rfl, ⟨X5, at5, nx5⟩, fr5⟩
            have HS5 := hide (HS.out.step at5 nx5 fr5 (HS.out.inv.setL (by decide) (by decide)))
            clear at5 nx5 fr5 HWR HCF
            obtain ⟨s5, hs5⟩ : ∃ s5 : CSt, ({ s with left := 1099511627776 } : CSt) = s5 := ⟨_, rfl⟩
            rw [hs5] at HS5
            have hclk5 : s5.clk ≤ k := by rw [← hs5]; exact hclk
            clear hs5
            have HPT := hide (cput_ok HS5.out.at_ HS5.out.inv ([107, 101, 112, 116], 0) dt (by omega) (by simp) (by rw [HDN0.out]; exact hdl))
            have HIP := hide (HS5.out.inv.putted (by omega) ([107, 101, 112, 116], 0) dt)
            have HPC := hide (show (cput 60 (1 + y % 9) ([107, 101, 112, 116], 0) dt s5).2.clk ≤ s5.clk + 1 from by
              have := cstep_clk HS5.out.inv ⟨4, [107, 101, 112, 116], 0, dt, 0⟩ (room := 60) (most := 1 + y % 9)
              exact this)
            have HPE := hide (fun h => put_err (room := 60) (most := 1 + y % 9) (k := (([107, 101, 112, 116], 0) : CKey)) (d := dt) HS5.out.inv.nd (by rw [HDN0.out]; omega) name_kept rfl h)
            have HPH := hide (fun h => put_there (room := 60) (most := 1 + y % 9) (k := (([107, 101, 112, 116], 0) : CKey)) (d := dt) HS5.out.inv.nd h)
            obtain ⟨r, hr⟩ : ∃ r, cput 60 (1 + y % 9) ([107, 101, 112, 116], 0) dt s5 = r := ⟨_, rfl⟩
            rw [hr] at HPT HIP HPC HPE HPH
            clear hr
            go_wp2_with fail
            go_at_call 38
            refine HPT.out.mono ?_
            rintro e W6 ⟨rfl, ⟨X6, at6, nx6⟩, fr6⟩
            have HS6 := hide (HS5.out.step at6 nx6 fr6 HIP.out)
            clear at6 nx6 fr6 HPT
            by_cases he : r.1 = 0
            · rw [he]
              have hth := HPH.out he
              have HPI := hide (cpin_ok HS6.out.at_ HS6.out.inv ([107, 101, 112, 116], 0) (by have := HPC.out; omega))
              have HI7 := hide (HS6.out.inv.pinned (by omega) ([107, 101, 112, 116], 0))
              have HCK7 := hide (show (cpin (1 + y % 9) ([107, 101, 112, 116], 0) r.2).2.2.clk ≤ r.2.clk + 1 from by
                have := cstep_clk HS6.out.inv ⟨2, [107, 101, 112, 116], 0, dt, 0⟩ (room := 60) (most := 1 + y % 9)
                exact this)
              obtain ⟨e1, e2, e3⟩ := pin_there HS6.out.inv hth
              obtain ⟨p, hp⟩ : ∃ p, cpin (1 + y % 9) ([107, 101, 112, 116], 0) r.2 = p := ⟨_, rfl⟩
              rw [hp] at HPI HI7 HCK7 e1 e2 e3
              rw [e1, e2] at HPI
              have HST0 := hide e3
              have hss : ((⟨dt.toArray⟩ : ByteArray) == ⟨dt.toArray⟩) = true := by rw [MapKept.bytes_beq]
              have hss2 : ((⟨dt.toArray⟩ : ByteArray) != ⟨dt.toArray⟩) = false := by simp [bne, hss]
              clear hth hp e1 e2 e3
              go_wp2_with fail
              go_at_call 39
              refine HPI.out.mono ?_
              rintro e W7 ⟨rfl, ⟨X7, at7, nx7⟩, fr7⟩
              have HS7 := hide (HS6.out.step at7 nx7 fr7 HI7.out)
              clear at7 nx7 fr7 HPI
              go_wp2
              go_loopw [11] (fun i wr => ∃ (k2 : Nat) (X : Nat → Prop) (s : CSt), i = .int .i64 (k2 : Int) ∧ k2 ≤ n1 ∧ St 60 (1 + y % 9) W1 wr cb fb X s ∧ s.clk ≤ k + 2 + k2 ∧ Stay ([107, 101, 112, 116], 0) dt s) (fun i _ => n1 - (intOf i).toNat)
              case atStart => exact ⟨0, X7, p.2.2, rfl, by omega, HS7.out, by have := HCK7.out; have := HPC.out; omega, HST0.out⟩
              case round =>
                obtain ⟨k2, X8, s8, rfl, hk2, hst8, hclk8, hsty⟩ := hrel
                have HSx := hide hst8
                have HST := hide hsty
                clear hst8 hsty HS7 HST0
                obtain ⟨t0, t1⟩ := HT.out wr HSx.out.fr
                by_cases hlt2 : k2 < n1
                · obtain ⟨a, b, o, hka, hal, rfl, hb, s0, s1, s2, s3, s4⟩ := HA1.out.at hlt2
                  have hwf := HA1.out.wf a hal
                  have g0 : (0 : Int) ≤ (k2 : Int) := by omega
                  have g1 : (k2 : Int) < (n1 : Int) := by omega
                  have HC := hide (fun W (hS : Fr (fun _ => False) w W) => (⟨hS.cell s0 id, hS.cell s1 id, hS.cell s2 id, hS.cell s3 id, hS.cell s4 id⟩ : W.cell? ⟨b, o + k2 * 5, none⟩ = some (.int .u8 (a.kind : Int)) ∧ W.cell? ⟨b, o + k2 * 5 + 1, none⟩ = some (.string ⟨a.name.toArray⟩) ∧ W.cell? ⟨b, o + k2 * 5 + 2, none⟩ = some (.int .i64 a.i) ∧ W.cell? ⟨b, o + k2 * 5 + 3, none⟩ = some (.string ⟨a.data.toArray⟩) ∧ W.cell? ⟨b, o + k2 * 5 + 4, none⟩ = some (.int .u8 (a.x.toNat : Int))))
                  clear s0 s1 s2 s3 s4
                  obtain ⟨s0, s1, s2, s3, s4⟩ := HC.out wr (HF1.out.then_ HSx.out.fr)
                  have HSx3 : Hid (St 60 (1 + y % 9) W1 (wr.alloc (.cells #[.int .u8 (a.kind : Int), .string ⟨a.name.toArray⟩, .int .i64 a.i, .string ⟨a.data.toArray⟩, .int .u8 (a.x.toNat : Int)] 52)) cb fb X8 s8) := HSx.out.up ((Fr.refl _ _).alloc _)
                  obtain ⟨kk, hkk⟩ : ∃ kk, a.kind % 10 = kk := ⟨_, rfl⟩
                  have hk1 : ((a.kind : Nat) : Int) % 10 = (kk : Int) := by omega
                  have hk2' : Int.tmod ((a.kind : Nat) : Int) 10 = (kk : Int) := by rw [Int.tmod_eq_emod_of_nonneg (by omega)]; exact hk1
                  by_cases hnm : a.name = [107, 101, 112, 116]
                  · have x0 : ((⟨a.name.toArray⟩ : ByteArray) == ⟨#[107, 101, 112, 116]⟩) = true := by rw [hnm]; rfl
                    have x0' : (a.name == [107, 101, 112, 116]) = true := by rw [hnm]; rfl
                    have HNM := hide hnm
                    clear hnm
                    by_cases k3 : kk = 3
                    · have y3 : ((kk : Int) == 3) = true := by simp; omega
                      go_wp2
                      go_roundw
                      case rel => exact ⟨k2 + 1, X8, s8, by go_num, by omega, HSx3.out, by omega, HST.out⟩
                      case measure => simp [intOf]; omega
                    · have y3 : ((kk : Int) == 3) = false := by simp; omega
                      by_cases k4 : kk = 4
                      · have y4 : ((kk : Int) == 4) = true := by simp; omega
                        go_wp2
                        go_roundw
                        case rel => exact ⟨k2 + 1, X8, s8, by go_num, by omega, HSx3.out, by omega, HST.out⟩
                        case measure => simp [intOf]; omega
                      · have y4 : ((kk : Int) == 4) = false := by simp; omega
                        by_cases k5 : kk = 5
                        · have y5 : ((kk : Int) == 5) = true := by simp; omega
                          go_wp2
                          go_roundw
                          case rel => exact ⟨k2 + 1, X8, s8, by go_num, by omega, HSx3.out, by omega, HST.out⟩
                          case measure => simp [intOf]; omega
                        · have y5 : ((kk : Int) == 5) = false := by simp; omega
                          have hst3 : a.name = [107, 101, 112, 116] → a.kind % 10 ≠ 3 ∧ a.kind % 10 ≠ 4 ∧ a.kind % 10 ≠ 5 := fun _ => by omega
                          have HDN := hide (done_ok HSx3.out.at_ HSx3.out.inv a (Small.ok (HSM1.out a hal) hwf) (by omega))
                          have HIV := hide (HSx3.out.inv.step (by omega) a hwf.hi)
                          have HCK := hide (cstep_clk HSx3.out.inv a)
                          have HST2 := hide (HST.out.step HSx3.out.inv a hst3)
                          go_wp2_with fail
                          go_at_call 27
                          refine HDN.out.mono ?_
                          rintro e W5 ⟨rfl, ⟨X5, at5, nx5⟩, fr5⟩
                          have HS5 := hide (HSx3.out.step at5 nx5 fr5 HIV.out)
                          clear at5 nx5 fr5 HDN
                          have HHS := hide (chas_ok HS5.out.at_ ([107, 101, 112, 116], 0))
                          rw [stay_has HS5.out.inv HST2.out] at HHS
                          have HPN := hide (cpinned_ok HS5.out.at_ (Nat.le_trans HS5.out.inv.len (by omega)))
                          obtain ⟨pn, hpn⟩ : ∃ pn, pinned (cstep 60 (1 + y % 9) a s8).2.2.L = pn := ⟨_, rfl⟩
                          have hp1 : 1 ≤ pn := by rw [← hpn]; exact HST2.out.pinned
                          rw [hpn] at HPN
                          have v5 : ¬ (pn : Int) < 1 := by omega
                          have v6 : decide ((pn : Int) < 1) = false := by simp; omega
                          go_wp2_with fail
                          go_at_call 31
                          refine HHS.out.mono ?_
                          rintro e w9 ⟨rfl, rfl⟩
                          go_wp2_with fail
                          go_at_call 29
                          refine HPN.out.mono ?_
                          rintro e W6 ⟨rfl, hf6⟩
                          have HS6 := hide (HS5.out.up hf6)
                          clear hf6
                          go_wp2
                          go_roundw
                          case rel => exact ⟨k2 + 1, X5, _, by go_num, by omega, HS6.out, by have := HCK.out; omega, HST2.out⟩
                          case measure => simp [intOf]; omega
                  · have x0 : ((⟨a.name.toArray⟩ : ByteArray) == ⟨#[107, 101, 112, 116]⟩) = false := by
                      rw [Bool.eq_false_iff]
                      intro h
                      rw [MapKept.bytes_beq] at h
                      exact hnm (by simpa using h)
                    have x0' : (a.name == [107, 101, 112, 116]) = false := by simpa using hnm
                    have hst3 : a.name = [107, 101, 112, 116] → a.kind % 10 ≠ 3 ∧ a.kind % 10 ≠ 4 ∧ a.kind % 10 ≠ 5 := fun h => absurd h hnm
                    have HNM := hide hnm
                    clear hnm
                    have HDN := hide (done_ok HSx3.out.at_ HSx3.out.inv a (Small.ok (HSM1.out a hal) hwf) (by omega))
                    have HIV := hide (HSx3.out.inv.step (by omega) a hwf.hi)
                    have HCK := hide (cstep_clk HSx3.out.inv a)
                    have HST2 := hide (HST.out.step HSx3.out.inv a hst3)
                    go_wp2_with fail
                    go_at_call 27
                    refine HDN.out.mono ?_
                    rintro e W5 ⟨rfl, ⟨X5, at5, nx5⟩, fr5⟩
                    have HS5 := hide (HSx3.out.step at5 nx5 fr5 HIV.out)
                    clear at5 nx5 fr5 HDN
                    have HHS := hide (chas_ok HS5.out.at_ ([107, 101, 112, 116], 0))
                    rw [stay_has HS5.out.inv HST2.out] at HHS
                    have HPN := hide (cpinned_ok HS5.out.at_ (Nat.le_trans HS5.out.inv.len (by omega)))
                    obtain ⟨pn, hpn⟩ : ∃ pn, pinned (cstep 60 (1 + y % 9) a s8).2.2.L = pn := ⟨_, rfl⟩
                    have hp1 : 1 ≤ pn := by rw [← hpn]; exact HST2.out.pinned
                    rw [hpn] at HPN
                    have v5 : ¬ (pn : Int) < 1 := by omega
                    have v6 : decide ((pn : Int) < 1) = false := by simp; omega
                    go_wp2_with fail
                    go_at_call 31
                    refine HHS.out.mono ?_
                    rintro e w9 ⟨rfl, rfl⟩
                    go_wp2_with fail
                    go_at_call 29
                    refine HPN.out.mono ?_
                    rintro e W6 ⟨rfl, hf6⟩
                    have HS6 := hide (HS5.out.up hf6)
                    clear hf6
                    go_wp2
                    go_roundw
                    case rel => exact ⟨k2 + 1, X5, _, by go_num, by omega, HS6.out, by have := HCK.out; omega, HST2.out⟩
                    case measure => simp [intOf]; omega
                · obtain rfl : k2 = n1 := by omega
                  have HG9 := hide (cget_ok HSx.out.at_ HSx.out.inv ([107, 101, 112, 116], 0) (by omega))
                  obtain ⟨e1, e2⟩ := HST.out.got HSx.out.inv
                  have HI9 := hide (HSx.out.inv.got (by omega) ([107, 101, 112, 116], 0))
                  rw [e1, e2] at HG9
                  clear e1 e2
                  go_wp2_with fail
                  go_at_call 20
                  refine HG9.out.mono ?_
                  rintro e W8 ⟨rfl, ⟨X9, at9, nx9⟩, fr9⟩
                  have HS9 := hide (HSx.out.step at9 nx9 fr9 HI9.out)
                  clear at9 nx9 fr9 HG9
                  have HDO := hide (fun W => does07_true W)
                  go_wp2_with fail
                  go_at_call 15
                  refine (HDO.out _).mono ?_
                  rintro e W9 ⟨rfl, hf9⟩
                  have HF9 := hide ((HF1.out.then_ HS9.out.fr).then_ hf9)
                  clear hf9
                  go_wp2
                  go_ret
                  exact ⟨rfl, HF9.out⟩
            · rcases HPE.out he with h70 | h61
              · rw [h70]
                have HDO := hide (fun W => does07_true W)
                go_wp2_with fail
                go_at_call 15
                refine (HDO.out _).mono ?_
                rintro e W9 ⟨rfl, hf9⟩
                have HF9 := hide ((HF1.out.then_ HS6.out.fr).then_ hf9)
                clear hf9
                go_wp2
                go_ret
                exact ⟨rfl, HF9.out⟩
              · rw [h61]
                have HDO := hide (fun W => does07_true W)
                go_wp2_with fail
                go_at_call 15
                refine (HDO.out _).mono ?_
                rintro e W9 ⟨rfl, hf9⟩
                have HF9 := hide ((HF1.out.then_ HS6.out.fr).then_ hf9)
                clear hf9
                go_wp2
                go_ret
                exact ⟨rfl, HF9.out⟩
end Go.Proofs.YtkhbemmcegmdaaaGreatDoor
