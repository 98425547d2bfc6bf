/- CacheMost, by contract. -/
import Derived.Test.YtkhbemmcegmdaaaGreatDoorAc
set_option linter.all false
set_option linter.unusedVariables false
set_option maxRecDepth 100000
namespace Go.Proofs.YtkhbemmcegmdaaaGreatDoor
open Go.RowKit

theorem made_inv (y : Nat) : CInv 60 (1 + y % 9) ⟨-1, [], [], 0⟩ := ⟨⟨by simp [total], by omega, by simp, by simp⟩, by simp, by simp, by simp, by simp, by simp, by simp, by simp, by simp⟩
theorem put_full {room : Int} {most : Nat} {k : CKey} {d : List UInt8} {s : CSt} (hn : lget k s.L = none) (hf : lfull most s.L = true) : (cput room most k d s).1 = 3 ∨ (cput room most k d s).1 = 70 := by
  unfold cput
  by_cases h : 122 < d.length
  · rw [if_pos h]; exact .inl rfl
  · rw [if_neg h, hn, hf, if_pos (by rfl)]; exact .inr rfl
set_option maxHeartbeats 3200000 in
theorem law_most (y : Nat) (hy : y < 256) (A : Option Addr) (n c : Nat) (l : List CAct) (w : World) (ha : ActsR w w.heap.size A n l) (hn : n ≤ 9223372036854775807) : Calls Tryz.prog 8 #[.int .u8 (y : Int), .slice A n c] w fun e w' => e = .returned (.bool true) ∧ Fr (fun _ => False) w w' := by
  have HG := hide (great_ok ha 100 c (by omega) hn)
  have HA0 := hide ha
  have hm : ((1 + y % 9 : Nat) : Int) = 1 + (y : Int) % 9 := by omega
  have ht : Int.tmod ((y : Nat) : Int) 9 = (y : Int) % 9 := by rw [Int.tmod_eq_emod_of_nonneg (by omega)]
  clear ha
  go_enter Tryz.func8, Tryz.ntmps8
  go_wp2_with fail
  go_at_call 23
  refine HG.out.mono ?_
  rintro e w1 ⟨hg, rfl⟩
  rcases hg with rfl | ⟨rfl, hn100, hsm⟩
  · go_wp2
    go_ret
    exact ⟨rfl, Fr.refl _ _⟩
  · have HSM := hide hsm
    clear hsm
    have HMD := hide (made_ok y hy w)
    go_wp2_with fail
    go_at_call 16
    refine HMD.out.mono ?_
    rintro e W1 ⟨cb, fb, X1, rfl, at1, nx1, _, fr1⟩
    have HS1 : Hid (St 60 (1 + y % 9) w W1 cb fb X1 ⟨-1, [], [], 0⟩) := ⟨at1, made_inv y, nx1, fr1⟩
    clear at1 nx1 fr1 HMD
    go_wp2
    go_loopw [6] (fun i wr => ∃ (k : Nat) (X : Nat → Prop) (s : CSt), i = .int .i64 (k : Int) ∧ k ≤ n ∧ St 60 (1 + y % 9) w wr cb fb X s ∧ s.clk ≤ k) (fun i _ => n - (intOf i).toNat)
    case atStart => exact ⟨0, X1, _, rfl, by omega, HS1.out, by simp⟩
    case round =>
      obtain ⟨k, X, s, rfl, hk, hst, hclk⟩ := hrel
      have HS := hide hst
      clear hst HS1
      by_cases hlt : k < n
      · have HA := hide (HA0.out.fr HS.out.fr (Nat.le_refl _) (fun _ h => h.elim))
        obtain ⟨a, b, o, hka, hal, rfl, hb, s0, s1, s2, s3, s4⟩ := HA.out.at hlt
        have hwf := HA.out.wf a hal
        have g0 : (0 : Int) ≤ (k : Int) := by omega
        have g1 : (k : Int) < (n : Int) := by omega
        have HC0 := hide ((HA0.out.at hlt))
        have HC0 : Hid (w.cell? ⟨b, o + k * 5, none⟩ = some (.int .u8 (a.kind : Int))) := by
          obtain ⟨a', b', o', hka', _, e', _, z0, _⟩ := HC0.out
          injection e' with e'
          injection e' with e1 e2 _
          subst e1
          subst e2
          rw [hka] at hka'
          obtain rfl := Option.some.inj hka'
          exact z0
        have HSS := hide (fun W (hS : Fr (fun _ => False) wr W) => (⟨hS.cell s0 id, hS.cell s1 id, hS.cell s2 id, hS.cell s3 id, hS.cell s4 id⟩ : W.cell? ⟨b, o + k * 5, none⟩ = some (.int .u8 (a.kind : Int)) ∧ W.cell? ⟨b, o + k * 5 + 1, none⟩ = some (.string ⟨a.name.toArray⟩) ∧ W.cell? ⟨b, o + k * 5 + 2, none⟩ = some (.int .i64 a.i) ∧ W.cell? ⟨b, o + k * 5 + 3, none⟩ = some (.string ⟨a.data.toArray⟩) ∧ W.cell? ⟨b, o + k * 5 + 4, none⟩ = some (.int .u8 (a.x.toNat : Int))))
        clear s0 s1 s2 s3 s4
        obtain ⟨wv, hwv⟩ : ∃ wv, (lget a.key s.L).isSome = wv := ⟨_, rfl⟩
        have HHS := hide (fun W (hS : Fr (fun _ => False) wr W) => chas_ok (HS.out.at_.up hS) a.key)
        rw [hwv] at HHS
        have hkey : a.key = (a.name, a.i) := rfl
        rw [hkey] at HHS
        clear hkey
        obtain ⟨fv, hfv⟩ : ∃ fv, ((pinned s.L : Int) == 1 + (y : Int) % 9) = fv := ⟨_, rfl⟩
        have HPN0 := hide (fun W (hS : Fr (fun _ => False) wr W) => cpinned_ok (HS.out.at_.up hS) (Nat.le_trans HS.out.inv.len (by omega)))
        go_wp2_with fail
        refine wp_region_ord [(0, true), (1, true), (2, true), (3, true), (4, true), (5, true), (6, true), (7, true), (8, true), (9, true), (10, true), (11, false), (12, true)] (fun W => Fr (fun _ => False) wr W) (by kernel_rfl) (by kernel_rfl) (Fr.refl _ _).drew ?_
        iterate 11
          refine ord_read rfl ?_ ?_ (fun W hS => ?_) ?_
          · rfl
          rotate_left
          · (obtain ⟨z0, z1, z2, z3, z4⟩ := HSS.out W hS; go_simp; try with_reducible rfl)
          simp only [List.getElem_toArray, List.getElem_cons_zero, List.getElem_cons_succ, Act.put, List.setIfInBounds_toArray, List.set_cons_zero, List.set_cons_succ]
        refine ord_act rfl ?_
        go_wp2_with fail
        go_at_call 31
        refine (HHS.out _ (Fr.refl _ _).drew).mono ?_
        rintro e w9 ⟨rfl, rfl⟩
        go_wp2
        refine midQ_ok (Fr.refl _ _).drew ?_
        iterate 1
          refine ord_read rfl ?_ ?_ (fun W hS => ?_) ?_
          · rfl
          rotate_left
          · (skip; go_simp; try with_reducible rfl)
          simp only [List.getElem_toArray, List.getElem_cons_zero, List.getElem_cons_succ, Act.put, List.setIfInBounds_toArray, List.set_cons_zero, List.set_cons_succ]
        refine ord_done ?_
        refine NoPanic.normal ?_
        go_wp2_with fail
        go_at_call 29
        refine (HPN0.out _ (Fr.refl _ _).drew).mono ?_
        rintro e W3 ⟨rfl, hf3⟩
        have hf3' := (Fr.refl (fun _ => False) wr).drew.then_ hf3
        have HS3 := hide (HS.out.up hf3')
        obtain ⟨s0, s1, s2, s3, s4⟩ := HSS.out _ hf3'
        clear hf3 hf3'
        obtain ⟨kk, hkk⟩ : ∃ kk, a.kind % 10 = kk := ⟨_, rfl⟩
        have hk1 : ((a.kind : Nat) : Int) % 10 = (kk : Int) := by omega
        have hk2 : Int.tmod ((a.kind : Nat) : Int) 10 = (kk : Int) := by rw [Int.tmod_eq_emod_of_nonneg (by omega)]; exact hk1
        obtain ⟨r, hr⟩ : ∃ r, cstep 60 (1 + y % 9) a s = r := ⟨_, rfl⟩
        have hkk10 : kk < 10 := by omega
        have hcs : fv = true → wv = false → (kk < 3 → r.2.1 = 70) ∧ (kk = 4 → r.2.1 = 3 ∨ r.2.1 = 70) := fun h1 h2 => by
          have hp : (s.L.filter fun x => decide (0 < x.pins)).length = 1 + y % 9 := by
            have : pinned s.L = 1 + y % 9 := by
              rw [h1] at hfv
              have := eq_of_beq hfv
              omega
            exact this
          have hfull := full_of HS.out.inv hp
          have hnone : lget a.key s.L = none := by
            rw [h2] at hwv
            simpa using hwv
          have hfind := full_find hnone hfull
          rw [← hr]
          unfold cstep
          rw [hkk]
          refine ⟨fun h3 => ?_, fun h4 => ?_⟩
          · have : kk = 0 ∨ kk = 1 ∨ kk = 2 := by omega
            rcases this with rfl | rfl | rfl
            · simp only [cget]; rw [hfind, if_neg (show ¬ (70 : Int) = 0 by decide)]
            · simp only [cget]; rw [hfind, if_neg (show ¬ (70 : Int) = 0 by decide)]
            · simp only [cpin]; rw [hfind, if_neg (show ¬ (70 : Int) = 0 by decide)]
          · subst h4
            exact put_full hnone hfull
        cases fv with
        | false =>
          clear hcs
          have HDN := hide (done_ok HS3.out.at_ HS3.out.inv a (Small.ok (HSM.out a hal) (HA.out.wf a hal)) (by omega))
          have HIV := hide (HS3.out.inv.step (by omega) a hwf.hi)
          have HCK := hide (cstep_clk HS3.out.inv a)
          rw [hr] at HDN HIV HCK
          go_wp2_with fail
          go_at_call 27
          refine HDN.out.mono ?_
          rintro e W4 ⟨rfl, ⟨X4, at4, nx4⟩, fr4⟩
          have HS4 := hide (HS3.out.step at4 nx4 fr4 HIV.out)
          have c0 : W4.cell? ⟨b, o + k * 5, none⟩ = some (.int .u8 (a.kind : Int)) := HS4.out.fr.cell HC0.out id
          clear at4 nx4 fr4 HDN
          have HLN := hide (clen_ok HS4.out.at_)
          have HPN := hide (fun W (hf : Fr (fun _ => False) W4 W) => cpinned_ok (HS4.out.at_.up hf) (Nat.le_trans HS4.out.inv.len (by omega)))
          have hle1 := HS4.out.inv.len
          have hle2 : pinned r.2.2.L ≤ r.2.2.L.length := List.length_filter_le _ _
          have HLE := hide hle1
          obtain ⟨ln, hln⟩ : ∃ ln, r.2.2.L.length = ln := ⟨_, rfl⟩
          rw [hln] at HLN hle1 hle2
          obtain ⟨pn, hpn⟩ : ∃ pn, pinned r.2.2.L = pn := ⟨_, rfl⟩
          rw [hpn] at HPN hle2
          have q0 : ¬ ((ln : Int) > 1 + (y : Int) % 9) := by omega
          have q1 : ¬ (1 + (y : Int) % 9 < (ln : Int)) := by omega
          have q2 : ¬ ((pn : Int) > (ln : Int)) := by omega
          have q3 : ¬ ((ln : Int) < (pn : Int)) := by omega
          go_wp2_with fail
          go_at_call 21
          refine HLN.out.mono ?_
          rintro e w9 ⟨rfl, rfl⟩
          go_wp2_with fail
          go_at_call 29
          refine (HPN.out _ (Fr.refl _ _)).mono ?_
          rintro e W5 ⟨rfl, hf5⟩
          have HS5 := hide (HS4.out.up hf5)
          have HLN2 := hide (clen_ok HS5.out.at_)
          rw [hln] at HLN2
          clear hf5
          go_wp2_with fail
          go_at_call 21
          refine HLN2.out.mono ?_
          rintro e w9 ⟨rfl, rfl⟩
          go_wp2
          go_roundw
          case rel => exact ⟨k + 1, X4, r.2.2, by go_num, by omega, HS5.out, by have := HCK.out; omega⟩
          case measure => simp [intOf]; omega
        | true =>
          cases wv with
          | true =>
            clear hcs
            have HDN := hide (done_ok HS3.out.at_ HS3.out.inv a (Small.ok (HSM.out a hal) (HA.out.wf a hal)) (by omega))
            have HIV := hide (HS3.out.inv.step (by omega) a hwf.hi)
            have HCK := hide (cstep_clk HS3.out.inv a)
            rw [hr] at HDN HIV HCK
            go_wp2_with fail
            go_at_call 27
            refine HDN.out.mono ?_
            rintro e W4 ⟨rfl, ⟨X4, at4, nx4⟩, fr4⟩
            have HS4 := hide (HS3.out.step at4 nx4 fr4 HIV.out)
            have c0 : W4.cell? ⟨b, o + k * 5, none⟩ = some (.int .u8 (a.kind : Int)) := HS4.out.fr.cell HC0.out id
            clear at4 nx4 fr4 HDN
            have HLN := hide (clen_ok HS4.out.at_)
            have HPN := hide (fun W (hf : Fr (fun _ => False) W4 W) => cpinned_ok (HS4.out.at_.up hf) (Nat.le_trans HS4.out.inv.len (by omega)))
            have hle1 := HS4.out.inv.len
            have hle2 : pinned r.2.2.L ≤ r.2.2.L.length := List.length_filter_le _ _
            have HLE := hide hle1
            obtain ⟨ln, hln⟩ : ∃ ln, r.2.2.L.length = ln := ⟨_, rfl⟩
            rw [hln] at HLN hle1 hle2
            obtain ⟨pn, hpn⟩ : ∃ pn, pinned r.2.2.L = pn := ⟨_, rfl⟩
            rw [hpn] at HPN hle2
            have q0 : ¬ ((ln : Int) > 1 + (y : Int) % 9) := by omega
            have q1 : ¬ (1 + (y : Int) % 9 < (ln : Int)) := by omega
            have q2 : ¬ ((pn : Int) > (ln : Int)) := by omega
            have q3 : ¬ ((ln : Int) < (pn : Int)) := by omega
            go_wp2_with fail
            go_at_call 21
            refine HLN.out.mono ?_
            rintro e w9 ⟨rfl, rfl⟩
            go_wp2_with fail
            go_at_call 29
            refine (HPN.out _ (Fr.refl _ _)).mono ?_
            rintro e W5 ⟨rfl, hf5⟩
            have HS5 := hide (HS4.out.up hf5)
            have HLN2 := hide (clen_ok HS5.out.at_)
            rw [hln] at HLN2
            clear hf5
            go_wp2_with fail
            go_at_call 21
            refine HLN2.out.mono ?_
            rintro e w9 ⟨rfl, rfl⟩
            go_wp2
            go_roundw
            case rel => exact ⟨k + 1, X4, r.2.2, by go_num, by omega, HS5.out, by have := HCK.out; omega⟩
            case measure => simp [intOf]; omega
          | false =>
            obtain ⟨hc1, hc2⟩ := hcs rfl rfl
            by_cases h3 : kk < 3
            · have hre := hc1 h3
              have h4 : ¬ kk = 4 := by omega
              have p0 : (kk : Int) < 3 := by omega
              have p1 : decide ((kk : Int) < 3) = true := by simpa using p0
              have p2 : ((kk : Int) == 4) = false := by simp; omega
              clear hc1 hc2
              have HDN := hide (done_ok HS3.out.at_ HS3.out.inv a (Small.ok (HSM.out a hal) (HA.out.wf a hal)) (by omega))
              have HIV := hide (HS3.out.inv.step (by omega) a hwf.hi)
              have HCK := hide (cstep_clk HS3.out.inv a)
              rw [hr] at HDN HIV HCK
              rw [hre] at HDN
              go_wp2_with fail
              go_at_call 27
              refine HDN.out.mono ?_
              rintro e W4 ⟨rfl, ⟨X4, at4, nx4⟩, fr4⟩
              have HS4 := hide (HS3.out.step at4 nx4 fr4 HIV.out)
              have c0 : W4.cell? ⟨b, o + k * 5, none⟩ = some (.int .u8 (a.kind : Int)) := HS4.out.fr.cell HC0.out id
              clear at4 nx4 fr4 HDN
              have HLN := hide (clen_ok HS4.out.at_)
              have HPN := hide (fun W (hf : Fr (fun _ => False) W4 W) => cpinned_ok (HS4.out.at_.up hf) (Nat.le_trans HS4.out.inv.len (by omega)))
              have hle1 := HS4.out.inv.len
              have hle2 : pinned r.2.2.L ≤ r.2.2.L.length := List.length_filter_le _ _
              have HLE := hide hle1
              obtain ⟨ln, hln⟩ : ∃ ln, r.2.2.L.length = ln := ⟨_, rfl⟩
              rw [hln] at HLN hle1 hle2
              obtain ⟨pn, hpn⟩ : ∃ pn, pinned r.2.2.L = pn := ⟨_, rfl⟩
              rw [hpn] at HPN hle2
              have q0 : ¬ ((ln : Int) > 1 + (y : Int) % 9) := by omega
              have q1 : ¬ (1 + (y : Int) % 9 < (ln : Int)) := by omega
              have q2 : ¬ ((pn : Int) > (ln : Int)) := by omega
              have q3 : ¬ ((ln : Int) < (pn : Int)) := by omega
              go_wp2_with fail
              go_at_call 21
              refine HLN.out.mono ?_
              rintro e w9 ⟨rfl, rfl⟩
              go_wp2_with fail
              go_at_call 29
              refine (HPN.out _ (Fr.refl _ _)).mono ?_
              rintro e W5 ⟨rfl, hf5⟩
              have HS5 := hide (HS4.out.up hf5)
              have HLN2 := hide (clen_ok HS5.out.at_)
              rw [hln] at HLN2
              clear hf5
              go_wp2_with fail
              go_at_call 21
              refine HLN2.out.mono ?_
              rintro e w9 ⟨rfl, rfl⟩
              go_wp2
              go_roundw
              case rel => exact ⟨k + 1, X4, r.2.2, by go_num, by omega, HS5.out, by have := HCK.out; omega⟩
              case measure => simp [intOf]; omega
            · have p0 : ¬ (kk : Int) < 3 := by omega
              have p1 : decide ((kk : Int) < 3) = false := by simp; omega
              by_cases h4 : kk = 4
              · have p2 : ((kk : Int) == 4) = true := by simp; omega
                rcases hc2 h4 with hre | hre
                · clear hc1 hc2
                  have HDN := hide (done_ok HS3.out.at_ HS3.out.inv a (Small.ok (HSM.out a hal) (HA.out.wf a hal)) (by omega))
                  have HIV := hide (HS3.out.inv.step (by omega) a hwf.hi)
                  have HCK := hide (cstep_clk HS3.out.inv a)
                  rw [hr] at HDN HIV HCK
                  rw [hre] at HDN
                  go_wp2_with fail
                  go_at_call 27
                  refine HDN.out.mono ?_
                  rintro e W4 ⟨rfl, ⟨X4, at4, nx4⟩, fr4⟩
                  have HS4 := hide (HS3.out.step at4 nx4 fr4 HIV.out)
                  have c0 : W4.cell? ⟨b, o + k * 5, none⟩ = some (.int .u8 (a.kind : Int)) := HS4.out.fr.cell HC0.out id
                  clear at4 nx4 fr4 HDN
                  have HLN := hide (clen_ok HS4.out.at_)
                  have HPN := hide (fun W (hf : Fr (fun _ => False) W4 W) => cpinned_ok (HS4.out.at_.up hf) (Nat.le_trans HS4.out.inv.len (by omega)))
                  have hle1 := HS4.out.inv.len
                  have hle2 : pinned r.2.2.L ≤ r.2.2.L.length := List.length_filter_le _ _
                  have HLE := hide hle1
                  obtain ⟨ln, hln⟩ : ∃ ln, r.2.2.L.length = ln := ⟨_, rfl⟩
                  rw [hln] at HLN hle1 hle2
                  obtain ⟨pn, hpn⟩ : ∃ pn, pinned r.2.2.L = pn := ⟨_, rfl⟩
                  rw [hpn] at HPN hle2
                  have q0 : ¬ ((ln : Int) > 1 + (y : Int) % 9) := by omega
                  have q1 : ¬ (1 + (y : Int) % 9 < (ln : Int)) := by omega
                  have q2 : ¬ ((pn : Int) > (ln : Int)) := by omega
                  have q3 : ¬ ((ln : Int) < (pn : Int)) := by omega
                  go_wp2_with fail
                  go_at_call 21
                  refine HLN.out.mono ?_
                  rintro e w9 ⟨rfl, rfl⟩
                  go_wp2_with fail
                  go_at_call 29
                  refine (HPN.out _ (Fr.refl _ _)).mono ?_
                  rintro e W5 ⟨rfl, hf5⟩
                  have HS5 := hide (HS4.out.up hf5)
                  have HLN2 := hide (clen_ok HS5.out.at_)
                  rw [hln] at HLN2
                  clear hf5
                  go_wp2_with fail
                  go_at_call 21
                  refine HLN2.out.mono ?_
                  rintro e w9 ⟨rfl, rfl⟩
                  go_wp2
                  go_roundw
                  case rel => exact ⟨k + 1, X4, r.2.2, by go_num, by omega, HS5.out, by have := HCK.out; omega⟩
                  case measure => simp [intOf]; omega
                · clear hc1 hc2
                  have HDN := hide (done_ok HS3.out.at_ HS3.out.inv a (Small.ok (HSM.out a hal) (HA.out.wf a hal)) (by omega))
                  have HIV := hide (HS3.out.inv.step (by omega) a hwf.hi)
                  have HCK := hide (cstep_clk HS3.out.inv a)
                  rw [hr] at HDN HIV HCK
                  rw [hre] at HDN
                  go_wp2_with fail
                  go_at_call 27
                  refine HDN.out.mono ?_
                  rintro e W4 ⟨rfl, ⟨X4, at4, nx4⟩, fr4⟩
                  have HS4 := hide (HS3.out.step at4 nx4 fr4 HIV.out)
                  have c0 : W4.cell? ⟨b, o + k * 5, none⟩ = some (.int .u8 (a.kind : Int)) := HS4.out.fr.cell HC0.out id
                  clear at4 nx4 fr4 HDN
                  have HLN := hide (clen_ok HS4.out.at_)
                  have HPN := hide (fun W (hf : Fr (fun _ => False) W4 W) => cpinned_ok (HS4.out.at_.up hf) (Nat.le_trans HS4.out.inv.len (by omega)))
                  have hle1 := HS4.out.inv.len
                  have hle2 : pinned r.2.2.L ≤ r.2.2.L.length := List.length_filter_le _ _
                  have HLE := hide hle1
                  obtain ⟨ln, hln⟩ : ∃ ln, r.2.2.L.length = ln := ⟨_, rfl⟩
                  rw [hln] at HLN hle1 hle2
                  obtain ⟨pn, hpn⟩ : ∃ pn, pinned r.2.2.L = pn := ⟨_, rfl⟩
                  rw [hpn] at HPN hle2
                  have q0 : ¬ ((ln : Int) > 1 + (y : Int) % 9) := by omega
                  have q1 : ¬ (1 + (y : Int) % 9 < (ln : Int)) := by omega
                  have q2 : ¬ ((pn : Int) > (ln : Int)) := by omega
                  have q3 : ¬ ((ln : Int) < (pn : Int)) := by omega
                  go_wp2_with fail
                  go_at_call 21
                  refine HLN.out.mono ?_
                  rintro e w9 ⟨rfl, rfl⟩
                  go_wp2_with fail
                  go_at_call 29
                  refine (HPN.out _ (Fr.refl _ _)).mono ?_
                  rintro e W5 ⟨rfl, hf5⟩
                  have HS5 := hide (HS4.out.up hf5)
                  have HLN2 := hide (clen_ok HS5.out.at_)
                  rw [hln] at HLN2
                  clear hf5
                  go_wp2_with fail
                  go_at_call 21
                  refine HLN2.out.mono ?_
                  rintro e w9 ⟨rfl, rfl⟩
                  go_wp2
                  go_roundw
                  case rel => exact ⟨k + 1, X4, r.2.2, by go_num, by omega, HS5.out, by have := HCK.out; omega⟩
                  case measure => simp [intOf]; omega
              · have p2 : ((kk : Int) == 4) = false := by simp; omega
                clear hc1 hc2
                have HDN := hide (done_ok HS3.out.at_ HS3.out.inv a (Small.ok (HSM.out a hal) (HA.out.wf a hal)) (by omega))
                have HIV := hide (HS3.out.inv.step (by omega) a hwf.hi)
                have HCK := hide (cstep_clk HS3.out.inv a)
                rw [hr] at HDN HIV HCK
                go_wp2_with fail
                go_at_call 27
                refine HDN.out.mono ?_
                rintro e W4 ⟨rfl, ⟨X4, at4, nx4⟩, fr4⟩
                have HS4 := hide (HS3.out.step at4 nx4 fr4 HIV.out)
                have c0 : W4.cell? ⟨b, o + k * 5, none⟩ = some (.int .u8 (a.kind : Int)) := HS4.out.fr.cell HC0.out id
                clear at4 nx4 fr4 HDN
                have HLN := hide (clen_ok HS4.out.at_)
                have HPN := hide (fun W (hf : Fr (fun _ => False) W4 W) => cpinned_ok (HS4.out.at_.up hf) (Nat.le_trans HS4.out.inv.len (by omega)))
                have hle1 := HS4.out.inv.len
                have hle2 : pinned r.2.2.L ≤ r.2.2.L.length := List.length_filter_le _ _
                have HLE := hide hle1
                obtain ⟨ln, hln⟩ : ∃ ln, r.2.2.L.length = ln := ⟨_, rfl⟩
                rw [hln] at HLN hle1 hle2
                obtain ⟨pn, hpn⟩ : ∃ pn, pinned r.2.2.L = pn := ⟨_, rfl⟩
                rw [hpn] at HPN hle2
                have q0 : ¬ ((ln : Int) > 1 + (y : Int) % 9) := by omega
                have q1 : ¬ (1 + (y : Int) % 9 < (ln : Int)) := by omega
                have q2 : ¬ ((pn : Int) > (ln : Int)) := by omega
                have q3 : ¬ ((ln : Int) < (pn : Int)) := by omega
                go_wp2_with fail
                go_at_call 21
                refine HLN.out.mono ?_
                rintro e w9 ⟨rfl, rfl⟩
                go_wp2_with fail
                go_at_call 29
                refine (HPN.out _ (Fr.refl _ _)).mono ?_
                rintro e W5 ⟨rfl, hf5⟩
                have HS5 := hide (HS4.out.up hf5)
                have HLN2 := hide (clen_ok HS5.out.at_)
                rw [hln] at HLN2
                clear hf5
                go_wp2_with fail
                go_at_call 21
                refine HLN2.out.mono ?_
                rintro e w9 ⟨rfl, rfl⟩
                go_wp2
                go_roundw
                case rel => exact ⟨k + 1, X4, r.2.2, by go_num, by omega, HS5.out, by have := HCK.out; omega⟩
                case measure => simp [intOf]; omega
      · obtain rfl : k = n := by omega
        have HDO := hide (does07_true wr)
        go_wp2_with fail
        go_at_call 15
        refine HDO.out.mono ?_
        rintro e W9 ⟨rfl, hf9⟩
        have HF9 := hide (HS.out.fr.then_ hf9)
        clear hf9
        go_wp2
        go_ret
        exact ⟨rfl, HF9.out⟩
end Go.Proofs.YtkhbemmcegmdaaaGreatDoor
