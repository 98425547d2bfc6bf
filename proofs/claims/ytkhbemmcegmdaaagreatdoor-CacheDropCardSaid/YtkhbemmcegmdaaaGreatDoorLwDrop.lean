/- CacheDrop, by contract. -/
import Derived.Test.YtkhbemmcegmdaaaGreatDoorLwMost
set_option linter.all false
set_option linter.unusedVariables false
set_option maxRecDepth 100000
namespace Go.Proofs.YtkhbemmcegmdaaaGreatDoor
open Go.RowKit

theorem act_info : (Tryz.prog.info? 52).map (fun i => (i.zero, i.size, i.bytes)) = some (some (.agg #[.int .u8 0, .string ⟨#[]⟩, .int .i64 0, .string ⟨#[]⟩, .int .u8 0]), 5, 56) := by kernel_rfl
theorem own_fr5 {w w' : World} {base n : Nat} {e : TypeId} {v : Value} {xs : List Value} {S : Nat → Prop} (h : w.ownsRow base e 5 v n xs) (hf : Fr S w w') (hn : ∀ k, v.ownBlock = some k → ¬ S k) : w'.ownsRow base e 5 v n xs := by
  refine ⟨h.1, ?_⟩
  rcases h.2 with h1 | ⟨g, cap, cur, e1, hb, hg, rest⟩
  · exact .inl h1
  · subst e1
    exact .inr ⟨g, cap, cur, rfl, hb, (hf.block g (Array.getElem?_eq_some_iff.1 hg).1 (hn g rfl)).trans hg, rest⟩
theorem own_cap5 {w : World} {base n c : Nat} {A : Option Addr} {e : TypeId} {xs : List Value} (h : w.ownsRow base e 5 (.slice A n c) n xs) : n ≤ c := by
  rcases h.2 with ⟨h1, _⟩ | ⟨g, cap, cur, h1, _, _, h2, _⟩
  · injection h1 with _ h1 _
    omega
  · injection h1 with _ _ h1
    omega
theorem flat_act : ∀ (P : List CAct) (j : Nat) (hj : j < P.length) (t : Nat) (ht : t < 5), (P.flatMap fun a => (actc a).toList)[j * 5 + t]? = (actc P[j])[t]?
  | [], _, hj, _, _ => by simp at hj
  | a :: P, 0, _, t, ht => by
    rw [List.flatMap_cons, List.getElem?_append_left (by simp [actc]; omega)]
    simp
  | a :: P, j + 1, hj, t, ht => by
    have ih := flat_act P j (by simpa using hj) t ht
    rw [List.flatMap_cons, List.getElem?_append_right (by simp [actc]; omega)]
    have e : (j + 1) * 5 + t - (actc a).toList.length = j * 5 + t := by simp [actc]; omega
    rw [e, ih]
    simp
theorem pinrep0 : PinRep [] ⟨-1, [], [], 0⟩ := ⟨fun x hx => by simp at hx, fun k hk => by simp at hk⟩
set_option maxHeartbeats 3200000 in
theorem law_drop (y : Nat) (hy : y < 256) (A : Option Addr) (n c : Nat) (l : List CAct) (h : Nat) (hh : h < 256) (w : World) (ha : ActsR w w.heap.size A n l) (hn : n ≤ 9223372036854775807) : Calls Tryz.prog 9 #[.int .u8 (y : Int), .slice A n c, .int .u8 (h : Int)] w fun e w' => e = .returned (.bool true) ∧ Fr (fun _ => False) w w' := by
  have HG := hide (great_ok ha 60 c (by omega) hn)
  have HA0 := hide ha
  obtain ⟨i0, hi, hz0, hz1, hz2⟩ := info_parts act_info
  clear ha
  go_enter Tryz.func9, Tryz.ntmps9
  go_wp2_with fail
  go_at_call 23
  refine HG.out.mono ?_
  rintro e w1 ⟨hg, rfl⟩
  rcases hg with rfl | ⟨rfl, hn60, hsm⟩
  · have HDO := hide (fun W => does07_true W)
    go_wp2_with fail
    go_at_call 15
    refine (HDO.out _).mono ?_
    rintro e W9 ⟨rfl, hf9⟩
    have HF9 := hide ((Fr.refl (fun _ => False) w).then_ hf9)
    clear hf9
    go_wp2
    go_ret
    exact ⟨rfl, HF9.out⟩

  · by_cases hn0 : n = 0
    · have p0 : ((n : Int) == 0) = true := by simp; omega
      have HDO := hide (fun W => does07_true W)
      go_wp2_with fail
      go_at_call 15
      refine (HDO.out _).mono ?_
      rintro e W9 ⟨rfl, hf9⟩
      have HF9 := hide ((Fr.refl (fun _ => False) w).then_ hf9)
      clear hf9
      go_wp2
      go_ret
      exact ⟨rfl, HF9.out⟩
    · have p0 : ((n : Int) == 0) = false := by simp; omega
      have HN0 := hide hn0
      clear hn0
      have HSM := hide hsm
      clear hsm
      have HMD := hide (made_ok y hy w)
      go_wp2_with fail
      go_at_call 16
      refine HMD.out.mono ?_
      rintro e W1 ⟨cb, fb, X1, rfl, at1, nx1, _, fr1⟩
      have HS1 : Hid (St 60 (1 + y % 9) w W1 cb fb X1 ⟨-1, [], [], 0⟩) := ⟨at1, made_inv y, nx1, fr1⟩
      clear at1 nx1 fr1 HMD
      go_wp2
      go_loopw [7, 8, 9] (fun cv sv i wr => ∃ (k : Nat) (P : List CAct) (cb fb : Nat) (X : Nat → Prop) (s : CSt) (A' : Option Addr) (q c' : Nat), i = .int .i64 (k : Int) ∧ cv = .pointer (some ⟨cb, 0, none⟩) ∧ sv = .slice A' q c' ∧ k ≤ n ∧ P.length = q ∧ q ≤ k ∧ q ≤ c' ∧ St 60 (1 + y % 9) w wr cb fb X s ∧ s.clk ≤ k ∧ PinRep (P.map CAct.key) s ∧ Hid (wr.ownsRow w.heap.size 52 5 (.slice A' q c') q (P.flatMap fun a => (actc a).toList) ∧ (∀ b, (Value.slice A' q c').ownBlock = some b → ¬ X b) ∧ ∀ a ∈ P, ActWf a)) (fun _ _ i _ => n - (intOf i).toNat)
      case atStart => exact ⟨0, [], cb, fb, X1, _, none, 0, 0, rfl, rfl, rfl, by omega, rfl, Nat.le_refl _, Nat.le_refl _, HS1.out, by simp, pinrep0, World.ownsRow_nil W1 w.heap.size 52 5, fun b hb => by simp [Value.ownBlock] at hb, by simp⟩
      case round =>
        obtain ⟨k, P, cb, fb, X, s, A', q, c', rfl, rfl, rfl, hk, hq, hqk, hqc, hst, hclk, hpr, how⟩ := hrel
        have HS := hide hst
        have HPR := hide hpr
        have HOW := hide how
        have HQ := hide hq
        clear hst HS1 hpr how hq
        by_cases hlt : k < n
        · obtain ⟨a, b, o, hka, hal, rfl, hb, s0, s1, s2, s3, s4⟩ := HA0.out.at hlt
          have hwf := HA0.out.wf a hal
          have g0 : (0 : Int) ≤ (k : Int) := by omega
          have g1 : (k : Int) < (n : Int) := by omega
          have HC := hide (fun W (hS : Fr (fun _ => False) w W) => (⟨hS.cell s0 id, hS.cell s1 id, hS.cell s2 id, hS.cell s3 id, hS.cell s4 id⟩ : W.cell? ⟨b, o + k * 5, none⟩ = some (.int .u8 (a.kind : Int)) ∧ W.cell? ⟨b, o + k * 5 + 1, none⟩ = some (.string ⟨a.name.toArray⟩) ∧ W.cell? ⟨b, o + k * 5 + 2, none⟩ = some (.int .i64 a.i) ∧ W.cell? ⟨b, o + k * 5 + 3, none⟩ = some (.string ⟨a.data.toArray⟩) ∧ W.cell? ⟨b, o + k * 5 + 4, none⟩ = some (.int .u8 (a.x.toNat : Int))))
          clear s0 s1 s2 s3 s4
          obtain ⟨s0, s1, s2, s3, s4⟩ := HC.out wr HS.out.fr
          obtain ⟨kk, hkk⟩ : ∃ kk, a.kind % 10 = kk := ⟨_, rfl⟩
          have hk1 : ((a.kind : Nat) : Int) % 10 = (kk : Int) := by omega
          have hk2 : Int.tmod ((a.kind : Nat) : Int) 10 = (kk : Int) := by rw [Int.tmod_eq_emod_of_nonneg (by omega)]; exact hk1
          have HDN := hide (done_ok HS.out.at_ HS.out.inv a (Small.ok (HSM.out a hal) hwf) (by omega))
          have HIV := hide (HS.out.inv.step (by omega) a hwf.hi)
          have HCK := hide (cstep_clk HS.out.inv a)
          have HPS := hide (fun h => HPR.out.step HS.out.inv a h)
          obtain ⟨r, hr⟩ : ∃ r, cstep 60 (1 + y % 9) a s = r := ⟨_, rfl⟩
          rw [hr, hkk] at HPS
          rw [hr] at HDN HIV HCK
          go_wp2_with fail
          go_at_call 27
          refine HDN.out.mono ?_
          rintro e W4 ⟨rfl, ⟨X4, at4, nx4⟩, fr4⟩
          have HS4 := hide (HS.out.step at4 nx4 fr4 HIV.out)
          have hX4 := at4.lt
          have HOW4 : Hid (W4.ownsRow w.heap.size 52 5 (.slice A' q c') q (P.flatMap fun a => (actc a).toList) ∧ (∀ b, (Value.slice A' q c').ownBlock = some b → ¬ X4 b) ∧ ∀ a ∈ P, ActWf a) := by
            obtain ⟨o1, o2, o3⟩ := HOW.out
            refine ⟨?_, fun b' hb' hx => ?_, o3⟩
            · exact own_fr5 o1 fr4 o2
            · rcases nx4 b' hx with h | h
              · exact o2 b' hb' h
              · have := (o1.lt b' hb').2; omega
          obtain ⟨s0, s1, s2, s3, s4⟩ := HC.out W4 HS4.out.fr
          clear at4 nx4 fr4 HDN
          by_cases h3 : kk = 3
          · have v2 : ((kk : Int) == 2) = false := by simp; omega
            have v3 : ((kk : Int) == 3) = true := by simp; omega
            have HMD := hide (made_ok y hy W4)
            go_wp2_with fail
            go_at_call 16
            refine HMD.out.mono ?_
            rintro e W5 ⟨cb2, fb2, X5, rfl, at5, nx5, _, fr5⟩
            have HS5 : Hid (St 60 (1 + y % 9) w W5 cb2 fb2 X5 ⟨-1, [], [], 0⟩) := ⟨at5, made_inv y, fun j hj => Nat.le_trans HS4.out.fr.size (nx5 j hj), HS4.out.fr.then_ fr5⟩
            clear at5 nx5 fr5 HMD
            go_wp2
            exact ⟨⟨k + 1, [], cb2, fb2, X5, _, none, 0, 0, by go_num, rfl, rfl, by omega, rfl, by omega, Nat.le_refl _, HS5.out, by simp, pinrep0, World.ownsRow_nil W5 w.heap.size 52 5, fun b hb => by simp [Value.ownBlock] at hb, by simp⟩, by simp [intOf]; omega⟩
          · have v3 : ((kk : Int) == 3) = false := by simp; omega
            by_cases h5 : kk = 5
            · have v2 : ((kk : Int) == 2) = false := by simp; omega
              have v5 : ((kk : Int) == 5) = true := by simp; omega
              have HMD := hide (made_ok y hy W4)
              go_wp2_with fail
              go_at_call 16
              refine HMD.out.mono ?_
              rintro e W5 ⟨cb2, fb2, X5, rfl, at5, nx5, _, fr5⟩
              have HS5 : Hid (St 60 (1 + y % 9) w W5 cb2 fb2 X5 ⟨-1, [], [], 0⟩) := ⟨at5, made_inv y, fun j hj => Nat.le_trans HS4.out.fr.size (nx5 j hj), HS4.out.fr.then_ fr5⟩
              clear at5 nx5 fr5 HMD
              go_wp2
              exact ⟨⟨k + 1, [], cb2, fb2, X5, _, none, 0, 0, by go_num, rfl, rfl, by omega, rfl, by omega, Nat.le_refl _, HS5.out, by simp, pinrep0, World.ownsRow_nil W5 w.heap.size 52 5, fun b hb => by simp [Value.ownBlock] at hb, by simp⟩, by simp [intOf]; omega⟩
            · have v5 : ((kk : Int) == 5) = false := by simp; omega
              have hps := HPS.out ⟨h3, h5⟩
              by_cases h2 : kk = 2
              · have v2 : ((kk : Int) == 2) = true := by simp; omega
                by_cases he : r.2.1 = 0
                · rw [if_pos ⟨h2, he⟩] at hps
                  have HP4 := hide (show PinRep ((P ++ [a]).map CAct.key) r.2.2 by rw [List.map_append]; exact hps)
                  have hown := HOW4.out.1
                  rw [he]
                  clear hps
                  go_wp2_with (at_builtin; refine wpList_append_box W4 _ _ rfl (.tmp 56) (.tmp 61) _ rfl w.heap.size 52 i0 _ 5 56 Tryz.underlying37 hi hz0 hz1 hz2 rfl (by decide) _ _ _ rfl hown rfl rfl ?c1 ?c2 ?c3 ?c4 ?c5)
                  case c1 => simp [Value.oneCell']
                  case c2 => unfold maxLen; omega
                  case c3 => omega
                  case c4 => exact HS4.out.fr.size
                  case c5 =>
                    intro v5' w5 hown5 hg5 hn5
                    obtain ⟨A5, c5, rfl⟩ := Reads.own_val hown5
                    have hown6 : w5.ownsRow w.heap.size 52 5 (.slice A5 (q + 1) c5) (q + 1) ((P ++ [a]).flatMap fun a => (actc a).toList) := by
                      rw [List.flatMap_append]
                      exact hown5
                    have hgr := Fr.of_grown hg5
                    have hat5 := HS4.out.at_.keep hgr (fun j hj h => HOW4.out.2.1 j h hj)
                    have HS5 := hide (show St 60 (1 + y % 9) w w5 cb fb X4 r.2.2 from ⟨hat5, HS4.out.inv, HS4.out.new, HS4.out.fr.trans hgr (fun j hj => .inr (hown.lt j hj).1)⟩)
                    have HO5 : Hid (w5.ownsRow w.heap.size 52 5 (.slice A5 (q + 1) c5) (q + 1) ((P ++ [a]).flatMap fun a => (actc a).toList) ∧ (∀ b, (Value.slice A5 (q + 1) c5).ownBlock = some b → ¬ X4 b) ∧ ∀ x ∈ P ++ [a], ActWf x) := by
                      refine ⟨hown6, fun b' hb' hx => ?_, fun x hx => ?_⟩
                      · rcases hn5 with h | h
                        · rw [h] at hb'
                          exact HOW4.out.2.1 b' hb' hx
                        · rw [h] at hb'
                          injection hb' with hb'
                          have := hX4 b' hx
                          omega
                      · rcases List.mem_append.1 hx with hx | hx
                        · exact HOW4.out.2.2 x hx
                        · rw [List.mem_singleton] at hx; rw [hx]; exact hwf
                    have hcap := own_cap5 hown6
                    obtain ⟨s0, s1, s2, s3, s4⟩ := HC.out w5 HS5.out.fr
                    clear hown5 hown6 hg5 hn5 hown hgr hat5
                    go_wp2
                    exact ⟨⟨k + 1, P ++ [a], cb, fb, X4, r.2.2, A5, q + 1, c5, by go_num, rfl, rfl, by omega, by rw [List.length_append, HQ.out]; rfl, by omega, hcap, HS5.out, by have := HCK.out; omega, HP4.out, HO5.out⟩, by simp [intOf]; omega⟩
                · rw [if_neg (fun h => he h.2)] at hps
                  have HP4 := hide hps
                  have w0 : (r.2.1 == 0) = false := by simpa using he
                  clear hps
                  go_wp2
                  exact ⟨⟨k + 1, P, cb, fb, X4, r.2.2, A', q, c', by go_num, rfl, rfl, by omega, HQ.out, by omega, hqc, HS4.out, by have := HCK.out; omega, HP4.out, HOW4.out⟩, by simp [intOf]; omega⟩
              · have v2 : ((kk : Int) == 2) = false := by simp; omega
                rw [if_neg (fun h => h2 h.1)] at hps
                have HP4 := hide hps
                clear hps
                go_wp2
                exact ⟨⟨k + 1, P, cb, fb, X4, r.2.2, A', q, c', by go_num, rfl, rfl, by omega, HQ.out, by omega, hqc, HS4.out, by have := HCK.out; omega, HP4.out, HOW4.out⟩, by simp [intOf]; omega⟩
        · obtain rfl : k = n := by omega
          have hnz : ¬ ((k : Int) = 0) := by have := HN0.out; omega
          obtain ⟨zz, hzz⟩ : ∃ zz, h % k = zz := ⟨_, rfl⟩
          have hz1 : Int.tmod ((h : Nat) : Int) ((k : Nat) : Int) = (zz : Int) := by
            rw [Int.tmod_eq_emod_of_nonneg (by omega), ← hzz]
            rfl
          have hz2' : ((h : Nat) : Int) % ((k : Nat) : Int) = (zz : Int) := by rw [← hzz]; rfl
          have hzlt : zz < k := by rw [← hzz]; exact Nat.mod_lt _ (by have := HN0.out; omega)
          obtain ⟨a, b, o, hka, hal, rfl, hb, s0, s1, s2, s3, s4⟩ := HA0.out.at hzlt
          have g0 : (0 : Int) ≤ (zz : Int) := by omega
          have g1 : (zz : Int) < (k : Int) := by omega
          have z1 : wr.cell? ⟨b, o + zz * 5 + 1, none⟩ = some (.string ⟨a.name.toArray⟩) := HS.out.fr.cell s1 id
          clear s0 s1 s2 s3 s4
          obtain ⟨nm, hnm⟩ : ∃ nm, a.name = nm := ⟨_, rfl⟩
          rw [hnm] at z1
          clear hnm hka hal hb hzz
          have HCH := hide (fun j : Nat => chas_ok HS.out.at_ (nm, (j : Int)))
          have HLC := hide (fun j : Nat => lcount_succ nm s.L j)
          have hlcb : ∀ j : Nat, lcount nm s.L j ≤ j := fun j => by
            unfold lcount
            exact Nat.le_trans (List.length_filter_le _ _) (by simp)
          go_wp2
          go_loopw [13, 14] (fun gv iv wq => ∃ j : Nat, iv = .int .i64 (j : Int) ∧ gv = .int .i64 ((lcount nm s.L j : Nat) : Int) ∧ j ≤ 100 ∧ wq = wr) (fun _ iv _ => 100 - (intOf iv).toNat)
          case atStart => exact ⟨0, rfl, rfl, by omega, by first | rfl | trivial⟩
          case round =>
            obtain ⟨j, rfl, rfl, hj, rfl⟩ := hrel
            by_cases hj100 : j < 100
            · have u0 : (j : Int) < 100 := by omega
              have HCj := hide (HCH.out j)
              have hs1 := HLC.out j
              have hb1 := hlcb j
              cases hbv : (lget (nm, (j : Int)) s.L).isSome with
              | true =>
                rw [hbv] at hs1 HCj
                rw [if_pos rfl] at hs1
                obtain ⟨lc, hlc⟩ : ∃ lc, lcount nm s.L j = lc := ⟨_, rfl⟩
                rw [hlc] at hs1 hb1
                rw [hlc]
                have hwl : IntKind.i64.wrap ((lc : Int) + 1) = (lc : Int) + 1 := by simp only [IntKind.wrap, IntKind.bits, IntKind.signed]; simp; omega
                have HS1' := hide hs1
                clear hs1 hlc hbv
                go_wp2_with fail
                go_at_call 31
                refine HCj.out.mono ?_
                rintro e w9 ⟨rfl, rfl⟩
                go_wp2
                go_roundw
                case rel => exact ⟨j + 1, by go_num, by rw [HS1'.out]; go_num, by omega, by first | rfl | trivial⟩
                case measure => simp [intOf]; omega
              | false =>
                rw [hbv] at hs1 HCj
                rw [if_neg (by simp)] at hs1
                have HS1' := hide hs1
                clear hs1 hbv
                go_wp2_with fail
                go_at_call 31
                refine HCj.out.mono ?_
                rintro e w9 ⟨rfl, rfl⟩
                go_wp2
                go_roundw
                case rel => exact ⟨j + 1, by go_num, by rw [HS1'.out]; rfl, by omega, by first | rfl | trivial⟩
                case measure => simp [intOf]; omega
            · obtain rfl : j = 100 := by omega
              have hall := lcount_all nm 100 HS.out.inv.nd (fun x hx => by have := HS.out.inv.idx x hx; exact ⟨this.1, by omega⟩)
              have hdl := drop_len nm s
              rw [← hall] at hdl
              have HLN := hide (clen_ok HS.out.at_)
              have HDR := hide (cdrop_ok HS.out.at_ nm)
              obtain ⟨lc, hlc⟩ : ∃ lc, lcount nm s.L 100 = lc := ⟨_, rfl⟩
              rw [hlc] at hdl
              rw [hlc]
              have hsl := HS.out.inv.len
              obtain ⟨ln, hln⟩ : ∃ ln, s.L.length = ln := ⟨_, rfl⟩
              rw [hln] at hdl HLN hsl
              obtain ⟨ld, hld⟩ : ∃ ld, (cdrop nm s).L.length = ld := ⟨_, rfl⟩
              rw [hld] at hdl
              have hwl : IntKind.i64.wrap ((ln : Int) - (lc : Int)) = (ln : Int) - (lc : Int) := by simp only [IntKind.wrap, IntKind.bits, IntKind.signed]; simp; omega
              have hneq : (((ld : Int)) != (ln : Int) - (lc : Int)) = false := by simp; omega
              have heq : (((ld : Int)) == (ln : Int) - (lc : Int)) = true := by simp; omega
              clear hall hlc
              go_wp2_with fail
              go_at_call 21
              refine HLN.out.mono ?_
              rintro e w9 ⟨rfl, rfl⟩
              go_wp2_with fail
              go_at_call 35
              refine HDR.out.mono ?_
              rintro e W5 ⟨rfl, at5, fr5⟩
              have HS5 := hide (HS.out.step at5 (fun _ h => .inl h) fr5 (HS.out.inv.dropped nm))
              have HOW5 : Hid (W5.ownsRow w.heap.size 52 5 (.slice A' q c') q (P.flatMap fun a => (actc a).toList) ∧ (∀ b, (Value.slice A' q c').ownBlock = some b → ¬ X b) ∧ ∀ a ∈ P, ActWf a) := ⟨own_fr5 HOW.out.1 fr5 HOW.out.2.1, HOW.out.2⟩
              have HGO := hide (HPR.out.drop nm)
              clear at5 fr5
              have HLD := hide (clen_ok HS5.out.at_)
              rw [hld] at HLD
              clear hld
              go_wp2_with fail
              go_at_call 21
              refine HLD.out.mono ?_
              rintro e w9 ⟨rfl, rfl⟩
              go_wp2
              go_loopw [16] (fun iv wq => ∃ (j : Nat) (s2 : CSt), iv = .int .i64 (j : Int) ∧ j ≤ q ∧ St 60 (1 + y % 9) w wq cb fb X s2 ∧ s2.clk ≤ k ∧ Gone nm ((P.drop j).map CAct.key) s2 ∧ wq.ownsRow w.heap.size 52 5 (.slice A' q c') q (P.flatMap fun a => (actc a).toList)) (fun iv _ => q - (intOf iv).toNat)
              case atStart => exact ⟨0, _, rfl, by omega, HS5.out, hclk, by rw [List.drop_zero]; exact HGO.out, HOW5.out.1⟩
              case round =>
                obtain ⟨j, s2, rfl, hjq, hst2, hclk2, hgo, how2⟩ := hrel
                have HS2 := hide hst2
                have HG2 := hide hgo
                have HO2 := hide how2
                clear hst2 hgo how2
                by_cases hlt2 : j < q
                · have hjl : j < P.length := by rw [HQ.out]; exact hlt2
                  obtain ⟨g, c6, hv, _, hlt⟩ := World.ownsRow.form HO2.out (by omega)
                  injection hv with hv _ hc6
                  subst hv
                  subst hc6
                  obtain ⟨pa, hpa⟩ : ∃ pa, P[j] = pa := ⟨_, rfl⟩
                  have hcel : ∀ t, (ht : t < 5) → wr.cell? ⟨g, j * 5 + t, none⟩ = (actc pa)[t]? := fun t ht => by
                    rw [HO2.out.cellAt (j * 5 + t) (by omega), flat_act P j hjl t ht, hpa]
                  have z1 : wr.cell? ⟨g, j * 5 + 1, none⟩ = some (.string ⟨pa.name.toArray⟩) := (hcel 1 (by omega)).trans rfl
                  have z2 : wr.cell? ⟨g, j * 5 + 2, none⟩ = some (.int .i64 pa.i) := (hcel 2 (by omega)).trans rfl
                  have HGX : Hid (¬ X g) := HOW.out.2.1 g rfl
                  have HCL := hide (fun W (hS : Fr X wr W) => (⟨hS.cell z1 HGX.out, hS.cell z2 HGX.out⟩ : W.cell? ⟨g, j * 5 + 1, none⟩ = some (.string ⟨pa.name.toArray⟩) ∧ W.cell? ⟨g, j * 5 + 2, none⟩ = some (.int .i64 pa.i)))
                  have HUN := hide (cunpin_ok (HS2.out.at_.up (Fr.refl _ _).drew) HS2.out.inv (pa.name, pa.i) (by omega))
                  have hgu : Gone nm (pa.key :: (P.drop (j + 1)).map CAct.key) s2 := by
                    have := HG2.out
                    rw [List.drop_eq_getElem_cons hjl, hpa] at this
                    exact this
                  obtain ⟨hiff, hgn⟩ := hgu.unpin HS2.out.inv
                  have HGN := hide (show Gone nm ((P.drop (j + 1)).map CAct.key) (cunpin (pa.name, pa.i) s2).2 from hgn)
                  have hiff2 : (cunpin (pa.name, pa.i) s2).1 = 0 ↔ pa.name ≠ nm := hiff
                  have HCK := hide (show (cunpin (pa.name, pa.i) s2).2.clk = s2.clk by unfold cunpin; split <;> (try split) <;> rfl)
                  have HI7 := hide (HS2.out.inv.unpinned (pa.name, pa.i))
                  have h0 : (0 : Int) ≤ (j : Int) := by omega
                  have h1 : (j : Int) < (q : Int) := by omega
                  have hnone : (lget (nm, pa.i) (cunpin (pa.name, pa.i) s2).2.L).isSome = false := by
                    have : lget (nm, pa.i) (cunpin (pa.name, pa.i) s2).2.L = none := get_none_iff.2 (fun x hx e => hgn.no x hx (by rw [e]))
                    rw [this]
                    rfl
                  obtain ⟨zu, hzu⟩ : ∃ zu, (cunpin (pa.name, pa.i) s2).1 = zu := ⟨_, rfl⟩
                  rw [hzu] at HUN hiff2
                  clear hiff hgn hgu hcel z1 z2 hzu hpa
                  go_wp2_with fail
                  refine wp_region_ord [(0, true), (1, true), (2, true), (3, true), (4, true), (5, true), (6, true), (7, true), (8, true), (9, true), (10, true), (11, false), (12, true)] (fun W => W.cell? ⟨g, j * 5 + 1, none⟩ = some (.string ⟨pa.name.toArray⟩) ∧ W.cell? ⟨g, j * 5 + 2, none⟩ = some (.int .i64 pa.i)) (by kernel_rfl) (by kernel_rfl) (HCL.out _ (Fr.refl _ _).drew) ?_
                  iterate 11
                    refine ord_read rfl ?_ ?_ (fun W hS => ?_) ?_
                    · rfl
                    rotate_left
                    · (obtain ⟨x1, x2⟩ := hS; go_simp; try with_reducible rfl)
                    simp only [List.getElem_toArray, List.getElem_cons_zero, List.getElem_cons_succ, Act.put, List.setIfInBounds_toArray, List.set_cons_zero, List.set_cons_succ]
                  refine ord_act rfl ?_
                  go_wp2_with fail
                  go_at_call 40
                  refine HUN.out.mono ?_
                  rintro e W7 ⟨rfl, at7, fr7⟩
                  have fr7' := (Fr.refl X wr).drew.trans fr7 (fun _ h => .inl h)
                  have HS7 := hide (HS2.out.step at7 (fun _ h => .inl h) fr7' HI7.out)
                  have HCS := HCL.out W7 fr7'
                  have HO7 := hide (own_fr5 HO2.out fr7' HOW.out.2.1)
                  clear at7 fr7 fr7'
                  go_wp2
                  refine midQ_ok HCS ?_
                  iterate 1
                    refine ord_read rfl ?_ ?_ (fun W hS => ?_) ?_
                    · rfl
                    rotate_left
                    · (skip; go_simp; try with_reducible rfl)
                    simp only [List.getElem_toArray, List.getElem_cons_zero, List.getElem_cons_succ, Act.put, List.setIfInBounds_toArray, List.set_cons_zero, List.set_cons_succ]
                  refine ord_done ?_
                  refine NoPanic.normal ?_
                  obtain ⟨x1, x2⟩ := HCS
                  have HHS := hide (chas_ok HS7.out.at_ (nm, pa.i))
                  rw [hnone] at HHS
                  by_cases hnq : pa.name = nm
                  · have w0 : (zu == 0) = false := by simpa using fun e => (hiff2.1 e) hnq
                    have y0 : ((⟨pa.name.toArray⟩ : ByteArray) == ⟨nm.toArray⟩) = true := by rw [hnq, MapKept.bytes_beq]
                    have y1 : ((⟨pa.name.toArray⟩ : ByteArray) != ⟨nm.toArray⟩) = false := by simp [bne, y0]
                    have y2 : (pa.name == nm) = true := by simpa using hnq
                    have y3 : (pa.name != nm) = false := by simpa using hnq
                    clear hiff2 hnq
                    go_wp2_with fail
                    go_at_call 31
                    refine HHS.out.mono ?_
                    rintro e w9 ⟨rfl, rfl⟩
                    go_wp2
                    go_roundw
                    case rel => exact ⟨j + 1, (cunpin (pa.name, pa.i) s2).2, by go_num, by omega, HS7.out, by rw [HCK.out]; exact hclk2, HGN.out, HO7.out⟩
                    case measure => simp [intOf]; omega
                  · have w0 : (zu == 0) = true := by simpa using hiff2.2 hnq
                    have y0 : ((⟨pa.name.toArray⟩ : ByteArray) == ⟨nm.toArray⟩) = false := by
                      rw [Bool.eq_false_iff]
                      intro h
                      rw [MapKept.bytes_beq] at h
                      exact hnq (by simpa using h)
                    have y1 : ((⟨pa.name.toArray⟩ : ByteArray) != ⟨nm.toArray⟩) = true := by simp [bne, y0]
                    have y2 : (pa.name == nm) = false := by simpa using hnq
                    have y3 : (pa.name != nm) = true := by simpa using hnq
                    clear hiff2 hnq
                    go_wp2_with fail
                    go_at_call 31
                    refine HHS.out.mono ?_
                    rintro e w9 ⟨rfl, rfl⟩
                    go_wp2
                    go_roundw
                    case rel => exact ⟨j + 1, (cunpin (pa.name, pa.i) s2).2, by go_num, by omega, HS7.out, by rw [HCK.out]; exact hclk2, HGN.out, HO7.out⟩
                    case measure => simp [intOf]; omega
                · obtain rfl : j = q := by omega
                  have hge : (P.drop j).map CAct.key = [] := by rw [List.drop_eq_nil_of_le (by rw [HQ.out]; exact Nat.le_refl _)]; rfl
                  have hpz : pinned s2.L = 0 := by
                    have := HG2.out
                    rw [hge] at this
                    unfold pinned
                    rw [this.done]
                    rfl
                  have HPN := hide (cpinned_ok HS2.out.at_ (Nat.le_trans HS2.out.inv.len (by omega)))
                  rw [hpz] at HPN
                  clear hpz hge
                  go_wp2_with fail
                  go_at_call 29
                  refine HPN.out.mono ?_
                  rintro e W6 ⟨rfl, hf6⟩
                  have HF6 := hide (HS2.out.fr.then_ hf6)
                  clear hf6
                  have HDO := hide (fun W => does07_true W)
                  go_wp2_with fail
                  go_at_call 15
                  refine (HDO.out _).mono ?_
                  rintro e W9 ⟨rfl, hf9⟩
                  have HF9 := hide (HF6.out.then_ hf9)
                  clear hf9
                  go_wp2
                  go_ret
                  exact ⟨rfl, HF9.out⟩
end Go.Proofs.YtkhbemmcegmdaaaGreatDoor
