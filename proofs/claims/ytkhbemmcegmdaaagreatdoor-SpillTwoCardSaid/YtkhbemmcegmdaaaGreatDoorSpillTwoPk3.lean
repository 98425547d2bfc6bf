/- Parts of the proof of SpillTwo: no conditions of their own. -/
import Derived.Test.YtkhbemmcegmdaaaGreatDoorSpillTwoPk2
import Derived.Test.YtkhbemmcegmdaaaGreatDoorSpillTwoPk0
section
set_option linter.all false
set_option linter.unusedVariables false
set_option maxRecDepth 100000
namespace Go.Proofs.YtkhbemmcegmdaaaGreatDoor
open Go.RowKit

structure TwoNums (yn : Int) (z0 z1 m N N1 q ma r0 r mb k cm : Nat) : Prop where
  n1 : 1 ≤ N
  n2 : N ≤ 256
  nn : N1 + 1 = N
  o1 : 1 ≤ ma ∧ ma ≤ 5
  o2 : 1 ≤ mb ∧ mb ≤ 5
  o3 : 1 ≤ cm ∧ cm ≤ 9
  a0 : (IntKind.u64.wrap yn).tmod 256 = (m : Int)
  a1 : wrap64 (m : Int) = (m : Int)
  a2 : IntKind.i64.wrap (m : Int) = (m : Int)
  a3 : 1 + (m : Int) = (N : Int)
  a4 : wrap64 (N : Int) = (N : Int)
  a5 : IntKind.i64.wrap (N : Int) = (N : Int)
  a6 : (N : Int) - 1 = (N1 : Int)
  a7 : wrap64 (N1 : Int) = (N1 : Int)
  a8 : IntKind.i64.wrap (N1 : Int) = (N1 : Int)
  b0 : ((z0 : Nat) : Int).tmod 5 = (q : Int)
  b1 : wrap64 (q : Int) = (q : Int)
  b2 : IntKind.i64.wrap (q : Int) = (q : Int)
  b3 : 1 + (q : Int) = (ma : Int)
  b4 : wrap64 (ma : Int) = (ma : Int)
  b5 : IntKind.i64.wrap (ma : Int) = (ma : Int)
  b6 : wrap64 (z0 : Int) = (z0 : Int)
  c0 : ((z0 : Nat) : Int).tdiv 5 = (r0 : Int)
  c1 : wrap64 (r0 : Int) = (r0 : Int)
  c2 : IntKind.i64.wrap (r0 : Int) = (r0 : Int)
  c3 : ((r0 : Nat) : Int).tmod 5 = (r : Int)
  c4 : wrap64 (r : Int) = (r : Int)
  c5 : IntKind.i64.wrap (r : Int) = (r : Int)
  c6 : 1 + (r : Int) = (mb : Int)
  c7 : wrap64 (mb : Int) = (mb : Int)
  c8 : IntKind.i64.wrap (mb : Int) = (mb : Int)
  d0 : ((z1 : Nat) : Int).tmod 9 = (k : Int)
  d1 : wrap64 (k : Int) = (k : Int)
  d2 : IntKind.i64.wrap (k : Int) = (k : Int)
  d3 : 1 + (k : Int) = (cm : Int)
  d4 : wrap64 (cm : Int) = (cm : Int)
  d5 : IntKind.i64.wrap (cm : Int) = (cm : Int)
  d6 : wrap64 (z1 : Int) = (z1 : Int)
theorem two_nums (yn : Int) (z0 z1 : Nat) (h0 : z0 < 256) (h1 : z1 < 256) : ∃ m N N1 q ma r0 r mb k cm : Nat, TwoNums yn z0 z1 m N N1 q ma r0 r mb k cm := by
  obtain ⟨m, hm, hm0⟩ := of_u64 yn
  obtain ⟨q, hq, hq0⟩ := of_u8 z0 5 (by omega) (by omega)
  have hr0 : ((z0 : Nat) : Int).tdiv 5 = ((z0 / 5 : Nat) : Int) := by rw [Int.tdiv_eq_ediv_of_nonneg (by omega)]; rfl
  have hr1 : z0 / 5 < 256 := by omega
  generalize z0 / 5 = r0 at hr0 hr1
  obtain ⟨r, hr, hr2⟩ := of_u8 r0 5 (by omega) (by omega)
  obtain ⟨k, hk, hk0⟩ := of_u8 z1 9 (by omega) (by omega)
  have e1 : 1 ≤ 1 + m ∧ 1 + m ≤ 256 ∧ m + 1 = 1 + m ∧ ((1 + m : Nat) : Int) - 1 = (m : Int) := by omega
  have e2 : (1 ≤ 1 + q ∧ 1 + q ≤ 5) ∧ (1 ≤ 1 + r ∧ 1 + r ≤ 5) ∧ (1 ≤ 1 + k ∧ 1 + k ≤ 9) := by omega
  have e3 : q < 256 ∧ r < 256 ∧ k < 256 := by omega
  have A := add1_small m hm
  have B := add1_small q e3.1
  have C := add1_small r e3.2.1
  have D := add1_small k e3.2.2
  exact ⟨m, 1 + m, m, q, 1 + q, r0, r, 1 + r, k, 1 + k, ⟨e1.1, e1.2.1, e1.2.2.1, e2.1, e2.2.1, e2.2.2, hm0, (small_ok hm).1, (small_ok hm).2, A.1, A.2.1, A.2.2, e1.2.2.2, (small_ok hm).1, (small_ok hm).2, hq0, (small_ok e3.1).1, (small_ok e3.1).2, B.1, B.2.1, B.2.2, (small_ok h0).1, hr0, (small_ok hr1).1, (small_ok hr1).2, hr2, (small_ok e3.2.1).1, (small_ok e3.2.1).2, C.1, C.2.1, C.2.2, hk0, (small_ok e3.2.2).1, (small_ok e3.2.2).2, D.1, D.2.1, D.2.2, (small_ok h1).1⟩⟩
def other : Name := [111, 116, 104, 101, 114]
theorem name_o : nameB [111, 116, 104, 101, 114] = true := by decide +kernel
theorem name_a : nameB [97] = true := by decide +kernel
theorem name_b : nameB [98] = true := by decide +kernel
theorem split_len3 (d : List UInt8) (h : d.length ≤ 300) : (splitB d).length ≤ 3 := by
  by_cases h1 : d.length ≤ 122
  · rw [splitB_short h1]; simp
  · rw [splitB_long (by omega)]
    have hd1 : (d.drop 122).length ≤ 178 := by rw [List.length_drop]; omega
    by_cases h2 : (d.drop 122).length ≤ 122
    · rw [splitB_short h2]; simp
    · rw [splitB_long (by omega)]
      have hd2 : ((d.drop 122).drop 122).length ≤ 122 := by rw [List.length_drop]; omega
      rw [splitB_short hd2]
      simp
/-- the files behind what others have -/
def oFile (q : List (List UInt8)) : FileL := [([111, 116, 104, 101, 114], q)]
theorem owrite (q : List (List UInt8)) (h : q.length ≤ 3) : fswrite 90 [] [111, 116, 104, 101, 114] q = (0, oFile q) := by
  unfold fswrite
  rw [if_neg (by rw [name_o]; decide), if_neg (by simp [total, fpg]; omega)]
  rfl
theorem oinvF (q : List (List UInt8)) (h : q.length ≤ 3) (hq : q ≠ [] ∧ ∀ s ∈ q, s.length = 128) : FInv 90 (oFile q) ∧ ((oFile q).map (·.1)).Nodup ∧ total (oFile q) = q.length := by
  have ht : total (oFile q) = q.length := by simp [total, oFile]
  refine ⟨⟨by rw [ht]; omega, by omega, fun p hp => ?_, fun p hp => ?_⟩, by simp [oFile], ht⟩
  · unfold oFile at hp
    rw [List.mem_singleton] at hp
    rw [hp]
    exact name_o
  · unfold oFile at hp
    rw [List.mem_singleton] at hp
    rw [hp]
    exact hq
theorem rest_files {room : Int} {cm : Nat} {s : CSt} (h : CRest room cm s) {F : FileL} (hF : FInv room F ∧ (F.map (·.1)).Nodup) (hL : s.L = []) : CRest room cm { s with F := F } := ⟨h.inv.setF hF, fun x hx => (by rw [show ({ s with F := F } : CSt).L = s.L from rfl, hL] at hx; cases hx), fun x hx => h.pins x hx⟩
theorem only_other {F : FileL} {room : Int} {q : List (List UInt8)} (hI : FInv room F) (hn : (F.map (·.1)).Nodup) (h : ∀ m, m ≠ [111, 116, 104, 101, 114] → fpg m F = []) (hq : fpg [111, 116, 104, 101, 114] F = q) (hne : q ≠ []) : F.map (·.1) = [[111, 116, 104, 101, 114]] := by
  have hk : ∀ p ∈ F, p.1 = [111, 116, 104, 101, 114] := fun p hp => by
    by_cases e : p.1 = [111, 116, 104, 101, 114]
    · exact e
    · exact absurd ((fpg_at hn p hp).symm.trans (h p.1 e)) (hI.pg p hp).1
  cases F with
  | nil => exact absurd (by rw [← hq]; rfl) hne
  | cons p F =>
    cases F with
    | nil => rw [List.map_cons, hk p (by simp)]; rfl
    | cons p2 F =>
      rw [List.map_cons, List.map_cons, hk p (by simp), hk p2 (by simp)] at hn
      simp at hn
theorem two_room {F : FileL} {L N : Nat} (h : total F = L) (h2 : L ≤ 3) (h3 : N ≤ 256) : ((total F : Nat) : Int) + (((N + 7) / 8 : Nat) : Int) ≤ 90 ∧ ((L : Nat) : Int) + (((N + 7) / 8 : Nat) : Int) + (((N + 7) / 8 : Nat) : Int) ≤ 90 := by
  rw [h]
  omega
theorem ne_two {p g p2 g2 b : Nat} (h1 : p < b) (h2 : g < b) (h3 : b ≤ p2) (h4 : b ≤ g2) : p2 ≠ g ∧ g2 ≠ g ∧ p ≠ g2 ∧ g ≠ g2 := by omega
theorem step_two (k : Nat) (h : k < 60) : 512 * k + 256 ≤ 1000000 := by omega
theorem step_two2 (k : Nat) (h : k < 60) : 512 * k + 256 + 256 ≤ 1000000 := by omega
theorem two_le1 (k : Nat) : 512 * k + 256 ≤ 512 * (k + 1) := by omega
theorem two_le2 (k : Nat) : 512 * k + 256 + 256 ≤ 512 * (k + 1) := by omega
theorem inv_new (room : Int) (h0 : 0 ≤ room) (h1 : room ≤ 4096) : FInv room [] := ⟨by simp [total]; omega, h1, by simp, by simp⟩
set_option maxHeartbeats 3200000 in
theorem law_two (nm : List UInt8) (yn ym : Int) (z0 z1 : Nat) (hz0 : z0 < 256) (hz1 : z1 < 256) (A0 A1 : Option Addr) (n0 c0 n1 c1 : Nat) (l0 l1 : List SAct) (dt : ByteArray) (w : World) (ha0 : SActsR w w.heap.size A0 n0 l0) (ha1 : SActsR w w.heap.size A1 n1 l1) (hn0 : n0 ≤ 9223372036854775807) (hn1 : n1 ≤ 9223372036854775807) (hdt : dt.size ≤ 9223372036854775807) :
    Calls Tryz.prog 14 #[.agg #[.string ⟨nm.toArray⟩, .int .i64 yn, .int .i64 ym, .int .u8 (z0 : Int), .int .u8 (z1 : Int)], .agg #[.slice A0 n0 c0, .slice A1 n1 c1], .string dt] w fun e w' => e = .returned (.bool true) ∧ Fr (fun _ => False) w w' := by
  obtain ⟨W1, hW1⟩ : ∃ W1, W1 = w.alloc (.cells #[.string ⟨nm.toArray⟩, .int .i64 yn, .int .i64 ym, .int .u8 (z0 : Int), .int .u8 (z1 : Int)] 85) := ⟨_, rfl⟩
  have hf1 : Fr (fun _ => False) w W1 := by rw [hW1]; exact (Fr.refl _ _).alloc _
  have HB1 : Hid (Blk W1 w.heap.size 85 #[.string ⟨nm.toArray⟩, .int .i64 yn, .int .i64 ym, .int .u8 (z0 : Int), .int .u8 (z1 : Int)]) := by rw [hW1]; exact Blk.new w 85 _
  have hz1' : W1.heap.size = w.heap.size + 1 := by rw [hW1]; simp
  obtain ⟨W2, hW2⟩ : ∃ W2, W2 = W1.alloc (.cells #[.slice A0 n0 c0, .slice A1 n1 c1] 114) := ⟨_, rfl⟩
  have hf12 : Fr (fun _ => False) W1 W2 := by rw [hW2]; exact (Fr.refl _ _).alloc _
  have HB2 : Hid (Blk W2 (w.heap.size + 1) 114 #[.slice A0 n0 c0, .slice A1 n1 c1]) := by rw [hW2, ← hz1']; exact Blk.new W1 114 _
  have hf2 := hf1.then_ hf12
  have HF2 := hide hf2
  have HA0 := hide (ha0.fr hf2 (Nat.le_refl _) (fun _ h => h.elim))
  have HA1 := hide (ha1.fr hf2 (Nat.le_refl _) (fun _ h => h.elim))
  have HG0 := hide (fun W (hS : Fr (fun _ => False) W2 W) => sgreat_ok (HA0.out.fr hS HF2.out.size (fun _ h => h.elim)) (Nat.le_trans HF2.out.size hS.size) 60 c0 (by decide) hn0)
  have HG1 := hide (fun W (hS : Fr (fun _ => False) W2 W) => sgreat_ok (HA1.out.fr hS HF2.out.size (fun _ h => h.elim)) (Nat.le_trans HF2.out.size hS.size) 60 c1 (by decide) hn1)
  have HW1 := hide hW1
  have HW2 := hide hW2
  obtain ⟨m, N, N1, q, ma, r0, r, mb, k, cm, hnum⟩ := two_nums yn z0 z1 hz0 hz1
  have HNU := hide hnum
  have HSPA : Hid (SPar N ma ((N + 7) / 8)) := spar_of hnum.n2 hnum.o1.1 (Nat.le_trans hnum.o1.2 (by decide))
  have HSPB : Hid (SPar N mb ((N + 7) / 8)) := spar_of hnum.n2 hnum.o2.1 (Nat.le_trans hnum.o2.2 (by decide))
  have b1w : Blk W2 w.heap.size 85 #[.string ⟨nm.toArray⟩, .int .i64 yn, .int .i64 ym, .int .u8 (z0 : Int), .int .u8 (z1 : Int)] := HB1.out.fr hf12 id
  have s1 : W2.cell? ⟨w.heap.size, 1, none⟩ = some (.int .i64 yn) := (b1w.cell 1).trans rfl
  have s3 : W2.cell? ⟨w.heap.size, 3, none⟩ = some (.int .u8 (z0 : Int)) := (b1w.cell 3).trans rfl
  have s4 : W2.cell? ⟨w.heap.size, 4, none⟩ = some (.int .u8 (z1 : Int)) := (b1w.cell 4).trans rfl
  have u0 : W2.cell? ⟨w.heap.size + 1, 0, none⟩ = some (.slice A0 n0 c0) := (HB2.out.cell 0).trans rfl
  have u1 : W2.cell? ⟨w.heap.size + 1, 1, none⟩ = some (.slice A1 n1 c1) := (HB2.out.cell 1).trans rfl
  have HLB := hide (And.intro b1w.lt HB2.out.lt)
  have HSC := hide (fun W (hS : Fr (fun j => ¬ j < W2.heap.size) W2 W) => (⟨hS.cell s1 (fun h => h HLB.out.1), hS.cell s3 (fun h => h HLB.out.1), hS.cell s4 (fun h => h HLB.out.1), hS.cell u0 (fun h => h HLB.out.2), hS.cell u1 (fun h => h HLB.out.2)⟩ : W.cell? ⟨w.heap.size, 1, none⟩ = some (.int .i64 yn) ∧ W.cell? ⟨w.heap.size, 3, none⟩ = some (.int .u8 (z0 : Int)) ∧ W.cell? ⟨w.heap.size, 4, none⟩ = some (.int .u8 (z1 : Int)) ∧ W.cell? ⟨w.heap.size + 1, 0, none⟩ = some (.slice A0 n0 c0) ∧ W.cell? ⟨w.heap.size + 1, 1, none⟩ = some (.slice A1 n1 c1)))
  have HHA := hide (fun W (hS : Fr (fun j => ¬ j < W2.heap.size) W2 W) => (⟨HA0.out.fr hS HF2.out.size (fun j hj => Nat.le_trans HF2.out.size (Nat.le_of_not_lt hj)), HA1.out.fr hS HF2.out.size (fun j hj => Nat.le_trans HF2.out.size (Nat.le_of_not_lt hj))⟩ : SActsR W w.heap.size A0 n0 l0 ∧ SActsR W w.heap.size A1 n1 l1))
  obtain ⟨_, _, _, _, _, _, a0, a1, a2, a3, a4, a5, a6, a7, a8, b0, b1, b2, b3, b4, b5, b6, e0, e1, e2, e3, e4, e5, e6, e7, e8, d0, d1, d2, d3, d4, d5, d6⟩ := hnum
  obtain ⟨dl, hdl⟩ : ∃ dl, dt.size = dl := ⟨_, rfl⟩
  have HDL := hide hdl
  have hdl2 : dl ≤ 9223372036854775807 := by rw [← hdl]; exact hdt
  clear ha0 ha1 hf1 hf12 hf2 hW1 hW2 hz0 hz1 b1w s1 s3 s4 hdt
  go_enter Tryz.func14, Tryz.ntmps14
  go_wp2_with fail
  rw [← HW1.out]
  try rw [hz1']
  rw [← HW2.out]
  go_wp2_with fail
  go_at_call 46
  refine (HG0.out _ (Fr.refl _ _)).mono ?_
  rintro e W3 ⟨hg, hf3⟩
  have HF3 := hide hf3
  clear hf3 u0 u1
  obtain ⟨_, _, _, u0, u1⟩ := HSC.out W3 (HF3.out.mono (fun _ h => h.elim))
  rcases hg with rfl | ⟨rfl, hg0⟩
  · go_wp2
    go_ret
    exact ⟨rfl, HF2.out.then_ HF3.out⟩
  · go_wp2_with fail
    go_at_call 46
    refine (HG1.out _ HF3.out).mono ?_
    rintro e W4 ⟨hg, hf4⟩
    have HF4 := hide (HF3.out.then_ hf4)
    clear hf4 u0 u1
    rcases hg with rfl | ⟨rfl, hg1⟩
    · go_wp2
      go_ret
      exact ⟨rfl, HF2.out.then_ HF4.out⟩
    · by_cases h300 : 300 < dl
      · have t0 : (dl : Int) > 300 := by clear a1 a2 a4 a5 a7 a8 b1 b2 b4 b5 b6 e1 e2 e4 e5 e7 e8 d1 d2 d4 d5 d6; omega
        have t1 : (300 : Int) < (dl : Int) := t0
        go_wp2
        go_ret
        exact ⟨rfl, HF2.out.then_ HF4.out⟩
      · have t0 : ¬ (dl : Int) > 300 := by clear a1 a2 a4 a5 a7 a8 b1 b2 b4 b5 b6 e1 e2 e4 e5 e7 e8 d1 d2 d4 d5 d6; omega
        have t1 : ¬ (300 : Int) < (dl : Int) := t0
        have HND := hide (And.intro hg0 (And.intro hg1 (Nat.le_of_not_lt h300)))
        clear hg0 hg1 h300
        have HFN := hide (fnew_ok 90 (by decide) (by decide) W4)
        go_wp2_with fail
        go_at_call 24
        refine HFN.out.mono ?_
        rintro e W5 ⟨fb, XF, rfl, hat, hx5, hf5⟩
        have HCN := hide (cnew_ok hat cm HNU.out.o3.1 (Nat.le_trans HNU.out.o3.2 (by decide)))
        have H5 := hide (And.intro hx5 hf5)
        obtain ⟨_, s3, s4, _, _⟩ := HSC.out W5 ((HF4.out.then_ hf5).mono (fun _ h => h.elim))
        clear hat hx5 hf5 HFN
        go_wp2_with fail
        go_at_call 26
        refine HCN.out.mono ?_
        rintro e W6 ⟨cb, X6, rfl, hat, hx6, _, hcb, hf6⟩
        have HC6 := hide (And.intro (show CAt W6 cb fb X6 (90 : Int) cm ⟨-1, [], [], 0⟩ from hat) (show ∀ j, X6 j → ¬ j < W4.heap.size from fun j hj hz => by
          rcases hx6 j hj with h | h
          · exact absurd hz (Nat.not_lt.2 (H5.out.1 j h))
          · exact absurd hz (Nat.not_lt.2 (Nat.le_trans H5.out.2.size h))))
        have HF6 := hide (H5.out.2.then_ hf6)
        have hlen3 : (splitB dt.data.toList).length ≤ 3 := split_len3 _ (by rw [Array.length_toList]; exact Nat.le_trans (Nat.le_of_eq HDL.out) HND.out.2.2)
        have HS3 := hide hlen3
        have HSPL := hide (pg_split dt W6 (Nat.le_trans (Nat.le_of_eq HDL.out) (Nat.le_trans HND.out.2.2 (by decide))))
        clear hat hx6 hcb hf6 HCN s3 s4 hlen3
        go_wp2_with fail
        go_at_call 56
        refine HSPL.out.mono ?_
        rintro e W7 ⟨Aq, cq, rfl, _, _, hrd, hf7⟩
        have HF7 := hide (HF6.out.then_ hf7)
        have hq := split_pages dt.data.toList
        have HWR := hide ((HC6.out.1.up hf7).lift (fun XF hat => fwrite_any hat (inv_new 90 (by decide) (by decide)) [111, 116, 104, 101, 114] (by decide) Aq cq _ (splitB dt.data.toList) hrd (Nat.le_refl _) hq.2 (Nat.le_trans HS3.out (by decide)) hq.1))
        simp only at HWR
        rw [owrite _ HS3.out] at HWR
        clear hrd hf7 hq HSPL
        go_wp2_with fail
        go_at_call 55
        refine HWR.out.mono ?_
        rintro e W8 ⟨rfl, ⟨X8, at8, nx8⟩, fr8⟩
        have h8x : ∀ j, X8 j → ¬ j < W4.heap.size := fun j hj hz => by
          rcases nx8 j hj with h | h
          · exact HC6.out.2 j h hz
          · exact absurd hz (Nat.not_lt.2 (Nat.le_trans HF7.out.size h))
        have hqq := split_pages dt.data.toList
        obtain ⟨Q, hQ⟩ : ∃ Q, splitB dt.data.toList = Q := ⟨_, rfl⟩
        rw [hQ] at at8 HS3 hqq
        have hof := oinvF Q HS3.out hqq
        have hrest : CRest 90 cm ⟨-1, oFile Q, [], 0⟩ := rest_files (rest_new 90 (by decide) (by decide) cm) ⟨hof.1, hof.2.1⟩ rfl
        have HRS := hide hrest
        have HOF := hide hof
        have HQQ := hide hqq
        have HC8 := hide (And.intro at8 h8x)
        have HF8 := hide ((HF7.out.mono (S' := fun j => ¬ j < W4.heap.size) (fun _ h => h.elim)).trans fr8 (fun j hj => .inl (HC6.out.2 j hj)))
        have HUS := hide (cat_used at8 hrest.inv)
        rw [show (({ left := -1, F := oFile Q, L := [], clk := 0 } : CSt).F) = oFile Q from rfl, hof.2.2] at HUS
        clear at8 nx8 fr8 h8x hqq hQ hof hrest HWR
        go_wp2_with fail
        go_at_call 33
        refine HUS.out.mono ?_
        rintro e W9 ⟨rfl, hf9⟩
        have HF9 := hide (HF8.out.trans hf9 (fun _ h => h.elim))
        obtain ⟨s1, s3, _, _, _⟩ := HSC.out W9 ((HF4.out.mono (S' := fun j => ¬ j < W2.heap.size) (fun _ h => h.elim)).trans HF9.out (fun j hj => .inl (fun hz => hj (Nat.lt_of_lt_of_le hz HF4.out.size))))
        have hrm0 : ((total (oFile Q) : Nat) : Int) + (((N + 7) / 8 : Nat) : Int) ≤ 90 ∧ ((Q.length : Nat) : Int) + (((N + 7) / 8 : Nat) : Int) + (((N + 7) / 8 : Nat) : Int) ≤ 90 := two_room HOF.out.2.2 HS3.out HNU.out.n2
        have HSA := hide (SLaw.new (K := 0) (room := 90) (segs := (N + 7) / 8) (Z := fun j => j < W4.heap.size) (HC8.out.1.up hf9) HRS.out (fun j hj => Nat.lt_of_lt_of_le hj HF9.out.size) HC8.out.2 [97] name_a N ma HSPA.out (by simp [oFile, fpg]) hrm0.1 HNU.out.o3.1 (by simp))
        have HRM := hide hrm0.2
        clear hf9 hrm0
        go_wp2_with fail
        go_at_call 41
        refine HSA.out.mono ?_
        rintro e W10 ⟨sa, rfl, hl10, hf10⟩
        have HF10 := hide (HF9.out.trans hf10 (fun _ h => h.elim))
        have HSB := hide (STwo.new hl10 (nb := [98]) name_b HSPB.out (by simp [oFile, fpg]) HOF.out.2.2 HRM.out)
        clear s1 s3
        obtain ⟨_, s3, _, _, _⟩ := HSC.out W10 ((HF4.out.mono (S' := fun j => ¬ j < W2.heap.size) (fun _ h => h.elim)).trans HF10.out (fun j hj => .inl (fun hz => hj (Nat.lt_of_lt_of_le hz HF4.out.size))))
        clear hl10 hf10 HSA
        go_wp2_with fail
        go_at_call 41
        refine HSB.out.mono ?_
        rintro e W11 ⟨sb, rfl, ht11, hf11⟩
        have HT11 := hide ht11
        have HF11 := hide (HF10.out.trans hf11 (fun _ h => h.elim))
        have HV1 := hide (new_ok N W11 HNU.out.n2)
        clear ht11 hf11 HSB s3
        go_wp2_with fail
        go_at_call 51
        refine HV1.out.mono ?_
        rintro e W12 ⟨p, g, rfl, hp1, hg1, hpl1, hf12⟩
        have HV2 := hide (new_ok N W12 HNU.out.n2)
        have H12 := hide (And.intro hp1 (And.intro hg1 (And.intro hpl1 hf12)))
        clear hp1 hg1 hpl1 hf12 HV1
        go_wp2_with fail
        go_at_call 51
        refine HV2.out.mono ?_
        rintro e W13 ⟨p2, g2, rfl, hp2, hg2, hpl2, hf13⟩
        have HT13 := hide (HT11.out.moreP (H12.out.2.2.2.then_ hf13) (fun j => (j = p ∨ j = g) ∨ (j = p2 ∨ j = g2)) (fun j hj => by
          have q1 := H12.out.2.2.1.head.lt
          have q2 := H12.out.2.2.1.row.lt
          have q3 := hf13.size
          have q4 := H12.out.2.2.2.size
          rcases hj with (rfl | rfl) | (rfl | rfl)
          · exact ⟨H12.out.1, Nat.lt_of_lt_of_le q1 q3⟩
          · exact ⟨H12.out.2.1, Nat.lt_of_lt_of_le q2 q3⟩
          · exact ⟨Nat.le_trans q4 hp2, hpl2.head.lt⟩
          · exact ⟨Nat.le_trans q4 hg2, hpl2.row.lt⟩))
        have HPA := hide (H12.out.2.2.1.fr hf13 id id)
        have HPB := hide hpl2
        have HF13 := hide ((HF11.out.trans H12.out.2.2.2 (fun _ h => h.elim)).trans hf13 (fun _ h => h.elim))
        have HNE := hide (show p2 ≠ g ∧ g2 ≠ g ∧ p ≠ g2 ∧ g ≠ g2 from ne_two H12.out.2.2.1.head.lt H12.out.2.2.1.row.lt hp2 hg2)
        have HGZ := hide (show ¬ g < W4.heap.size ∧ ¬ g2 < W4.heap.size from ⟨Nat.not_lt.2 (Nat.le_trans HF11.out.size H12.out.2.1), Nat.not_lt.2 (Nat.le_trans HF11.out.size (Nat.le_trans H12.out.2.2.2.size hg2))⟩)
        have HS2 := hide (fun W (hS : Fr (fun j => ¬ j < W4.heap.size) W4 W) => HSC.out W ((HF4.out.mono (S' := fun j => ¬ j < W2.heap.size) (fun _ h => h.elim)).trans hS (fun j hj => .inl (fun hz => hj (Nat.lt_of_lt_of_le hz HF4.out.size)))))
        have HH2 := hide (fun W (hS : Fr (fun j => ¬ j < W4.heap.size) W4 W) => HHA.out W ((HF4.out.mono (S' := fun j => ¬ j < W2.heap.size) (fun _ h => h.elim)).trans hS (fun j hj => .inl (fun hz => hj (Nat.lt_of_lt_of_le hz HF4.out.size)))))
        clear hp2 hg2 hpl2 hf13 HV2 a0 a1 a2 a3 a4 a5 b0 b1 b2 b3 b4 b5 b6 e0 e1 e2 e3 e4 e5 e6 e7 e8 d0 d1 d2 d3 d4 d5 d6 t0 t1
        go_wp2
        go_loopw [21] (fun i wr => ∃ (k : Nat) (ta tb : SSt) (s : CSt) (xs ys : List Nat), i = .int .i64 (k : Int) ∧ k ≤ 60 ∧ STwo (fun j => j < W4.heap.size ∨ ((j = p ∨ j = g) ∨ (j = p2 ∨ j = g2))) wr sa sb cb fb [97] [98] N ma mb ((N + 7) / 8) 90 cm (512 * k) Q.length ta tb s ∧ s.left = -1 ∧ xs.length = N ∧ ys.length = N ∧ VRep s.F [97] ta xs ∧ VRep s.F [98] tb ys ∧ PlainAt wr p g xs ∧ PlainAt wr p2 g2 ys ∧ (∀ m, m ≠ [97] → m ≠ [98] → fpg m s.F = fpg m (oFile Q)) ∧ Fr (fun j => ¬ j < W4.heap.size) W4 wr) (fun i _ => 60 - (intOf i).toNat)
        case atStart => exact ⟨0, _, _, _, List.replicate N 0, List.replicate N 0, rfl, Nat.zero_le _, HT13.out, rfl, by simp, by simp, vrep_new _ _ _, vrep_new _ _ _, HPA.out, HPB.out, fun _ _ _ => rfl, HF13.out⟩
        case round =>
          obtain ⟨k, ta, tb, s, xs, ys, rfl, hk, htw, hlf, hxs, hys, hvx, hvy, hpa, hpb, hot, hfr⟩ := hrel
          have H0 := hide (And.intro htw (And.intro hlf (And.intro hxs (And.intro hys (And.intro hvx (And.intro hvy (And.intro hpa (And.intro hpb (And.intro hot hfr)))))))))
          clear htw hlf hxs hys hvx hvy hpa hpb hot hfr HT13 HPA HPB
          obtain ⟨_, _, _, u0, u1⟩ := HS2.out wr H0.out.2.2.2.2.2.2.2.2.2
          by_cases hlt : k < 60
          · have g0 : (0 : Int) ≤ (k : Int) := Int.natCast_nonneg _
            have g1 : (k : Int) < 60 := Int.ofNat_lt.2 hlt
            obtain ⟨gw2, gw3⟩ := step_small k 60 hlt (Nat.le_refl _)
            by_cases hl0 : k < n0
            · have v0 : (k : Int) < (n0 : Int) := Int.ofNat_lt.2 hl0
              have hin := hl0
              obtain ⟨a1, b1, o1, hka, hal, rfl, hb, s0, s1, s2, s3, s4, s5, s6, s7⟩ := (HH2.out wr H0.out.2.2.2.2.2.2.2.2.2).1.at hin
              have hwf := (HH2.out wr H0.out.2.2.2.2.2.2.2.2.2).1.wf a1 hal
              have HWF := hide hwf
              have HDN := hide (H0.out.1.done (by decide) HSPA.out (step_two k hlt) H0.out.2.2.1 H0.out.2.2.2.2.1 H0.out.2.1 a1 hwf)
              have HCL := hide (fun W (hS : Fr (fun j => ¬ j < W4.heap.size) W4 W) => (HH2.out W hS).1.cells k a1 hka)
              clear hwf hka hal
              go_wp2_with fail
              go_at_call 47
              refine HDN.out.mono ?_
              rintro e W1a ⟨rfl, tt1, ss1, htw1, hv1, hst1, hff⟩
              have hffa := hff.mono (S' := fun j => ¬ j < W4.heap.size) (fun j h hj => h (.inl hj))
              have hfra := Fr.trans (S := fun j => ¬ j < W4.heap.size) H0.out.2.2.2.2.2.2.2.2.2 hffa (fun _ h => .inl h)
              have HPN := hide (splain_ok (H0.out.2.2.2.2.2.2.1.fr hff (fun h => h (.inr (.inl (.inl rfl)))) (fun h => h (.inr (.inl (.inr rfl))))) a1 HWF.out)
              obtain ⟨b', o', e', _, hcc⟩ := HCL.out W1a hfra
              injection e' with e'
              injection e' with e1 e2
              subst e1 e2
              have r0 : W1a.cell? ⟨b1, o1 + k * 8, none⟩ = some (.int .u8 (a1.kind : Int)) := hcc 0 _ rfl
              have r1 : W1a.cell? ⟨b1, o1 + k * 8 + 1, none⟩ = some (.int .i64 a1.i) := hcc 1 _ rfl
              have r2 : W1a.cell? ⟨b1, o1 + k * 8 + 2, none⟩ = some (.int .u64 (a1.v : Int)) := hcc 2 _ rfl
              have r3 : W1a.cell? ⟨b1, o1 + k * 8 + 3, none⟩ = some (.int .u8 (a1.c.kind : Int)) := hcc 3 _ rfl
              have r4 : W1a.cell? ⟨b1, o1 + k * 8 + 4, none⟩ = some (.string ⟨a1.c.name.toArray⟩) := hcc 4 _ rfl
              have r5 : W1a.cell? ⟨b1, o1 + k * 8 + 5, none⟩ = some (.int .i64 a1.c.i) := hcc 5 _ rfl
              have r6 : W1a.cell? ⟨b1, o1 + k * 8 + 6, none⟩ = some (.string ⟨a1.c.data.toArray⟩) := hcc 6 _ rfl
              have r7 : W1a.cell? ⟨b1, o1 + k * 8 + 7, none⟩ = some (.int .u8 (a1.c.x.toNat : Int)) := hcc 7 _ rfl
              have HAA := hide (And.intro htw1 (And.intro hv1 (And.intro hst1 (And.intro hff hfra))))
              clear htw1 hv1 hst1 hff hffa hfra hcc s0 s1 s2 s3 s4 s5 s6 s7 u0 u1
              obtain ⟨_, _, _, u0, u1⟩ := HS2.out W1a HAA.out.2.2.2.2
              go_wp2_with fail
              go_at_call 52
              refine HPN.out.mono ?_
              rintro e W1b ⟨x, y, rfl, rfl, rfl, hpp, hfp⟩
              obtain ⟨htw1, hv1, hst1, hff, hfra⟩ := HAA.out
              have hzz : ∀ j, (fun k => k = g) j → (j < W4.heap.size ∨ ((j = p ∨ j = g) ∨ (j = p2 ∨ j = g2))) := fun j hj => .inr (.inl (.inr hj))
              have H1 := hide (And.intro (htw1.keep hfp hzz) (And.intro (hst1.lft H0.out.2.1) (And.intro ((pstep_len a1 xs).trans H0.out.2.2.1) (And.intro (H0.out.2.2.2.1) (And.intro (hv1) (And.intro (H0.out.2.2.2.2.2.1.congr (hst1.oth [98] (by decide))) (And.intro (hpp) (And.intro ((H0.out.2.2.2.2.2.2.2.1.fr hff (fun h => h (.inr (.inr (.inl rfl)))) (fun h => h (.inr (.inr (.inr rfl))))).fr hfp HNE.out.1 HNE.out.2.1) (And.intro (fun m h1 h2 => (hst1.oth m h1).trans (H0.out.2.2.2.2.2.2.2.2.1 m h1 h2)) ((hfra.trans hfp (fun j hj => .inl (by rw [hj]; exact HGZ.out.1)))))))))))))
              obtain ⟨px, hpx⟩ : ∃ px, (pstep a1 xs).1 = px := ⟨_, rfl⟩
              obtain ⟨pe, hpe⟩ : ∃ pe, (pstep a1 xs).2.1 = pe := ⟨_, rfl⟩
              rw [hpx, hpe]
              clear hpx hpe htw1 hv1 hst1 hff hfra hzz hpp hfp r0 r1 r2 r3 r4 r5 r6 r7 u0 u1
              obtain ⟨_, _, _, u0, u1⟩ := HS2.out W1b H1.out.2.2.2.2.2.2.2.2.2
              clear hin
              by_cases hl1 : k < n1
              · have v1 : (k : Int) < (n1 : Int) := Int.ofNat_lt.2 hl1
                have hin := hl1
                obtain ⟨a2, b2, o2, hka, hal, rfl, hb, s0, s1, s2, s3, s4, s5, s6, s7⟩ := (HH2.out W1b H1.out.2.2.2.2.2.2.2.2.2).2.at hin
                have hwf := (HH2.out W1b H1.out.2.2.2.2.2.2.2.2.2).2.wf a2 hal
                have HWF := hide hwf
                have HDN := hide (H1.out.1.swap.done (by decide) HSPB.out (step_two2 k hlt) H1.out.2.2.2.1 H1.out.2.2.2.2.2.1 H1.out.2.1 a2 hwf)
                have HCL := hide (fun W (hS : Fr (fun j => ¬ j < W4.heap.size) W4 W) => (HH2.out W hS).2.cells k a2 hka)
                clear hwf hka hal
                go_wp2_with fail
                go_at_call 47
                refine HDN.out.mono ?_
                rintro e W2a ⟨rfl, tt2, ss2, htw2, hv2, hst2, hff⟩
                have hffa := hff.mono (S' := fun j => ¬ j < W4.heap.size) (fun j h hj => h (.inl hj))
                have hfra := Fr.trans (S := fun j => ¬ j < W4.heap.size) H1.out.2.2.2.2.2.2.2.2.2 hffa (fun _ h => .inl h)
                have HPN := hide (splain_ok (H1.out.2.2.2.2.2.2.2.1.fr hff (fun h => h (.inr (.inr (.inl rfl)))) (fun h => h (.inr (.inr (.inr rfl))))) a2 HWF.out)
                obtain ⟨b', o', e', _, hcc⟩ := HCL.out W2a hfra
                injection e' with e'
                injection e' with e1 e2
                subst e1 e2
                have r0 : W2a.cell? ⟨b2, o2 + k * 8, none⟩ = some (.int .u8 (a2.kind : Int)) := hcc 0 _ rfl
                have r1 : W2a.cell? ⟨b2, o2 + k * 8 + 1, none⟩ = some (.int .i64 a2.i) := hcc 1 _ rfl
                have r2 : W2a.cell? ⟨b2, o2 + k * 8 + 2, none⟩ = some (.int .u64 (a2.v : Int)) := hcc 2 _ rfl
                have r3 : W2a.cell? ⟨b2, o2 + k * 8 + 3, none⟩ = some (.int .u8 (a2.c.kind : Int)) := hcc 3 _ rfl
                have r4 : W2a.cell? ⟨b2, o2 + k * 8 + 4, none⟩ = some (.string ⟨a2.c.name.toArray⟩) := hcc 4 _ rfl
                have r5 : W2a.cell? ⟨b2, o2 + k * 8 + 5, none⟩ = some (.int .i64 a2.c.i) := hcc 5 _ rfl
                have r6 : W2a.cell? ⟨b2, o2 + k * 8 + 6, none⟩ = some (.string ⟨a2.c.data.toArray⟩) := hcc 6 _ rfl
                have r7 : W2a.cell? ⟨b2, o2 + k * 8 + 7, none⟩ = some (.int .u8 (a2.c.x.toNat : Int)) := hcc 7 _ rfl
                have HAA := hide (And.intro htw2 (And.intro hv2 (And.intro hst2 (And.intro hff hfra))))
                clear htw2 hv2 hst2 hff hffa hfra hcc s0 s1 s2 s3 s4 s5 s6 s7 u0 u1
                obtain ⟨_, _, _, u0, u1⟩ := HS2.out W2a HAA.out.2.2.2.2
                go_wp2_with fail
                go_at_call 52
                refine HPN.out.mono ?_
                rintro e W2b ⟨x, y, rfl, rfl, rfl, hpp, hfp⟩
                obtain ⟨htw2, hv2, hst2, hff, hfra⟩ := HAA.out
                have hzz : ∀ j, (fun k => k = g2) j → (j < W4.heap.size ∨ ((j = p ∨ j = g) ∨ (j = p2 ∨ j = g2))) := fun j hj => .inr (.inr (.inr hj))
                have H2 := hide (And.intro (htw2.swap.keep hfp hzz) (And.intro (hst2.lft H1.out.2.1) (And.intro (H1.out.2.2.1) (And.intro ((pstep_len a2 ys).trans H1.out.2.2.2.1) (And.intro (H1.out.2.2.2.2.1.congr (hst2.oth [97] (by decide))) (And.intro (hv2) (And.intro ((H1.out.2.2.2.2.2.2.1.fr hff (fun h => h (.inr (.inl (.inl rfl)))) (fun h => h (.inr (.inl (.inr rfl))))).fr hfp HNE.out.2.2.1 HNE.out.2.2.2) (And.intro (hpp) (And.intro (fun m h1 h2 => (hst2.oth m h2).trans (H1.out.2.2.2.2.2.2.2.2.1 m h1 h2)) ((hfra.trans hfp (fun j hj => .inl (by rw [hj]; exact HGZ.out.2)))))))))))))
                obtain ⟨px, hpx⟩ : ∃ px, (pstep a2 ys).1 = px := ⟨_, rfl⟩
                obtain ⟨pe, hpe⟩ : ∃ pe, (pstep a2 ys).2.1 = pe := ⟨_, rfl⟩
                rw [hpx, hpe]
                clear hpx hpe htw2 hv2 hst2 hff hfra hzz hpp hfp r0 r1 r2 r3 r4 r5 r6 r7 u0 u1
                obtain ⟨_, _, _, u0, u1⟩ := HS2.out W2b H2.out.2.2.2.2.2.2.2.2.2
                go_wp2
                go_roundw
                case rel => exact ⟨k + 1, _, _, _, _, _, by go_num, hlt, (H2.out.1).mono (two_le2 k), H2.out.2.1, H2.out.2.2.1, H2.out.2.2.2.1, H2.out.2.2.2.2.1, H2.out.2.2.2.2.2.1, H2.out.2.2.2.2.2.2.1, H2.out.2.2.2.2.2.2.2.1, H2.out.2.2.2.2.2.2.2.2.1, H2.out.2.2.2.2.2.2.2.2.2⟩
                case measure => clear gw2 gw3; simp [intOf]; omega
              · have v1 : ¬ (k : Int) < (n1 : Int) := fun h => hl1 (Int.ofNat_lt.1 h)
                go_wp2
                go_roundw
                case rel => exact ⟨k + 1, _, _, _, _, _, by go_num, hlt, (H1.out.1).mono (two_le1 k), H1.out.2.1, H1.out.2.2.1, H1.out.2.2.2.1, H1.out.2.2.2.2.1, H1.out.2.2.2.2.2.1, H1.out.2.2.2.2.2.2.1, H1.out.2.2.2.2.2.2.2.1, H1.out.2.2.2.2.2.2.2.2.1, H1.out.2.2.2.2.2.2.2.2.2⟩
                case measure => clear gw2 gw3; simp [intOf]; omega
            · have v0 : ¬ (k : Int) < (n0 : Int) := fun h => hl0 (Int.ofNat_lt.1 h)
              have H3 := hide (And.intro (H0.out.1.mono (Nat.le_add_right _ 256)) H0.out.2)
              by_cases hl1 : k < n1
              · have v1 : (k : Int) < (n1 : Int) := Int.ofNat_lt.2 hl1
                have hin := hl1
                obtain ⟨a4, b4, o4, hka, hal, rfl, hb, s0, s1, s2, s3, s4, s5, s6, s7⟩ := (HH2.out wr H3.out.2.2.2.2.2.2.2.2.2).2.at hin
                have hwf := (HH2.out wr H3.out.2.2.2.2.2.2.2.2.2).2.wf a4 hal
                have HWF := hide hwf
                have HDN := hide (H3.out.1.swap.done (by decide) HSPB.out (step_two2 k hlt) H3.out.2.2.2.1 H3.out.2.2.2.2.2.1 H3.out.2.1 a4 hwf)
                have HCL := hide (fun W (hS : Fr (fun j => ¬ j < W4.heap.size) W4 W) => (HH2.out W hS).2.cells k a4 hka)
                clear hwf hka hal
                go_wp2_with fail
                go_at_call 47
                refine HDN.out.mono ?_
                rintro e W4a ⟨rfl, tt4, ss4, htw4, hv4, hst4, hff⟩
                have hffa := hff.mono (S' := fun j => ¬ j < W4.heap.size) (fun j h hj => h (.inl hj))
                have hfra := Fr.trans (S := fun j => ¬ j < W4.heap.size) H3.out.2.2.2.2.2.2.2.2.2 hffa (fun _ h => .inl h)
                have HPN := hide (splain_ok (H3.out.2.2.2.2.2.2.2.1.fr hff (fun h => h (.inr (.inr (.inl rfl)))) (fun h => h (.inr (.inr (.inr rfl))))) a4 HWF.out)
                obtain ⟨b', o', e', _, hcc⟩ := HCL.out W4a hfra
                injection e' with e'
                injection e' with e1 e2
                subst e1 e2
                have r0 : W4a.cell? ⟨b4, o4 + k * 8, none⟩ = some (.int .u8 (a4.kind : Int)) := hcc 0 _ rfl
                have r1 : W4a.cell? ⟨b4, o4 + k * 8 + 1, none⟩ = some (.int .i64 a4.i) := hcc 1 _ rfl
                have r2 : W4a.cell? ⟨b4, o4 + k * 8 + 2, none⟩ = some (.int .u64 (a4.v : Int)) := hcc 2 _ rfl
                have r3 : W4a.cell? ⟨b4, o4 + k * 8 + 3, none⟩ = some (.int .u8 (a4.c.kind : Int)) := hcc 3 _ rfl
                have r4 : W4a.cell? ⟨b4, o4 + k * 8 + 4, none⟩ = some (.string ⟨a4.c.name.toArray⟩) := hcc 4 _ rfl
                have r5 : W4a.cell? ⟨b4, o4 + k * 8 + 5, none⟩ = some (.int .i64 a4.c.i) := hcc 5 _ rfl
                have r6 : W4a.cell? ⟨b4, o4 + k * 8 + 6, none⟩ = some (.string ⟨a4.c.data.toArray⟩) := hcc 6 _ rfl
                have r7 : W4a.cell? ⟨b4, o4 + k * 8 + 7, none⟩ = some (.int .u8 (a4.c.x.toNat : Int)) := hcc 7 _ rfl
                have HAA := hide (And.intro htw4 (And.intro hv4 (And.intro hst4 (And.intro hff hfra))))
                clear htw4 hv4 hst4 hff hffa hfra hcc s0 s1 s2 s3 s4 s5 s6 s7 u0 u1
                obtain ⟨_, _, _, u0, u1⟩ := HS2.out W4a HAA.out.2.2.2.2
                go_wp2_with fail
                go_at_call 52
                refine HPN.out.mono ?_
                rintro e W4b ⟨x, y, rfl, rfl, rfl, hpp, hfp⟩
                obtain ⟨htw4, hv4, hst4, hff, hfra⟩ := HAA.out
                have hzz : ∀ j, (fun k => k = g2) j → (j < W4.heap.size ∨ ((j = p ∨ j = g) ∨ (j = p2 ∨ j = g2))) := fun j hj => .inr (.inr (.inr hj))
                have H4 := hide (And.intro (htw4.swap.keep hfp hzz) (And.intro (hst4.lft H3.out.2.1) (And.intro (H3.out.2.2.1) (And.intro ((pstep_len a4 ys).trans H3.out.2.2.2.1) (And.intro (H3.out.2.2.2.2.1.congr (hst4.oth [97] (by decide))) (And.intro (hv4) (And.intro ((H3.out.2.2.2.2.2.2.1.fr hff (fun h => h (.inr (.inl (.inl rfl)))) (fun h => h (.inr (.inl (.inr rfl))))).fr hfp HNE.out.2.2.1 HNE.out.2.2.2) (And.intro (hpp) (And.intro (fun m h1 h2 => (hst4.oth m h2).trans (H3.out.2.2.2.2.2.2.2.2.1 m h1 h2)) ((hfra.trans hfp (fun j hj => .inl (by rw [hj]; exact HGZ.out.2)))))))))))))
                obtain ⟨px, hpx⟩ : ∃ px, (pstep a4 ys).1 = px := ⟨_, rfl⟩
                obtain ⟨pe, hpe⟩ : ∃ pe, (pstep a4 ys).2.1 = pe := ⟨_, rfl⟩
                rw [hpx, hpe]
                clear hpx hpe htw4 hv4 hst4 hff hfra hzz hpp hfp r0 r1 r2 r3 r4 r5 r6 r7 u0 u1
                obtain ⟨_, _, _, u0, u1⟩ := HS2.out W4b H4.out.2.2.2.2.2.2.2.2.2
                go_wp2
                go_roundw
                case rel => exact ⟨k + 1, _, _, _, _, _, by go_num, hlt, (H4.out.1).mono (two_le2 k), H4.out.2.1, H4.out.2.2.1, H4.out.2.2.2.1, H4.out.2.2.2.2.1, H4.out.2.2.2.2.2.1, H4.out.2.2.2.2.2.2.1, H4.out.2.2.2.2.2.2.2.1, H4.out.2.2.2.2.2.2.2.2.1, H4.out.2.2.2.2.2.2.2.2.2⟩
                case measure => clear gw2 gw3; simp [intOf]; omega
              · have v1 : ¬ (k : Int) < (n1 : Int) := fun h => hl1 (Int.ofNat_lt.1 h)
                go_wp2
                go_roundw
                case rel => exact ⟨k + 1, _, _, _, _, _, by go_num, hlt, (H3.out.1).mono (two_le1 k), H3.out.2.1, H3.out.2.2.1, H3.out.2.2.2.1, H3.out.2.2.2.2.1, H3.out.2.2.2.2.2.1, H3.out.2.2.2.2.2.2.1, H3.out.2.2.2.2.2.2.2.1, H3.out.2.2.2.2.2.2.2.2.1, H3.out.2.2.2.2.2.2.2.2.2⟩
                case measure => clear gw2 gw3; simp [intOf]; omega
          · obtain rfl : k = 60 := by omega
            clear u0 u1
            have HCA := hide ((H0.out.1).close (by decide))
            have hsl : (sclosed [97] s).left = -1 := H0.out.2.1
            have hok1 := (H0.out.1).law
            have HRC := hide (show CRest 90 cm s from by obtain ⟨Y, hl⟩ := hok1; exact hl.ok.rest)
            have HLF := hide hsl
            clear hok1 hsl
            go_wp2_with fail
            go_at_call 48
            refine HCA.out.mono ?_
            rintro e V1 ⟨rfl, hl1, he1, ht1, hf1⟩
            have HRC1 := hide (rest_closed (n := [97]) HRC.out)
            have hv1 : VRep (sclosed [97] s).F [98] tb ys := H0.out.2.2.2.2.2.1.congr (HRC1.out.2.2.1 [98] (by decide))
            have hN1 : N1 < N := Nat.lt_of_lt_of_le (Nat.lt_succ_self N1) (Nat.le_of_eq HNU.out.nn)
            have hj1 : N1 < ys.length := Nat.lt_of_lt_of_le hN1 (Nat.le_of_eq H0.out.2.2.2.1.symm)
            have HGT := hide (hl1.get HSPB.out (by decide) N1 hN1)
            have hval : (sval (sclosed [97] s).F [98] tb (N1 / 8)).getD (N1 % 8) 0 = ys.getD N1 0 := hv1 N1 hj1
            rw [hval] at HGT
            have HVG := hide (fun W (hW : PlainAt W p2 g2 ys) => get_in hW N1 hj1)
            obtain ⟨px, hpx⟩ : ∃ px, ys.getD N1 0 = px := ⟨_, rfl⟩
            rw [hpx] at HGT HVG
            have HPB1 := hide (H0.out.2.2.2.2.2.2.2.1.fr hf1 (fun h => h (.inr (.inr (.inl rfl)))) (fun h => h (.inr (.inr (.inr rfl)))))
            have hfz1 := hf1.mono (S' := fun j => ¬ j < W4.heap.size) (fun j h hj => h (.inl hj))
            have HFR1 := hide (Fr.trans (S := fun j => ¬ j < W4.heap.size) H0.out.2.2.2.2.2.2.2.2.2 hfz1 (fun _ h => .inl h))
            have HE1 := hide (And.intro he1 (And.intro ht1 (And.intro hl1.ok.inv.pgs H0.out.2.2.2.2.2.2.2.2.1)))
            have a6 := HNU.out.a6
            have a7 := HNU.out.a7
            have a8 := HNU.out.a8
            clear hl1 he1 ht1 hf1 hv1 hN1 hj1 hval hpx hfz1
            go_wp2_with fail
            go_at_call 50
            refine HGT.out.mono ?_
            rintro e V2 (⟨rfl, t2, s2, _, hl2, hk2, hsv2, hf2⟩ | ⟨_, h0, _⟩)
            rotate_left
            · exact absurd (HLF.out.symm.trans h0) (by decide)
            have hpb2 := HPB1.out.fr hf2 (fun h => h (.inl (.inr (.inr (.inl rfl))))) (fun h => h (.inl (.inr (.inr (.inr rfl)))))
            obtain ⟨ea, ep, heb⟩ := HE1.out.1
            have HEA2 := hide (show SEnd V2 sa cb [97] N ma 1 from ⟨ea, ep, heb.fr hf2 (fun h => h (.inr rfl))⟩)
            have HVG2 := hide (HVG.out V2 hpb2)
            have HCB := hide hl2.close
            have HRC2 := hide (rest_closed (n := [98]) hl2.ok.rest)
            have HPG2 := hide (And.intro hl2.ok.inv.pgs hk2.stay)
            have HFR2 := hide (HFR1.out.trans (hf2.mono (S' := fun j => ¬ j < W4.heap.size) (fun j h hj => h (.inl (.inl hj)))) (fun _ h => .inl h))
            clear hl2 hk2 hsv2 hf2 hpb2 heb
            go_wp2_with fail
            go_at_call 54
            refine HVG2.out.mono ?_
            rintro e w9 ⟨rfl, rfl⟩
            clear a6 a7 a8
            go_wp2_with fail
            go_at_call 48
            refine HCB.out.mono ?_
            rintro e V3 ⟨rfl, hd3, hf3⟩
            obtain ⟨ea, ep, heb⟩ := HEA2.out
            have hea3 : SEnd V3 sa cb [97] N ma 1 := ⟨ea, ep, heb.fr hf3 (fun h => h (.inr rfl))⟩
            have HCC := hide (sclose_done hea3)
            have HD3 := hide hd3
            have HFR3 := hide (HFR2.out.trans (hf3.mono (S' := fun j => ¬ j < W4.heap.size) (fun j h hj => h (.inl (.inl hj)))) (fun _ h => .inl h))
            clear hd3 hf3 hea3 heb
            go_wp2_with fail
            go_at_call 48
            refine HCC.out.mono ?_
            rintro e V4 ⟨rfl, hf4⟩
            have hd4 := HD3.out.up hf4
            obtain ⟨X4, hc4, _, _⟩ := hd4.mem
            have hrest4 := hd4.rest
            have htot4 : total (sclosed [98] s2).F = Q.length := by
              have q1 := HRC2.out.2.2.2
              have q2 := HPG2.out.1
              have q3 := HPG2.out.2.tot
              have q4 := HE1.out.2.1
              omega
            have hot4 : ∀ m, m ≠ [111, 116, 104, 101, 114] → fpg m (sclosed [98] s2).F = [] := fun m hm => by
              by_cases eb : m = [98]
              · rw [eb]; exact HRC2.out.2.1
              · rw [HRC2.out.2.2.1 m eb, HPG2.out.2.oth m eb]
                by_cases ea : m = [97]
                · rw [ea]; exact HRC1.out.2.1
                · rw [HRC1.out.2.2.1 m ea, HE1.out.2.2.2 m ea eb]
                  simp [oFile, fpg, hm]
            have hoq : fpg [111, 116, 104, 101, 114] (sclosed [98] s2).F = Q := by
              rw [HRC2.out.2.2.1 _ (by decide), HPG2.out.2.oth _ (by decide), HRC1.out.2.2.1 _ (by decide), HE1.out.2.2.2 _ (by decide) (by decide)]
              simp [oFile, fpg]
            have hkeys := only_other hrest4.inv.fs hrest4.inv.fnd hot4 hoq HQQ.out.1
            have HUS4 := hide (cat_used hc4 hrest4.inv)
            rw [htot4] at HUS4
            have HC4 := hide (And.intro hc4 (And.intro hrest4 hkeys))
            have HFR4 := hide (HFR3.out.trans hf4 (fun _ h => h.elim))
            clear hf4 hd4 hc4 hrest4 htot4 hot4 hoq hkeys
            go_wp2_with fail
            go_at_call 33
            refine HUS4.out.mono ?_
            rintro e V5 ⟨rfl, hf5⟩
            have hc5 := HC4.out.1.up hf5
            have HNM := hide (show Calls Tryz.prog 58 #[.pointer (some ⟨fb, 0, none⟩)] V5 _ from by
              obtain ⟨XF, hat, _, _⟩ := hc5.fs
              exact fnames_ok hat (FInv.bnd HC4.out.2.1.inv.fs))
            have HC5 := hide hc5
            have HFR5 := hide (HFR4.out.trans hf5 (fun _ h => h.elim))
            clear hf5 hc5
            go_wp2_with fail
            go_at_call 58
            refine HNM.out.mono ?_
            rintro e V6 ⟨An, cn, ns, rfl, hperm, hrn, hf6⟩
            have hns : ns = [[111, 116, 104, 101, 114]] := by
              rw [HC4.out.2.2] at hperm
              exact List.perm_singleton.1 hperm
            have hl1 : (sclosed [98] s2).F.length = 1 := by
              have := congrArg List.length HC4.out.2.2
              simpa using this
            rw [hns, hl1] at hrn
            rw [hl1]
            have hf7 : Fr (fun _ => False) V6 (V6.alloc (.cells #[.string ⟨#[111, 116, 104, 101, 114]⟩] 9)) := (Fr.refl _ _).alloc _
            have hbk : Blk (V6.alloc (.cells #[.string ⟨#[111, 116, 104, 101, 114]⟩] 9)) V6.heap.size 9 (([[111, 116, 104, 101, 114]] : List Name).map strv).toArray := Blk.new V6 9 _
            have HTX := hide (texts_any An (some ⟨V6.heap.size, 0, none⟩) 1 cn 1 1 _ [[111, 116, 104, 101, 114]] [[111, 116, 104, 101, 114]] _ (hrn.up hf7) (Reads.blk hbk rfl) (by decide))
            have HC7 := hide ((HC5.out.up hf6).up hf7)
            have HFR7 := hide ((HFR5.out.trans hf6 (fun _ h => h.elim)).trans hf7 (fun _ h => h.elim))
            clear hperm hrn hf6 hns hl1 hf7 hbk
            go_wp2_with fail
            go_at_call 57
            refine HTX.out.mono ?_
            rintro e V8 ⟨rfl, hf8⟩
            have hc8 := HC7.out.up hf8
            have HPI := hide (cpinned_ok hc8 (Nat.le_trans HC4.out.2.1.inv.len (Nat.le_trans HNU.out.o3.2 (by decide))))
            rw [pins_zero HC4.out.2.1, show (((0 : Nat)) : Int) = 0 from rfl] at HPI
            have HFR8 := hide (HFR7.out.trans hf8 (fun _ h => h.elim))
            rw [show ((([[111, 116, 104, 101, 114]] : List Name) == [[111, 116, 104, 101, 114]]) : Bool) = true from by decide]
            clear hf8 hc8
            go_wp2_with fail
            go_at_call 29
            refine HPI.out.mono ?_
            rintro e V9 ⟨rfl, hf9⟩
            have HDO := hide (does15_true V9)
            have HFR9 := hide (HFR8.out.trans hf9 (fun _ h => h.elim))
            clear hf9
            go_wp2_with fail
            go_at_call 45
            refine HDO.out.mono ?_
            rintro e V10 ⟨rfl, hf10⟩
            have HFR10 := hide (HFR9.out.trans hf10 (fun _ h => h.elim))
            clear hf10
            go_wp2
            go_ret
            exact ⟨rfl, (HF2.out.then_ HF4.out).then_ HFR10.out.down⟩
end Go.Proofs.YtkhbemmcegmdaaaGreatDoor
end
section
set_option linter.all false
set_option linter.unusedVariables false
set_option maxRecDepth 100000
namespace Go.Proofs.YtkhbemmcegmdaaaGreatDoor.spillTwoCard
open Go.RowKit
open Go.ChangeShapes Go.WideShapes Go.ChangeAt
open Go.ChangeMaps (open_string shut_string)

theorem walk (nm : List UInt8) (yn ym z0 z1 : Int) (A B : Option Addr) (n c m d : Nat) (l o : List SAct) (s : ByteArray) (w : World) (h0 : 0 ≤ z0 ∧ z0 < 256) (h1 : 0 ≤ z1 ∧ z1 < 256) (hn : n ≤ c) (hc : c ≤ maxLen) (hm : m ≤ d) (hd : d ≤ maxLen) (ha : SActsR w w.heap.size A n l) (hb : SActsR w w.heap.size B m o) (hs : s.size ≤ maxLen) :
    Calls Tryz.prog 14 #[.agg #[.string ⟨nm.toArray⟩, .int .i64 yn, .int .i64 ym, .int .u8 z0, .int .u8 z1], .agg #[.slice A n c, .slice B m d], .string s] w fun e w' => e = .returned (.bool true) ∧ Below w.heap.size w w' := by
  obtain ⟨u0, rfl⟩ : ∃ q : Nat, z0 = (q : Int) := ⟨z0.toNat, by omega⟩
  obtain ⟨u1, rfl⟩ : ∃ q : Nat, z1 = (q : Int) := ⟨z1.toNat, by omega⟩
  exact (law_two nm yn ym u0 u1 (by omega) (by omega) A B n c m d l o s w ha hb (by unfold maxLen at hc; omega) (by unfold maxLen at hd; omega) (by unfold maxLen at hs; omega)).mono fun e w' h => ⟨h.1, h.2.below (Nat.le_refl _) (fun _ h => h.elim)⟩

set_option maxRecDepth 100000 in
theorem lifted (os : Os) (started : os.Started) (H : Type) (enc : TypeId × Value → H) :
    ReturnsInHanded {} Tryz.checked os 14 .any (fun w args => (Rows.spillTwoSpec.pre enc Tryz.prog Tryz.f14 [] false w args ∧ laidMetH Tryz.prog Rows.spillTwoRow.laid w) ∧ sizedMet enc Tryz.prog Tryz.f14 (OpenSpec.ofChange Rows.spillTwoSpec) false w args)
      (Rows.spillTwoSpec.post enc Tryz.prog Tryz.f14 false true false false) := by
  refine returnsInHanded_of_change_and (C := Tryz.checked) (X := (fun w _ => laidMetH Tryz.prog Rows.spillTwoRow.laid w)) (fun _ _ _ hh h => h.of_heap hh) frame.own started (by kernel_rfl) Tryz.func14
    (ChangeSpec.witness_shaped (enc := enc) (C := Tryz.checked) (os := os) (X := (fun w _ => laidMetH Tryz.prog Rows.spillTwoRow.laid w)) false (World.laidAll Tryz.prog os Rows.spillTwoRow.laid) #[.agg #[.string .empty, .int .i64 0, .int .i64 0, .int .u8 0, .int .u8 0], .agg #[.slice none 0 0, .slice none 0 0], .string .empty] 8 (World.laidAll_os _ _ _)
      (World.shaped_of_ZipB (by kernel_rfl) (by kernel_rfl)) (by kernel_rfl) (by kernel_rfl) (by kernel_rfl)
      (by rw [MakeChecks.laidMetH_plain _ _ _ (by kernel_rfl)]; exact laidMet_laidAll _ (by kernel_rfl) (by kernel_rfl))) ?_
  intro W base args ds gs before hval0 hW _ _ _ _
  have hval : ∀ (j : Nat) t v, Tryz.f14.params[j]? = some t → args[j]? = some v → Value.okWide Tryz.prog W .any base t v := hval0
  have hW' := hW
  obtain ⟨p, q, hA0, hV, rfl, hfz, hnd⟩ := hW
  have hA : DataW.TrodAll enc Tryz.prog W 0 (fun _ => true) true Tryz.f14.params.toList args.toList ds p := hA0
  rw [Tryz.params14] at hA hval
  obtain ⟨v0, vs0, d0, ds0, p0, q0, hargs, rfl, rfl, h0, r0⟩ := trodAll_cons hA
  obtain ⟨v1, vs1, d1, ds1, p1, q1, rfl, rfl, rfl, h1, r1⟩ := trodAll_cons r0
  obtain ⟨v2, vs2, d2, ds2, p2, q2, rfl, rfl, rfl, h2, r2⟩ := trodAll_cons r1
  obtain ⟨rfl, rfl, rfl⟩ := trodAll_nil r2
  obtain rfl : args = #[v0, v1, v2] := by cases args; simp_all
  obtain ⟨rfl, rfl⟩ := trodVars_none hV
  have k0 := h0
  obtain ⟨n0, y0, m0, z0, x0, rfl, e0, g0, h0, i0, j0⟩ := frame.open_ask (hval 0 85 v0 rfl rfl) h0
  have k1 := h1
  obtain ⟨A1, n1, c1, B1, m1, e1, l1, o1, rfl, f1, g1, i1, j1, x1, z1⟩ := frame.open_sacts2 (hval 1 114 v1 rfl rfl) h1
  have k2 := h2
  obtain ⟨s2, rfl, rfl, rfl, w2⟩ := open_string Tryz.underlying9 (hval 2 9 v2 rfl rfl) h2
  clear hA0 hval0
  refine (walk n0 y0 m0 z0 x0 A1 B1 n1 c1 m1 e1 l1 o1 s2 W i0 j0 f1 g1 i1 j1 x1 z1 w2).mono fun e W' ⟨he, bel⟩ => ?_
  subst he
  exact ⟨_, rfl, _, _, _, [], _, [], hW', trodAll_mk1 (shut_bool Tryz.underlying4 _), (trodAll_cons_mk (frame.keep (by kernel_rfl) (of_decide_eq_true (by kernel_rfl)) k0 bel) (trodAll_cons_mk (frame.keep (by kernel_rfl) (of_decide_eq_true (by kernel_rfl)) k1 bel) (trodAll_cons_mk (frame.keep (by kernel_rfl) (of_decide_eq_true (by kernel_rfl)) k2 bel) (trodAll_mk0)))), rfl, bel.frame _, fun h => by cases h⟩

end Go.Proofs.YtkhbemmcegmdaaaGreatDoor.spillTwoCard
end
