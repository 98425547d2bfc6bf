/- RankShare, walked. -/
import Derived.Test.YtjdbjahgimlhbaaGrShare2
import Derived.Test.YtjdbjahgimlhbaaEdMade
import Derived.Test.YtjdbjahgimlhbaaEnds18
set_option linter.unusedVariables false
set_option maxRecDepth 100000
namespace Go.Proofs.Ytjdbjahgimlhbaa.share
open Go.RowKit
open Gr (E T)

set_option maxHeartbeats 2000000 in
theorem walk (A : Option Addr) (G m c many : Nat) (l : List E) (w : World) (h : Reads w w.heap.size 2 A m (gcells l)) (hm : l.length = m) (hm63 : m ≤ 9223372036854775807) (hG : G < 256) (hl : ∀ e ∈ l, e.1 < 256 ∧ e.2 < 256) (hmany : many < 256) :
    Calls Try.prog 3 #[.agg #[.int .u8 (G : Int), .slice A m c], .int .u8 (many : Int)] w fun e w' => e = .returned (.bool true) ∧ Fr (fun _ => False) w w' := by
  have H := hide h
  have HM := hide hm
  have HL := hide hl
  clear h hm hl
  have F0 := hide ((Fr.refl (fun _ => False) w).alloc (.cells #[.int .u8 (G : Int), .slice A m c] 24))
  by_cases hb : 300 < m
  · go_enter Try.func3, Try.ntmps3
    go_wp2_with fail
    go_at_call 16
    refine (k18.ends_true _).mono ?_
    rintro e w1 ⟨rfl, hf⟩
    have HF := hide (F0.out.then_ hf)
    clear hf
    go_wp2
    go_ret
    exact ⟨rfl, HF.out⟩
  · go_enter Try.func3, Try.ntmps3
    go_wp2_with fail
    go_at_call 17
    refine (made_any A m c G l _ (H.out.up F0.out) HM.out (by omega) hG HL.out).mono ?_
    rintro e w1 ⟨A1, c1, rfl, hc1, hE, hf⟩
    have HF1 := hide (F0.out.then_ hf)
    have HE := hide hE
    obtain ⟨ok1, ok2, ok3⟩ := madeE_ok G l
    have hn1 : 1 ≤ madeN G := by unfold madeN; omega
    have hn2 : madeN G ≤ 60 := by unfold madeN; omega
    rw [HM.out] at ok3
    clear hf hE
    generalize hNN : madeN G = n at *
    generalize hEE : madeE G l = El at *
    have OK1 := hide ok1
    have OK2 := hide ok2
    obtain ⟨q, hq⟩ : ∃ q, El.length = q := ⟨_, rfl⟩
    have HQ := hide hq
    rw [hq] at ok3 hc1
    rw [hq]
    clear ok1 ok2 hq
    go_wp2_with fail
    go_at_call 18
    refine (shards_any A1 n q c1 many El _ HE.out HQ.out (by omega) OK1.out hn1 hn2 hmany OK2.out).mono ?_
    rintro e w2 ⟨AS, cS, rfl, hS, hf⟩
    obtain ⟨hs1, hs2, hs3⟩ := shN_ok hn1 many
    generalize shN n many = s at *
    obtain ⟨b, o, rfl, hbK⟩ := hS.addr
    have HS := hide hS
    have HF2 := hide (HF1.out.then_ hf)
    have HE2 := hide (HE.out.up hf)
    have hs0 : ((s : Int) == 0) = false := by simp; omega
    clear hS hf
    go_wp2_with fail
    go_at_call 19
    refine (fresh_any n _ (by omega)).mono ?_
    rintro e w3 ⟨pa, ga, pb, gb, rfl, hga, hgb, hT, hf⟩
    have HT3 := hide hT
    have HF3 := hide hf
    have la := hT.a.row.lt
    have lb := hT.b.row.lt
    clear hT hf
    go_wp2_with fail
    go_at_call 20
    refine (rank.begin_ok HT3.out (may_n hn1 (by omega) (by simp) (by simp)) 3 (by simp [rank.okArg])).mono ?_
    rintro e w4 ⟨rfl, hT, hf⟩
    rw [List.length_replicate] at hT
    have HT4 := hide hT
    have h24 := HF2.out.size
    have HG4 := hide ((HF3.out.mono (S' := fun k => k = ga ∨ k = gb) (fun k h => h.elim)).trans hf (fun k h => .inl h))
    have HS4 := hide (HS.out.fr HG4.out (fun k h => by omega))
    have HF4 := hide (HF2.out.trans HG4.out (fun k h => .inr (by omega)))
    have HE4 := hide (fun (W : World) (hf : Fr (fun k => k = ga ∨ k = gb) w4 W) => (show EdgesAt W A1 El from by
      have h1 := HG4.out.trans hf (fun k h => .inl h)
      exact (HE2.out.fr h1 (Nat.le_refl _) (by intro k h; omega)).more h1.size))
    clear hT hf HT3
    have lx0 : (rank.bX n).length = n := by simp [rank.bX]
    go_wp2_with fail
    go_loopw [10] (fun i wr => ∃ (r : Nat) (xs : List Nat), r ≤ 3 ∧ i = .int .i64 r ∧ xs.length = n ∧ Gr.sumTo (fun u => xs.getD u 0) n ≤ (r + 1) * 257698037760 ∧ Hid (TwoAt wr pa ga pb gb xs (rank.bY n) ∧ Fr (fun k => k = ga ∨ k = gb) w4 wr)) (fun i _ => 3 - (intOf i).toNat)
    case atStart => exact ⟨0, _, by omega, rfl, lx0, Gr.bX_sum (by omega), HT4.out, Fr.refl _ _⟩
    case round =>
      obtain ⟨r, xs, hr3, rfl, lx, hsum, HI⟩ := hrel
      by_cases hlt : r < 3
      · generalize hwo : wr = wo at *
        have hd4 : decide ((r : Int) < 3) = true := by simp; omega
        have hd5 : decide (r < 3) = true := by simp; omega
        go_wp2_with fail
        try simp only [hd4, hd5]
        go_loopw [11, 12] (fun hv i wr => ∃ v : Nat, v ≤ n ∧ i = .int .i64 v ∧ hv = .int .u64 ((Gr.haveK xs El v : Nat) : Int) ∧ wr = wo) (fun _ i _ => n - (intOf i).toNat)
        case atStart => exact ⟨0, by omega, rfl, rfl, rfl⟩
        case round =>
          obtain ⟨v, hv, rfl, rfl, rfl⟩ := hrel
          by_cases hvn : v < n
          · have HGa := hide (get_in HI.out.1.a v (by omega))
            have hat := Gr.sumTo_at (fun u => xs.getD u 0) hvn
            have hhk := Gr.have_le xs El v
            have hmo := Gr.sumTo_mono (fun u => xs.getD u 0) (show v + 1 ≤ n by omega)
            simp only [Gr.sumTo] at hmo
            have HYES := hide (fun (e : E) (he : e ∈ El) (h : e.1 = v) => (show Gr.haveK xs El (v + 1) = Gr.haveK xs El v + xs.getD v 0 by rw [← h]; exact Gr.have_yes he))
            have HNO := hide (Gr.have_no (xs := xs) (l := El) (v := v))
            obtain ⟨hk, hhk2⟩ : ∃ hk, Gr.haveK xs El v = hk := ⟨_, rfl⟩
            rw [hhk2] at HYES HNO hhk ⊢
            generalize xs.getD v 0 = x at *
            have hbd : hk + x ≤ 1030792151040 := by omega
            have hdv : decide ((v : Int) < (n : Int)) = true := by simp; omega
            have hdv2 : decide (v < n) = true := by simp; omega
            clear hat hhk hmo
            go_wp2_with fail
            go_at_call 21
            refine HGa.out.mono ?_
            rintro e w5 ⟨rfl, rfl⟩
            go_wp2_with fail
            try simp only [hd4, hd5, hdv, hdv2]
            go_loopw [11, 15] (fun hv i wz => ∃ t : Nat, t ≤ q ∧ i = .int .i64 t ∧ hv = .int .u64 (hk : Int) ∧ (∀ j, j < t → (El.getD j (0, 0)).1 ≠ v) ∧ wz = wr) (fun _ i _ => q - (intOf i).toNat)
            case atStart => exact ⟨0, by omega, rfl, rfl, fun j h => absurd h (by omega), rfl⟩
            case round =>
              obtain ⟨t, ht, rfl, rfl, hno, rfl⟩ := hrel
              by_cases htq : t < q
              · have lt' : t < El.length := by rw [HQ.out]; exact htq
                obtain ⟨b2, o2, rfl, hb2, hr⟩ := EdgesAt.cells (k := t) (HE4.out _ HI.out.2) lt'
                have hmem := List.getElem_mem lt'
                have hgd : El.getD t (0, 0) = El[t] := by simp [List.getD, lt']
                have y0 := hr 0 _ rfl
                rw [Nat.mul_comm 2 t, Nat.add_zero] at y0
                generalize El[t]'lt' = y at *
                clear hr
                by_cases hy : y.1 = v
                · have HN := hide (HYES.out y hmem hy)
                  have hadd : IntKind.u64.wrap ((hk : Int) + (x : Int)) = ((hk + x : Nat) : Int) := by simp only [IntKind.wrap, IntKind.bits, IntKind.signed]; simp; omega
                  have hbe : ((y.1 : Int) == (v : Int)) = true := by simp; omega
                  have hbe2 : (y.1 == v) = true := by simp; omega
                  have HNO2 := hide hno
                  clear hno
                  go_wp2
                  try simp only [hd4, hd5]
                  go_roundw
                  case rel => exact ⟨v + 1, by omega, by go_num, by rw [HN.out]; first | rfl | go_num, by first | rfl | trivial⟩
                  case measure => simp [intOf]; omega
                · have hbe : ((y.1 : Int) == (v : Int)) = false := by simp; omega
                  have HNO2 := hide (show ∀ j, j < t + 1 → (El.getD j (0, 0)).1 ≠ v from fun j hj => by
                    by_cases hjt : j = t
                    · rw [hjt, hgd]; exact hy
                    · exact hno j (by omega))
                  clear hno
                  go_wp2
                  try simp only [hd4, hd5, hdv, hdv2]
                  go_roundw
                  case rel => exact ⟨t + 1, by omega, by go_num, by first | rfl | trivial, HNO2.out, by first | rfl | trivial⟩
                  case measure => simp [intOf]; omega
              · obtain rfl : t = q := by omega
                have HN := hide (HNO.out (fun e he => by
                  obtain ⟨j, hj, rfl⟩ := List.getElem_of_mem he
                  have := hno j (by rw [← HQ.out]; exact hj)
                  simpa [List.getD, hj] using this))
                clear hno
                go_wp2
                try simp only [hd4, hd5]
                go_roundw
                case rel => exact ⟨v + 1, by omega, by go_num, by rw [HN.out], by first | rfl | trivial⟩
                case measure => simp [intOf]; omega
          · obtain rfl : v = n := by omega
            have hbs : Gr.sumTo (fun u => xs.getD u 0) v ≤ 4398046511104 := by omega
            obtain ⟨sh1, sh2⟩ := Gr.share_acc xs El v OK2.out hbs
            have hH := Gr.have_le xs El v
            rw [HQ.out] at sh2
            have hhb : Gr.haveK xs El v ≤ (r + 1) * 257698037760 := by omega
            generalize Gr.haveK xs El v = hk at *
            have SH1 := hide sh1
            have SH2 := hide sh2
            have HSW := hide (HS4.out.fr HI.out.2 (fun k h => by omega))
            have lY : (rank.bY v).length = v := by simp [rank.bY]
            have hhk : hk ≤ 1030792151040 := by omega
            clear sh1 sh2 hH hbs
            generalize hwo2 : wr = wo at *
            go_wp2_with fail
            try simp only [hd4, hd5]
            go_loopw [16] (fun i wr => ∃ j : Nat, j ≤ s ∧ i = .int .i64 j ∧ Hid (TwoAt wr pa ga pb gb xs (accL (rank.step xs) El v s (rank.bY v) (List.range j)) ∧ Fr (fun k => k = gb) wo wr)) (fun i _ => s - (intOf i).toNat)
            case atStart => exact ⟨0, by omega, rfl, HI.out.1, Fr.refl _ _⟩
            case round =>
              obtain ⟨j, hj, rfl, HK⟩ := hrel
              by_cases hjs : j < s
              · have HSr := hide (HSW.out.fr HK.out.2 (fun k h => by omega))
                obtain ⟨Ai, vs', q0, q1, q2, hst⟩ := HSr.out.at hjs
                have HST := hide hst
                have HFT := hide (Gr.shard_fits El v s j (by omega) hjs (fun e he => (OK2.out e he).2.1))
                have lA : (accL (rank.step xs) El v s (rank.bY v) (List.range j)).length = v := by rw [accL_len _ (rank.step_len xs)]; exact lY
                have hcut := Gr.cut_le (n := v) (s := s) (k := j + 1) (by omega) (by omega)
                clear hst
                go_wp2_with fail
                go_at_call 22
                refine (rank.shard_ok HK.out.1 (may_n hn1 (by omega) lx lA) (fun w' hf => HST.out _ w' hf (fun k h => by omega)) (by rw [lx]; exact HFT.out) (r : Int) (by omega)).mono ?_
                rintro e w8 ⟨rfl, hT, hf⟩
                have H8 := hide (show TwoAt w8 pa ga pb gb xs (accL (rank.step xs) El v s (rank.bY v) (List.range (j + 1))) by rw [accL_range]; exact hT)
                have HF8 := hide (HK.out.2.trans hf (fun k h => .inl h))
                clear hT hf q0 q1 q2
                go_wp2
                try simp only [hd4, hd5]
                go_roundw
                case rel => exact ⟨j + 1, by omega, by go_num, H8.out, HF8.out⟩
                case measure => simp [intOf]; omega
              · obtain rfl : j = s := by omega
                have hAl := accL_all (rank.step xs) (Gr.rank_comm xs) El v j (by omega) (fun e he => (OK2.out e he).1) (rank.bY v) (List.range j) (List.Perm.refl _)
                have lA : ((Gr.flat El).foldl (rank.step xs) (rank.bY v)).length = v := by rw [foldl_len (rank.step_len xs)]; exact lY
                have HK4 := HK.out.1
                rw [hAl] at HK4
                have HT6 := hide HK4
                have HF6 := hide (HI.out.2.trans HK.out.2 (fun k h => .inl (.inr h)))
                generalize (Gr.flat El).foldl (rank.step xs) (rank.bY v) = ac at *
                have hs1' := SH1.out
                have hs2' := SH2.out
                have HCF := hide (Gr.cF_sum ac v (by omega))
                clear hAl HK4 HK
                generalize hwo3 : wr = wp at *
                go_wp2_with fail
                try simp only [hd4, hd5]
                go_loopw [17, 18] (fun gv i wz => ∃ u : Nat, u ≤ v ∧ i = .int .i64 u ∧ gv = .int .u64 ((Gr.sumTo (fun u => ac.getD u 0) u : Nat) : Int) ∧ wz = wp) (fun _ i _ => v - (intOf i).toNat)
                case atStart => exact ⟨0, by omega, rfl, rfl, rfl⟩
                case round =>
                  obtain ⟨u, hu, rfl, rfl, rfl⟩ := hrel
                  by_cases huv : u < v
                  · have HGu := hide (get_in HT6.out.b u (by omega))
                    have hmo := Gr.sumTo_mono (fun u => ac.getD u 0) (show u + 1 ≤ v by omega)
                    have HNX := hide (show Gr.sumTo (fun u => ac.getD u 0) (u + 1) = Gr.sumTo (fun u => ac.getD u 0) u + ac.getD u 0 from rfl)
                    rw [HNX.out] at hmo
                    generalize Gr.sumTo (fun u => ac.getD u 0) u = g at *
                    generalize ac.getD u 0 = x at *
                    have hadd : IntKind.u64.wrap ((g : Int) + (x : Int)) = ((g + x : Nat) : Int) := by simp only [IntKind.wrap, IntKind.bits, IntKind.signed]; simp; omega
                    clear hmo
                    go_wp2_with fail
                    go_at_call 21
                    refine HGu.out.mono ?_
                    rintro e w5 ⟨rfl, rfl⟩
                    go_wp2
                    try simp only [hd4, hd5]
                    go_roundw
                    case rel => exact ⟨u + 1, by omega, by go_num, by rw [HNX.out, Int.natCast_add], by first | rfl | trivial⟩
                    case measure => simp [intOf]; omega
                  · obtain rfl : u = v := by omega
                    generalize Gr.sumTo (fun k => ac.getD k 0) u = g at *
                    have t1 : decide (hk < g) = false := by simp; omega
                    have t1' : decide ((hk : Int) < (g : Int)) = false := by simp; omega
                    obtain ⟨df, hdf⟩ : ∃ df, hk - g = df := ⟨_, rfl⟩
                    have hsub : IntKind.u64.wrap ((hk : Int) - (g : Int)) = (df : Int) := by simp only [IntKind.wrap, IntKind.bits, IntKind.signed]; simp; omega
                    have t2 : decide (q < df) = false := by simp; omega
                    have t2' : decide ((q : Int) < (df : Int)) = false := by simp; omega
                    have lN : ((List.range u).map fun i => rank.cF (ac.getD i 0)).length = u := by simp
                    have HSM := hide (show Gr.sumTo (fun k => ((List.range u).map fun i => rank.cF (ac.getD i 0)).getD k 0) u ≤ (r + 1 + 1) * 257698037760 by have := HCF.out; omega)
                    have HCC := hide (rank.commit_any HT6.out (may_n hn1 (by omega) lx lA) 3 (r : Int) (by omega) (by omega) (by omega) (by omega))
                    rw [lx] at HCC
                    generalize (List.range u).map (fun i => rank.cF (ac.getD i 0)) = nx at *
                    clear hdf hs1' hs2' SH1 SH2 HCF
                    go_wp2_with fail
                    go_at_call 23
                    refine HCC.out.mono ?_
                    rintro e w8 ⟨rfl, hT, hf⟩
                    have HT8 := hide hT
                    have HF8 := hide (HF6.out.trans hf (fun k h => .inl h))
                    clear hT hf HT6 HF6 HCC
                    go_wp2
                    try simp only [hd4, hd5]
                    go_roundw
                    case rel => exact ⟨r + 1, nx, by omega, by go_num, lN, HSM.out, HT8.out, HF8.out⟩
                    case measure => simp [intOf]; omega
      · obtain rfl : r = 3 := by omega
        have HFin := hide (HF4.out.trans HI.out.2 (fun k h => .inr (by omega)))
        go_wp2_with fail
        go_at_call 16
        refine (k18.ends_true _).mono ?_
        rintro e w8 ⟨rfl, hf⟩
        have HFF := hide (HFin.out.then_ hf)
        clear hf
        go_wp2
        go_ret
        exact ⟨rfl, HFF.out⟩
end Go.Proofs.Ytjdbjahgimlhbaa.share
