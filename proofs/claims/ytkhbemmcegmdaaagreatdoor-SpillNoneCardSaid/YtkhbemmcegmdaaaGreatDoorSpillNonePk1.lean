/- Parts of the proof of SpillNone: no conditions of their own. -/
import Derived.Test.YtkhbemmcegmdaaaGreatDoorSpillNonePk0
import Derived.Test.YtkhbemmcegmdaaaGreatDoorWhPk18
import Derived.Test.YtkhbemmcegmdaaaGreatDoorWhPk17
section
set_option linter.all false
set_option linter.unusedVariables false
set_option maxRecDepth 100000
namespace Go.Proofs.YtkhbemmcegmdaaaGreatDoor
open Go.RowKit

theorem SNone.fr {w w' : World} {v : Value} {S : Nat → Prop} (h : SNone w v) (hf : Fr S w w') (hs : ∀ p, v = .pointer (some ⟨p, 0, none⟩) → ¬ S p) : SNone w' v := by
  rcases h with h | ⟨p, rfl, h0, h2, h5⟩
  · exact .inl h
  · exact .inr ⟨p, rfl, hf.cell h0 (hs p rfl), hf.cell h2 (hs p rfl), hf.cell h5 (hs p rfl)⟩
theorem SNone.up {w w' : World} {v : Value} (h : SNone w v) (hf : Fr (fun _ => False) w w') : SNone w' v := h.fr hf (fun _ _ h => h)
theorem sdone_none {w : World} {sv : Value} (h : SNone w sv) (a : SAct) (ha : a.kind < 256) : Calls Tryz.prog 47 #[sv, .agg #[.int .u8 (a.kind : Int), .int .i64 a.i, .int .u64 (a.v : Int), .int .u8 (a.c.kind : Int), .string ⟨a.c.name.toArray⟩, .int .i64 a.c.i, .string ⟨a.c.data.toArray⟩, .int .u8 (a.c.x.toNat : Int)]] w fun e W' => e = .returned (.tuple #[.int .u64 0, .int .i64 1]) ∧ Fr (fun _ => False) w W' := by
  refine (sdone_any (R := fun x y W' => x = .int .u64 0 ∧ y = .int .i64 1 ∧ Fr (fun _ => False) w W') a ha (fun W hW => ?_) (fun W hW => ?_) (fun W hW => ?_)).mono ?_
  · refine (sget_none (h.up hW) a.i).mono ?_
    rintro e W' ⟨rfl, rfl⟩
    exact ⟨_, _, rfl, fun _ => ⟨rfl, rfl, hW⟩⟩
  · refine (sfill_none (h.up hW) _).mono ?_
    rintro e W' ⟨rfl, rfl⟩
    exact ⟨_, rfl, fun _ => ⟨rfl, rfl, hW⟩⟩
  · refine (sset_none (h.up hW) a.i _).mono ?_
    rintro e W' ⟨rfl, rfl⟩
    exact ⟨_, rfl, fun _ _ => ⟨rfl, rfl, hW⟩⟩
  · rintro e W' ⟨x, y, rfl, rfl, rfl, hf⟩
    exact ⟨rfl, hf⟩
set_option maxHeartbeats 3200000 in
theorem law_snone (a : SAct) (hwf : SActWf a) (nm : List UInt8) (hnm : nm.length ≤ 9223372036854775807) (yn ym z0 z1 : Int) (w : World) : Calls Tryz.prog 11 #[.agg #[.int .u8 (a.kind : Int), .int .i64 a.i, .int .u64 (a.v : Int), .int .u8 (a.c.kind : Int), .string ⟨a.c.name.toArray⟩, .int .i64 a.c.i, .string ⟨a.c.data.toArray⟩, .int .u8 (a.c.x.toNat : Int)], .agg #[.string ⟨nm.toArray⟩, .int .i64 yn, .int .i64 ym, .int .u8 z0, .int .u8 z1]] w fun e w' => e = .returned (.bool true) ∧ Fr (fun _ => False) w w' := by
  obtain ⟨W1, hW1⟩ : ∃ W1, W1 = w.alloc (.cells #[.int .u8 (a.kind : Int), .int .i64 a.i, .int .u64 (a.v : Int), .int .u8 (a.c.kind : Int), .string ⟨a.c.name.toArray⟩, .int .i64 a.c.i, .string ⟨a.c.data.toArray⟩, .int .u8 (a.c.x.toNat : Int)] 82) := ⟨_, rfl⟩
  have HF1 : Hid (Fr (fun _ => False) w W1) := by rw [hW1]; exact (Fr.refl _ _).alloc _
  have HB1 : Hid (Blk W1 w.heap.size 82 (sactc a)) := by rw [hW1]; exact Blk.new w 82 _
  have hz1 : W1.heap.size = w.heap.size + 1 := by rw [hW1]; simp
  obtain ⟨W2, hW2⟩ : ∃ W2, W2 = W1.alloc (.cells #[.string ⟨nm.toArray⟩, .int .i64 yn, .int .i64 ym, .int .u8 z0, .int .u8 z1] 85) := ⟨_, rfl⟩
  have HF2 : Hid (Fr (fun _ => False) W1 W2) := by rw [hW2]; exact (Fr.refl _ _).alloc _
  have HB2 : Hid (Blk W2 (w.heap.size + 1) 85 #[.string ⟨nm.toArray⟩, .int .i64 yn, .int .i64 ym, .int .u8 z0, .int .u8 z1]) := by rw [hW2, ← hz1]; exact Blk.new W1 85 _
  have hz2 : W2.heap.size = w.heap.size + 1 + 1 := by rw [hW2]; simp [hz1]
  obtain ⟨W3, hW3⟩ : ∃ W3, W3 = W2.alloc (.cells #[.int .u8 (a.kind : Int), .int .i64 a.i, .int .u64 (a.v : Int), .int .u8 (a.c.kind : Int), .string ⟨a.c.name.toArray⟩, .int .i64 a.c.i, .string ⟨a.c.data.toArray⟩, .int .u8 (a.c.x.toNat : Int)] 82) := ⟨_, rfl⟩
  have HF3 : Hid (Fr (fun _ => False) W2 W3) := by rw [hW3]; exact (Fr.refl _ _).alloc _
  have HB3 : Hid (Blk W3 (w.heap.size + 1 + 1) 82 (sactc a)) := by rw [hW3, ← hz2]; exact Blk.new W2 82 _
  have har : SActsR W3 W3.heap.size (some ⟨w.heap.size + 1 + 1, 0, none⟩) 1 [a] := by
    refine ⟨rfl, fun x hx => by rw [List.mem_singleton] at hx; rw [hx]; exact hwf, fun i x hx => ?_⟩
    have hi : i = 0 := by
      have := (List.getElem?_eq_some_iff.1 hx).1
      simp at this
      exact this
    subst hi
    obtain rfl := Option.some.inj hx
    exact ⟨_, 0, rfl, HB3.out.lt, fun j v hv => by rw [HB3.out.cell]; simpa using hv⟩
  have HG := hide (sgreat_ok har (Nat.le_refl _) 1 1 (by omega) (by omega))
  have HW1 := hide hW1
  have HW2 := hide hW2
  have HW3 := hide hW3
  have HBX := hide (HB1.out.fr HF2.out id)
  have s0 : W2.cell? ⟨w.heap.size, 0, none⟩ = some (.int .u8 (a.kind : Int)) := (HBX.out.cell 0).trans rfl
  have s1 : W2.cell? ⟨w.heap.size, 1, none⟩ = some (.int .i64 a.i) := (HBX.out.cell 1).trans rfl
  have s2 : W2.cell? ⟨w.heap.size, 2, none⟩ = some (.int .u64 (a.v : Int)) := (HBX.out.cell 2).trans rfl
  have s3 : W2.cell? ⟨w.heap.size, 3, none⟩ = some (.int .u8 (a.c.kind : Int)) := (HBX.out.cell 3).trans rfl
  have s4 : W2.cell? ⟨w.heap.size, 4, none⟩ = some (.string ⟨a.c.name.toArray⟩) := (HBX.out.cell 4).trans rfl
  have s5 : W2.cell? ⟨w.heap.size, 5, none⟩ = some (.int .i64 a.c.i) := (HBX.out.cell 5).trans rfl
  have s6 : W2.cell? ⟨w.heap.size, 6, none⟩ = some (.string ⟨a.c.data.toArray⟩) := (HBX.out.cell 6).trans rfl
  have s7 : W2.cell? ⟨w.heap.size, 7, none⟩ = some (.int .u8 (a.c.x.toNat : Int)) := (HBX.out.cell 7).trans rfl
  obtain ⟨q, hq⟩ : ∃ q, nm.length = q := ⟨_, rfl⟩
  have zq : (⟨nm.toArray⟩ : ByteArray).size = q := by rw [← hq]; simp [ByteArray.size]
  have hq2 : q ≤ 9223372036854775807 := by rw [← hq]; exact hnm
  have HWF := hide hwf
  clear har hW1 hW2 hW3 hq hnm hwf
  go_enter Tryz.func11, Tryz.ntmps11
  go_wp2_with fail
  rw [← HW1.out]
  try rw [hz1]
  rw [← HW2.out]
  go_wp2_with fail
  rw [← HW3.out]
  try rw [hz2]
  go_at_call 46
  refine HG.out.mono ?_
  rintro e W4 ⟨hg, hf4⟩
  have HF4 := hide (((HF1.out.then_ HF2.out).then_ HF3.out).then_ hf4)
  have HBA := hide ((HBX.out.fr HF3.out id).fr hf4 id)
  have HBY := hide ((HB2.out.fr HF3.out id).fr hf4 id)
  have y0 : W4.cell? ⟨w.heap.size + 1, 0, none⟩ = some (.string ⟨nm.toArray⟩) := (HBY.out.cell 0).trans rfl
  clear s0 s1 s2 s3 s4 s5 s6 s7 hf4 hz1 hz2
  rcases hg with rfl | ⟨rfl, _⟩
  · go_wp2
    go_ret
    exact ⟨rfl, HF4.out⟩
  · by_cases h40 : 40 < q
    · have b0 : (q : Int) > 40 := by omega
      have b1 : (40 : Int) < (q : Int) := by omega
      go_wp2
      go_ret
      exact ⟨rfl, HF4.out⟩
    · have b0 : ¬ (q : Int) > 40 := by omega
      have b1 : ¬ (40 : Int) < (q : Int) := by omega
      go_wp2_with fail
      clear y0
      go_loopw [5, 6, 7] (fun sv cv i wr => ∃ (t q : Nat) (sv' cv' : Value), i = .int .i64 (t : Int) ∧ sv' = sv ∧ cv' = cv ∧ t ≤ 2 ∧ SNone wr sv' ∧ NoC wr cv' ∧ (∀ p : Nat, sv' = .pointer (some ⟨p, 0, none⟩) → p ≠ w.heap.size) ∧ (∀ p : Nat, cv' = .pointer (some ⟨p, 0, none⟩) → p ≠ w.heap.size) ∧ Fr (fun _ => False) w wr ∧ Blk wr w.heap.size 82 (sactc { a with kind := q }) ∧ Blk wr (w.heap.size + 1) 85 #[.string ⟨nm.toArray⟩, .int .i64 yn, .int .i64 ym, .int .u8 z0, .int .u8 z1]) (fun _ _ i _ => 2 - (intOf i).toNat)
      case atStart => exact ⟨0, a.kind, .pointer none, .pointer none, rfl, rfl, rfl, by omega, .inl rfl, .inl rfl, (fun p h => by cases h), (fun p h => by cases h), HF4.out, HBA.out, HBY.out⟩
      case round =>
        obtain ⟨t, q1, sv', cv', rfl, rfl, rfl, ht, hsn, hnc, hsp, hcp, hfr, hbl, hby⟩ := hrel
        have HSN := hide hsn
        have HNC := hide hnc
        have HSP := hide hsp
        have HCP := hide hcp
        have HFR := hide hfr
        have HBL := hide hbl
        have HBY2 := hide hby
        clear hsn hnc hsp hcp hfr hbl hby
        by_cases hlt : t < 2
        · have t0 : (t : Int) < 2 := by omega
          go_wp2
          go_loopw [8] (fun j wq => ∃ (u q : Nat) (WQ : World), j = .int .i64 (u : Int) ∧ WQ = wq ∧ u ≤ 8 ∧ SNone WQ sv' ∧ NoC WQ cv' ∧ Fr (fun _ => False) w WQ ∧ Blk WQ w.heap.size 82 (sactc { a with kind := q }) ∧ Blk WQ (w.heap.size + 1) 85 #[.string ⟨nm.toArray⟩, .int .i64 yn, .int .i64 ym, .int .u8 z0, .int .u8 z1]) (fun j _ => 8 - (intOf j).toNat)
          case atStart => exact ⟨0, q1, _, rfl, rfl, by omega, HSN.out, HNC.out, HFR.out, HBL.out, HBY2.out⟩
          case round =>
            obtain ⟨u, q2, WQ, rfl, rfl, hu, hsn2, hnc2, hfr2, hbl2, hby2⟩ := hrel
            by_cases hul : u < 8
            · have u0 : (u : Int) < 8 := by omega
              have hwr : IntKind.u8.wrap (u : Int) = (u : Int) := by simp only [IntKind.wrap, IntKind.bits, IntKind.signed]; simp; omega
              have k0 : WQ.cell? ⟨w.heap.size, 0, none⟩ = some (.int .u8 (q2 : Int)) := (hbl2.cell 0).trans rfl
              have f0 : WQ.frozen? ⟨w.heap.size, 0, none⟩ = false := hbl2.frozen 0
              have hf1 := Fr.one WQ w.heap.size 0 (.int .u8 (u : Int))
              have hb3 : Blk (WQ.setCell ⟨w.heap.size, 0, none⟩ (.int .u8 (u : Int))) w.heap.size 82 (sactc { a with kind := u }) := hbl2.set_ 0 (.int .u8 (u : Int))
              have hfr3 : Fr (fun _ => False) w (WQ.setCell ⟨w.heap.size, 0, none⟩ (.int .u8 (u : Int))) := hfr2.setCell (p := ⟨w.heap.size, 0, none⟩) (.inr (Nat.le_refl _)) _
              have hsn3 : SNone (WQ.setCell ⟨w.heap.size, 0, none⟩ (.int .u8 (u : Int))) sv' := hsn2.fr hf1 (fun p hp => HSP.out p hp)
              have hnc3 : NoC (WQ.setCell ⟨w.heap.size, 0, none⟩ (.int .u8 (u : Int))) cv' := hnc2.fr hf1 (fun p hp => HCP.out p hp)
              have hby3 : Blk (WQ.setCell ⟨w.heap.size, 0, none⟩ (.int .u8 (u : Int))) (w.heap.size + 1) 85 #[.string ⟨nm.toArray⟩, .int .i64 yn, .int .i64 ym, .int .u8 z0, .int .u8 z1] := hby2.fr hf1 (by omega)
              have s0 : (WQ.setCell ⟨w.heap.size, 0, none⟩ (.int .u8 (u : Int))).cell? ⟨w.heap.size, 0, none⟩ = some (.int .u8 (u : Int)) := (hb3.cell 0).trans rfl
              have s1 : (WQ.setCell ⟨w.heap.size, 0, none⟩ (.int .u8 (u : Int))).cell? ⟨w.heap.size, 1, none⟩ = some (.int .i64 a.i) := (hb3.cell 1).trans rfl
              have s2 : (WQ.setCell ⟨w.heap.size, 0, none⟩ (.int .u8 (u : Int))).cell? ⟨w.heap.size, 2, none⟩ = some (.int .u64 (a.v : Int)) := (hb3.cell 2).trans rfl
              have s3 : (WQ.setCell ⟨w.heap.size, 0, none⟩ (.int .u8 (u : Int))).cell? ⟨w.heap.size, 3, none⟩ = some (.int .u8 (a.c.kind : Int)) := (hb3.cell 3).trans rfl
              have s4 : (WQ.setCell ⟨w.heap.size, 0, none⟩ (.int .u8 (u : Int))).cell? ⟨w.heap.size, 4, none⟩ = some (.string ⟨a.c.name.toArray⟩) := (hb3.cell 4).trans rfl
              have s5 : (WQ.setCell ⟨w.heap.size, 0, none⟩ (.int .u8 (u : Int))).cell? ⟨w.heap.size, 5, none⟩ = some (.int .i64 a.c.i) := (hb3.cell 5).trans rfl
              have s6 : (WQ.setCell ⟨w.heap.size, 0, none⟩ (.int .u8 (u : Int))).cell? ⟨w.heap.size, 6, none⟩ = some (.string ⟨a.c.data.toArray⟩) := (hb3.cell 6).trans rfl
              have s7 : (WQ.setCell ⟨w.heap.size, 0, none⟩ (.int .u8 (u : Int))).cell? ⟨w.heap.size, 7, none⟩ = some (.int .u8 (a.c.x.toNat : Int)) := (hb3.cell 7).trans rfl
              have HDN := hide (sdone_none hsn3 { a with kind := u } (by show u < 256; omega))
              simp only at HDN
              have H3 := hide (And.intro hsn3 (And.intro hnc3 (And.intro hfr3 (And.intro hb3 hby3))))
              clear hsn3 hnc3 hfr3 hb3 hby3 hsn2 hnc2 hfr2 hbl2 hby2 hf1
              go_wp2_with fail
              go_at_call 47
              refine HDN.out.mono ?_
              rintro e W5 ⟨rfl, hf5⟩
              have HF5 := hide hf5
              clear hf5
              go_wp2
              go_roundw
              case rel => exact ⟨u + 1, u, _, by go_num, rfl, by omega, H3.out.1.up HF5.out, H3.out.2.1.up HF5.out, H3.out.2.2.1.then_ HF5.out, H3.out.2.2.2.1.fr HF5.out id, H3.out.2.2.2.2.fr HF5.out id⟩
              case measure => simp [intOf]; omega
            · obtain rfl : u = 8 := by omega
              have HCL := hide (sclose_none hsn2)
              have H2 := hide (And.intro hsn2 (And.intro hnc2 (And.intro hfr2 (And.intro hbl2 hby2))))
              clear hsn2 hnc2 hfr2 hbl2 hby2
              go_wp2_with fail
              go_at_call 48
              refine HCL.out.mono ?_
              rintro e W5 ⟨rfl, hf5⟩
              have hsn5 := H2.out.1.up hf5
              have HNW := hide (snew_none (H2.out.2.1.up hf5) nm yn ym)
              have HLE := hide (slen_none hsn5)
              have HRE := hide (sres_none hsn5)
              have hb5 := H2.out.2.2.2.2.fr hf5 id
              have y0 : W5.cell? ⟨w.heap.size + 1, 0, none⟩ = some (.string ⟨nm.toArray⟩) := (hb5.cell 0).trans rfl
              have y1 : W5.cell? ⟨w.heap.size + 1, 1, none⟩ = some (.int .i64 yn) := (hb5.cell 1).trans rfl
              have y2 : W5.cell? ⟨w.heap.size + 1, 2, none⟩ = some (.int .i64 ym) := (hb5.cell 2).trans rfl
              have H5 := hide (And.intro (H2.out.2.2.1.then_ hf5) (And.intro (H2.out.2.2.2.1.fr hf5 id) hb5))
              clear hsn5 hf5 hb5
              go_wp2_with fail
              go_at_call 41
              refine HNW.out.mono ?_
              rintro e w9 ⟨rfl, rfl⟩
              go_wp2_with fail
              go_at_call 49
              refine HLE.out.mono ?_
              rintro e w9 ⟨rfl, rfl⟩
              go_wp2_with fail
              go_at_call 44
              refine HRE.out.mono ?_
              rintro e w9 ⟨rfl, rfl⟩
              clear y0 y1 y2
              go_wp2
              go_roundw
              case rel =>
                obtain ⟨f5, b5, c5⟩ := H5.out
                have hsz := f5.size
                have hlt5 := b5.lt
                have fa : Fr (fun _ => False) W5 (W5.alloc (.cells #[.pointer none, .string ⟨#[]⟩, .int .i64 0, .int .i64 0, .bool false, .map none, .map none, .int .i64 0, .int .u32 0, .int .i32 0, .int .u32 0] 103)) := (Fr.refl _ _).alloc _
                have fb : Fr (fun _ => False) (W5.alloc (.cells #[.pointer none, .string ⟨#[]⟩, .int .i64 0, .int .i64 0, .bool false, .map none, .map none, .int .i64 0, .int .u32 0, .int .i32 0, .int .u32 0] 103)) ((W5.alloc (.cells #[.pointer none, .string ⟨#[]⟩, .int .i64 0, .int .i64 0, .bool false, .map none, .map none, .int .i64 0, .int .u32 0, .int .i32 0, .int .u32 0] 103)).alloc (.cells #[.pointer none, .int .i64 0, .map none, .int .i64 0] 66)) := (Fr.refl _ _).alloc _
                have bs := (Blk.new W5 103 #[.pointer none, .string ⟨#[]⟩, .int .i64 0, .int .i64 0, .bool false, .map none, .map none, .int .i64 0, .int .u32 0, .int .i32 0, .int .u32 0]).fr fb id
                have bc := Blk.new (W5.alloc (.cells #[.pointer none, .string ⟨#[]⟩, .int .i64 0, .int .i64 0, .bool false, .map none, .map none, .int .i64 0, .int .u32 0, .int .i32 0, .int .u32 0] 103)) 66 #[.pointer none, .int .i64 0, .map none, .int .i64 0]
                have hza : (W5.alloc (.cells #[.pointer none, .string ⟨#[]⟩, .int .i64 0, .int .i64 0, .bool false, .map none, .map none, .int .i64 0, .int .u32 0, .int .i32 0, .int .u32 0] 103)).heap.size = W5.heap.size + 1 := by simp
                rw [hza] at bc
                refine ⟨t + 1, q2, _, _, by go_num, rfl, rfl, by omega, .inr ⟨W5.heap.size, rfl, (bs.cell 0).trans rfl, (bs.cell 2).trans rfl, (bs.cell 5).trans rfl⟩, .inr ⟨W5.heap.size + 1, rfl, (bc.cell 0).trans rfl⟩, fun p hp => ?_, fun p hp => ?_, (f5.then_ fa).then_ fb, (b5.fr fa id).fr fb id, (c5.fr fa id).fr fb id⟩
                · injection hp with hp
                  injection hp with hp
                  injection hp with hp
                  omega
                · injection hp with hp
                  injection hp with hp
                  injection hp with hp
                  omega
              case measure => simp [intOf]; omega
        · obtain rfl : t = 2 := by omega
          have HDO := hide (does15_true wr)
          go_wp2_with fail
          go_at_call 45
          refine HDO.out.mono ?_
          rintro e W9 ⟨rfl, hf9⟩
          have HF9 := hide (HFR.out.then_ hf9)
          clear hf9
          go_wp2
          go_ret
          exact ⟨rfl, HF9.out⟩
end Go.Proofs.YtkhbemmcegmdaaaGreatDoor
end
