/- THE LAW Decode, walked. -/
import Derived.Test.YtghnjmgjokbopaaDoorPgDoes
set_option linter.unusedVariables false
set_option maxRecDepth 100000
namespace Go.Proofs.YtghnjmgjokbopaaDoor
open Go.RowKit

theorem decR_form (b : Bool) (l : List UInt8) : ∃ x y, decR b l = .tuple #[.string x, .int .i64 y] := by
  unfold decR; cases b
  · exact ⟨_, _, rfl⟩
  · exact ⟨_, _, rfl⟩
theorem joinR_form (b : Bool) (l : List (List UInt8)) : ∃ x y, joinR b l = .tuple #[.string x, .int .i64 y] := by
  unfold joinR; cases b
  · exact ⟨_, _, rfl⟩
  · exact ⟨_, _, rfl⟩
theorem rjoinB_eq (L : List (List UInt8)) : rjoinB L = joinB L := by
  rw [Bool.eq_iff_iff, join_iff]
  simp [rjoinB]
theorem reads_front {w : World} {B n : Nat} {A : Option Addr} {xs : List Value} {y : Value} (h : Reads w B 1 A (n + 1) (xs ++ [y])) : Reads w B 1 A n xs := by
  refine ⟨by have := h.1; simp at this; omega, fun hn => ?_⟩
  obtain ⟨b, o, e, hb, hc⟩ := h.2 (by omega)
  refine ⟨b, o, e, hb, fun j u hu => hc j u ?_⟩
  obtain ⟨hj, _⟩ := List.getElem?_eq_some_iff.1 hu
  rw [List.getElem?_append_left hj]
  exact hu
theorem strs_made (n : Nat) (h : n ≤ 1000) (z : Int) (hz : z = n) (W : World) : (Instr.makeSlice 26 (.int .i64 0) (.int .i64 z)).run Tryd.prog W = .ok (.slice (some ⟨W.heap.size, 0, none⟩) 0 n) (W.alloc (.cells (List.replicate n (Value.string ⟨#[]⟩)).toArray 9)) := by
  subst hz
  obtain ⟨i0, hi, hz0, hz1, hz2⟩ := info_parts str_info
  have h := run_make_rowN (P := Tryd.prog) 26 9 i0 (.string ⟨#[]⟩) Tryd.underlying26 hi hz0 .i64 .i64 0 n (Nat.zero_le _) (by rw [hz2]; omega) (by omega) W
  rw [hz1, Nat.mul_one] at h
  rw [show ((0 : Nat) : Int) = 0 by rfl] at h
  rw [h]
  show Result.ok _ (W.alloc (.cells (madeCells #[.string ⟨#[]⟩] n) 9)) = _
  rw [madeCells_one]
set_option maxHeartbeats 4000000 in
theorem law_dec (A : Option Addr) (n c : Nat) (L : List (List UInt8)) (s : ByteArray) (w : World) (ha : Reads w w.heap.size 1 A n (L.map strv)) (hn : n ≤ 9223372036854775807) (hs : s.size ≤ 9223372036854775807) :
    Calls Tryd.prog 4 #[.slice A n c, .string s] w fun e w' => e = .returned (.bool true) ∧ Fr (fun _ => False) w w' := by
  obtain ⟨i0, hi, hz0, hz1, hz2⟩ := info_parts str_info
  have la : L.length = n := by have := ha.1; simpa using this
  have LA := hide la
  have HA := hide ha
  have HG := hide (great_any A n c w.heap.size 30 L w ha hn (by omega))
  clear la ha
  go_enter Tryd.func4, Tryd.ntmps4
  go_wp2_with fail
  go_at_call 15
  refine HG.out.mono ?_
  rintro e w1 ⟨⟨g, rfl, hg⟩, rfl⟩
  cases g
  case true =>
    go_wp2
    go_ret
    exact ⟨rfl, Fr.refl _ _⟩
  obtain ⟨hn30, hL⟩ := hg rfl
  have HL := hide hL
  clear hL hg HG
  by_cases h3 : 300 < s.size
  · go_wp2
    go_ret
    exact ⟨rfl, Fr.refl _ _⟩
  have HM : Hid (∀ l ∈ L, l.length ≤ 9223372036854775807) := fun l h => by have := HL.out l h; omega
  have HD := hide (fun w => pg_dec s w (by omega))
  have HRD := hide (fun w => rpg_dec s w (by omega))
  obtain ⟨x, y, hxy⟩ := decR_form (pageB s.data.toList) s.data.toList
  rw [hxy] at HD HRD
  have HRJ := hide (rjoinB_eq L)
  obtain ⟨x', y', hxy'⟩ := joinR_form (joinB L) L
  have HJ := hide hxy'
  clear hxy hxy'
  have hmk := strs_made (n + 1) (by omega) ((n : Int) + 1) (by omega) w
  have O0 : Hid ((w.alloc (.cells (List.replicate (n + 1) (Value.string ⟨#[]⟩)).toArray 9)).ownsRow w.heap.size 9 1 (.slice (some ⟨w.heap.size, 0, none⟩) 0 (n + 1)) 0 []) :=
    World.ownsRow_made w _ (n + 1) (Nat.le_refl _) (by unfold maxLen; omega) (by simp)
  have F0 : Hid (Fr (fun _ => False) w (w.alloc (.cells (List.replicate (n + 1) (Value.string ⟨#[]⟩)).toArray 9))) := (Fr.refl _ _).alloc _
  generalize w.alloc (.cells (List.replicate (n + 1) (Value.string ⟨#[]⟩)).toArray 9) = w1 at *
  have HA1 := HA.out.up F0.out
  have hb1 := F0.out.size
  have hown1 := O0.out
  go_wp2_with (at_builtin; refine wpList_append_reads rfl (.tmp 24) (.tmp 25) _ rfl w.heap.size 9 i0 _ 1 16 Tryd.underlying26 hi hz0 hz1 hz2 rfl (by decide) _ _ _ rfl hown1 _ A n c (L.map strv) rfl HA1 ?c1 ?c2 ?c3 ?c4 ?c5)
  case c1 =>
    intro u hu
    obtain ⟨q, _, rfl⟩ := List.mem_map.1 hu
    simp [Value.oneCell', strv]
  case c2 => unfold maxLen; omega
  case c3 => omega
  case c4 => exact hb1
  case c5 =>
    intro v2 w2 hown2 hg2 _
    have F2 := hide (F0.out.grown hg2 (fun k hk => .inr ((hown1.lt k hk).1)))
    have hb2 := F2.out.size
    clear hown1 hg2 HA1 hmk
    go_wp2_with (at_builtin; refine wpList_append_box w2 _ _ rfl (.tmp 26) (.tmp 27) _ rfl w.heap.size 9 i0 _ 1 16 Tryd.underlying26 hi hz0 hz1 hz2 rfl (by decide) _ _ _ rfl hown2 rfl rfl ?c1 ?c2 ?c3 ?c4 ?c5)
    case c1 => simp [Value.oneCell']
    case c2 => unfold maxLen; omega
    case c3 => omega
    case c4 => exact hb2
    case c5 =>
      intro v3 w3 hown3 hg3 _
      have F3 := hide (F2.out.grown hg3 (fun k hk => .inr ((hown2.lt k hk).1)))
      have hb3 := F3.out.size
      obtain ⟨g, cap, rfl, _, _⟩ := hown3.form (by omega)
      obtain ⟨_, _, e, hcp, hcm⟩ := own_val2 hown3
      injection e with e1 e2 e3
      subst e3
      have HT := hide (Reads.of_own hown3)
      have HA3 := hide (HA.out.up F3.out)
      clear hown2 hown3 hg3 e1 e2 O0 F0 F2 HA hi hz0 hz1 hz2
      go_wp2_with fail
      go_at_call 16
      refine (HD.out _).mono ?_
      rintro e w4 ⟨rfl, hf⟩
      have HF := hide (F3.out.then_ hf)
      have HT := hide (HT.out.up hf)
      have HA := hide (HA3.out.up hf)
      clear hf HA3 F3
      go_wp2_with fail
      go_at_call 17
      refine (HRD.out _).mono ?_
      rintro e w5 ⟨rfl, hf⟩
      have HF := hide (HF.out.then_ hf)
      have HT := hide (HT.out.up hf)
      have HA := hide (HA.out.up hf)
      clear hf
      go_wp2_with fail
      go_at_call 18
      refine (pg_join _ n _ L w5.heap.size w5 (reads_front HT.out) (Nat.le_refl _) (by omega) HM.out).mono ?_
      rintro e w6 ⟨rfl, hf⟩
      rw [HJ.out]
      have HF := hide (HF.out.then_ hf)
      have HT := hide (HT.out.up hf)
      have HA := hide (HA.out.up hf)
      clear hf
      go_wp2_with fail
      go_at_call 19
      refine (rpg_join _ n _ L w6.heap.size w6 HA.out (Nat.le_refl _) (by omega) HM.out).mono ?_
      rintro e w7 ⟨rfl, hf⟩
      rw [HRJ.out, HJ.out]
      have HF := hide (HF.out.then_ hf)
      have HT := hide (HT.out.up hf)
      have HA := hide (HA.out.up hf)
      clear hf
      go_wp2_with fail
      go_at_call 11
      refine (texts_any _ A n _ n c w7.heap.size L L w7 (reads_front HT.out) HA.out (by omega)).mono ?_
      rintro e w8 ⟨rfl, hf⟩
      have HF := hide (HF.out.then_ hf)
      have HT := hide (HT.out.up hf)
      rw [show (L == L) = true by simp]
      clear hf
      have hst : w8.cell? ⟨g, n, none⟩ = some (.string ⟨#[42]⟩) := by
        obtain ⟨b, o, e, _, hc⟩ := HT.out.2 (by omega)
        injection e with e
        injection e with e1 e2
        subst e1
        subst e2
        have := hc n (.string ⟨#[42]⟩) (by rw [List.getElem?_append_right (by simp [LA.out])]; simp [LA.out])
        rwa [Nat.zero_add] at this
      go_wp2_with fail
      go_at_call 14
      refine (does_any _).mono ?_
      rintro e w9 ⟨rfl, hf⟩
      have HF := hide (HF.out.then_ hf)
      clear hf
      go_wp2
      go_ret
      exact ⟨rfl, HF.out⟩
end Go.Proofs.YtghnjmgjokbopaaDoor
