/- A cache's Get, Pin, Unpin, Has, Len, New, by contract. -/
import Derived.Test.YtkhbemmcegmdaaaGreatDoorCh
set_option linter.all false
set_option linter.unusedVariables false
set_option maxRecDepth 100000
namespace Go.Proofs.YtkhbemmcegmdaaaGreatDoor
open Go.RowKit
open Go.ChangeMaps (setBlock)

section
variable {w w1 : World} {cb fb tb clock most : Nat} {X X1 XF : Nat → Prop} {room left clk : Int} {F : FileL} {ME : List (Ent CKey)} {Q : List CF} {s : CSt}
theorem ldata_q {Q : List CF} {x : CF} (hn : (Q.map (·.key)).Nodup) (hx : x ∈ Q) : ldata x.key (Q.map CF.abs) = x.data := by
  unfold ldata
  rw [abs_find, find_key hn hx]
  rfl
theorem CAtQ.turn (h : CAtQ w cb fb X room most s tb X1 XF ME Q clock) {x : CF} (hx : x ∈ Q) (x' : CF) (j : Nat) (v : Value) (h1 : x'.key = x.key) (h2 : x'.blk = x.blk) (h3 : x'.born = x.born) (h4 : x'.used = x.used) (hc : x.cells.setIfInBounds j v = x'.cells) (f : CE → CE) (hf : x'.abs = f x.abs) :
    CAtQ (w.setCell ⟨x.blk, j, none⟩ v) cb fb X room most { s with L := lmap x.key f s.L } tb X1 XF ME (Q.map fun y => if y.key = x.key then x' else y) clock := by
  refine ⟨h.rep.turn hx x' j v h1 h2 h3 hc, h.ord.keepUsed ?_, ?_, h.x1, h.xf, h.xs⟩
  · rw [List.map_map]
    refine List.map_congr_left fun y hy => ?_
    simp only [Function.comp]
    split
    · next e => rw [h4, nodup_inj h.rep.nd hy hx e]
    · rfl
  · rw [abs_map h.rep.nd hx f hf, h.abs]
theorem CInv.find' {room : Int} {most : Nat} {s : CSt} (h : CInv room most s) (k : CKey) : ∀ x ∈ (cfind most k s).2.L, x.pins ≤ (cfind most k s).2.clk := by
  have hw := cfind_ways most k s h.nd
  generalize (cfind most k s).1 = e at hw
  generalize (cfind most k s).2 = s' at hw
  cases hw with
  | there x hx hk =>
    intro y hy
    rcases List.mem_append.1 hy with hy | hy
    · have := h.pin y (wo_mem.1 hy).1; simp only; omega
    · rw [List.mem_singleton] at hy; rw [hy]; have := h.pin x hx; simp only; omega
  | full => exact h.pin
  | none => exact h.pin
  | fail => exact h.pin
  | bad => exact h.pin
  | come hn hf hi hl hp =>
    intro y hy
    rcases List.mem_append.1 hy with hy | hy
    · have := h.pin y ((room_sub _ _).subset hy); simp only; omega
    · rw [List.mem_singleton] at hy; rw [hy]; simp
theorem cget_ok (h : CAt w cb fb X room most s) (hI : CInv room most s) (k : CKey) (hc : s.clk + 1 ≤ 9223372036854775806) : Calls Tryz.prog 20 #[.pointer (some ⟨cb, 0, none⟩), .string ⟨k.1.toArray⟩, .int .i64 k.2] w fun e w' => e = .returned (.tuple #[.string ⟨(cget most k s).1.toArray⟩, .int .i64 (cget most k s).2.1]) ∧ (∃ X', CAt w' cb fb X' room most (cget most k s).2.2 ∧ ∀ j, X' j → X j ∨ w.heap.size ≤ j) ∧ Fr X w w'  := by
  by_cases h0 : (cfind most k s).1 = 0
  · have HF := hide (cfind_ok0 h hI k (by omega) h0)
    have HI2 := hide (hI.find' k)
    have HCK := hide (cfind_clk most k s hI.nd)
    have HR : Hid (cget most k s = (ldata k (cfind most k s).2.L, 0, (cfind most k s).2)) := by
      show cget most k s = _
      unfold cget
      rw [if_pos h0]
    clear h hI h0
    go_enter Tryz.func20, Tryz.ntmps20
    go_wp2_with fail
    go_at_call 66
    refine HF.out.mono ?_
    rintro e W5 ⟨tb, X', X1, XF, ME, Q, clock, x, rfl, hq5, hx5, hf5, hx, rfl⟩
    have d0 : W5.cell? ⟨x.blk, 0, none⟩ = some (.string ⟨x.data.toArray⟩) := ((hq5.rep.frm x hx).1.cell 0).trans rfl
    have HD : Hid (ldata x.key (cfind most x.key s).2.L = x.data) := by rw [← hq5.abs]; exact ldata_q hq5.rep.nd hx
    have H5 := hide (And.intro hq5.at (And.intro hx5 hf5))
    clear hq5 hx5 hf5 hx
    go_wp2
    go_ret2
    rw [HR.out]
    exact ⟨by rw [HD.out]; rfl, ⟨X', H5.out.1, H5.out.2.1⟩, H5.out.2.2⟩
  · have HF := hide (cfind_oke h hI k h0)
    have HR : Hid (cget most k s = ([], (cfind most k s).1, (cfind most k s).2)) := by
      show cget most k s = _
      unfold cget
      rw [if_neg h0]
    rw [HR.out]
    clear h hI HR
    obtain ⟨r, hr⟩ : ∃ r, cfind most k s = r := ⟨_, rfl⟩
    rw [hr] at HF h0
    rw [hr]
    obtain ⟨z, hz⟩ : ∃ z, r.1 = z := ⟨_, rfl⟩
    rw [hz] at HF h0
    rw [hz]
    have b0 : (z == 0) = false := by simpa using h0
    have b1 : (z != 0) = true := by simpa using h0
    clear hr hz h0
    go_enter Tryz.func20, Tryz.ntmps20
    go_wp2_with fail
    go_at_call 66
    refine HF.out.mono ?_
    rintro e W5 ⟨rfl, hq5, hf5⟩
    have H5 := hide (And.intro hq5 hf5)
    clear hq5 hf5
    go_wp2
    go_ret2
    exact ⟨rfl, H5.out⟩
theorem cpin_ok (h : CAt w cb fb X room most s) (hI : CInv room most s) (k : CKey) (hc : s.clk + 1 ≤ 9223372036854775806) : Calls Tryz.prog 39 #[.pointer (some ⟨cb, 0, none⟩), .string ⟨k.1.toArray⟩, .int .i64 k.2] w fun e w' => e = .returned (.tuple #[.string ⟨(cpin most k s).1.toArray⟩, .int .i64 (cpin most k s).2.1]) ∧ (∃ X', CAt w' cb fb X' room most (cpin most k s).2.2 ∧ ∀ j, X' j → X j ∨ w.heap.size ≤ j) ∧ Fr X w w'  := by
  by_cases h0 : (cfind most k s).1 = 0
  · have HF := hide (cfind_ok0 h hI k (by omega) h0)
    have HI2 := hide (hI.find' k)
    have HCK := hide (cfind_clk most k s hI.nd)
    have HR : Hid (cpin most k s = (ldata k (cfind most k s).2.L, 0, { (cfind most k s).2 with L := lmap k (fun x => { x with pins := x.pins + 1 }) (cfind most k s).2.L })) := by
      show cpin most k s = _
      unfold cpin
      rw [if_pos h0]
    clear h hI h0
    go_enter Tryz.func39, Tryz.ntmps39
    go_wp2_with fail
    go_at_call 66
    refine HF.out.mono ?_
    rintro e W5 ⟨tb, X', X1, XF, ME, Q, clock, x, rfl, hq5, hx5, hf5, hx, rfl⟩
    have d0 : W5.cell? ⟨x.blk, 0, none⟩ = some (.string ⟨x.data.toArray⟩) := ((hq5.rep.frm x hx).1.cell 0).trans rfl
    have HD : Hid (ldata x.key (cfind most x.key s).2.L = x.data) := by rw [← hq5.abs]; exact ldata_q hq5.rep.nd hx
    have d1 : W5.cell? ⟨x.blk, 1, none⟩ = some (.int .i64 (x.pins : Int)) := ((hq5.rep.frm x hx).1.cell 1).trans rfl
    have f1 : W5.frozen? ⟨x.blk, 1, none⟩ = false := (hq5.rep.frm x hx).1.frozen 1
    have hp1 : x.pins ≤ (cfind most x.key s).2.clk := by
      have hxl : x.abs ∈ (cfind most x.key s).2.L := by rw [← hq5.abs]; exact List.mem_map_of_mem hx
      exact HI2.out _ hxl
    have hp2 := HCK.out
    have hq6 := hq5.turn hx { x with pins := x.pins + 1 } 1 (.int .i64 ((x.pins : Int) + 1)) rfl rfl rfl rfl (by unfold CF.cells; simp) (fun y => { y with pins := y.pins + 1 }) rfl
    have d0' : (W5.setCell ⟨x.blk, 1, none⟩ (.int .i64 ((x.pins : Int) + 1))).cell? ⟨x.blk, 0, none⟩ = some (.string ⟨x.data.toArray⟩) := (((hq5.rep.frm x hx).1.set_ 1 (.int .i64 ((x.pins : Int) + 1))).cell 0).trans rfl
    have hfx := hf5.setCell (p := ⟨x.blk, 1, none⟩) (hx5 _ (hq5.x1 _ (hq5.rep.frm x hx).2.1)) (.int .i64 ((x.pins : Int) + 1))
    have hw1 : IntKind.i64.wrap ((x.pins : Int) + 1) = (x.pins : Int) + 1 := by simp only [IntKind.wrap, IntKind.bits, IntKind.signed]; simp; omega
    have H5 := hide (And.intro hq6.at (And.intro hx5 hfx))
    clear hq5 hx5 hf5 hx hq6 hfx HI2 HCK
    go_wp2
    go_ret2
    rw [HR.out]
    exact ⟨by rw [HD.out]; rfl, ⟨X', H5.out.1, H5.out.2.1⟩, H5.out.2.2⟩
  · have HF := hide (cfind_oke h hI k h0)
    have HR : Hid (cpin most k s = ([], (cfind most k s).1, (cfind most k s).2)) := by
      show cpin most k s = _
      unfold cpin
      rw [if_neg h0]
    rw [HR.out]
    clear h hI HR
    obtain ⟨r, hr⟩ : ∃ r, cfind most k s = r := ⟨_, rfl⟩
    rw [hr] at HF h0
    rw [hr]
    obtain ⟨z, hz⟩ : ∃ z, r.1 = z := ⟨_, rfl⟩
    rw [hz] at HF h0
    rw [hz]
    have b0 : (z == 0) = false := by simpa using h0
    have b1 : (z != 0) = true := by simpa using h0
    clear hr hz h0
    go_enter Tryz.func39, Tryz.ntmps39
    go_wp2_with fail
    go_at_call 66
    refine HF.out.mono ?_
    rintro e W5 ⟨rfl, hq5, hf5⟩
    have H5 := hide (And.intro hq5 hf5)
    clear hq5 hf5
    go_wp2
    go_ret2
    exact ⟨rfl, H5.out⟩
theorem clen_ok (h : CAt w cb fb X room most s) : Calls Tryz.prog 21 #[.pointer (some ⟨cb, 0, none⟩)] w fun e w' => e = .returned (.int .i64 (s.L.length : Int)) ∧ w = w' := by
  have HN := hide (cnone_ok h)
  obtain ⟨tb, X1, XF, ME, Q, clock, h⟩ := h.q
  have c2 : w.cell? ⟨cb, 2, none⟩ = some (.map (some tb)) := (h.rep.blk.cell 2).trans rfl
  have hlen : ∀ ty, (Builtin.len_ #[59] ty #[.map (some tb)]).run Tryz.prog w = .ok (.int .i64 (s.L.length : Int)) w := fun ty => by
    rw [← h.abs, List.length_map, ← h.rep.len]; exact len_ok (P := Tryz.prog) mapc h.rep.map ty
  clear h
  go_enter Tryz.func21, Tryz.ntmps21
  go_wp2_with fail
  go_at_call 61
  refine HN.out.mono ?_
  rintro e w1 ⟨rfl, rfl⟩
  go_wp2
  go_ret
  exact ⟨rfl, rfl⟩
theorem chas_ok (h : CAt w cb fb X room most s) (k : CKey) : Calls Tryz.prog 31 #[.pointer (some ⟨cb, 0, none⟩), .string ⟨k.1.toArray⟩, .int .i64 k.2] w fun e w' => e = .returned (.bool (lget k s.L).isSome) ∧ w = w' := by
  have HN := hide (cnone_ok h)
  obtain ⟨tb, X1, XF, ME, Q, clock, h⟩ := h.q
  have c2 : w.cell? ⟨cb, 2, none⟩ = some (.map (some tb)) := (h.rep.blk.cell 2).trans rfl
  have hlk := lookup_ok (P := Tryz.prog) key_ck mapc framep_zero h.rep.map k
  have hlk2 : (Instr.lookup 59 (.map (some tb)) (.agg #[.string ⟨k.1.toArray⟩, .int .i64 k.2]) true).run Tryz.prog w = .ok (.tuple #[((aget k ME).getD (.pointer none)), .bool (lget k s.L).isSome]) w := by
    have e : (aget k ME).isSome = (lget k s.L).isSome := by
      rw [← h.abs, abs_find]
      rcases key_cases Q k with ⟨x, hx, rfl⟩ | hno
      · rw [h.rep.get_some hx, find_key h.rep.nd hx]; rfl
      · rw [h.rep.get_none hno, List.find?_eq_none.2 (by simpa using hno)]; rfl
    rw [← e]
    exact hlk
  clear h hlk
  go_enter Tryz.func31, Tryz.ntmps31
  go_wp2_with fail
  go_at_call 61
  refine HN.out.mono ?_
  rintro e w1 ⟨rfl, rfl⟩
  go_wp2
  go_ret
  exact ⟨rfl, rfl⟩
theorem cunpin_ok (h : CAt w cb fb X room most s) (hI : CInv room most s) (k : CKey) (hc : s.clk ≤ 9223372036854775806) : Calls Tryz.prog 40 #[.pointer (some ⟨cb, 0, none⟩), .string ⟨k.1.toArray⟩, .int .i64 k.2] w fun e w' => e = .returned (.int .i64 (cunpin k s).1) ∧ CAt w' cb fb X room most (cunpin k s).2 ∧ Fr X w w' := by
  have HN := hide (cnone_ok h)
  obtain ⟨tb, X1, XF, ME, Q, clock, h⟩ := h.q
  have c2 : w.cell? ⟨cb, 2, none⟩ = some (.map (some tb)) := (h.rep.blk.cell 2).trans rfl
  have hlk := lookup_ok (P := Tryz.prog) key_ck mapc framep_zero h.rep.map k
  rcases key_cases Q k with ⟨x, hx, rfl⟩ | hno
  · have hg : lget x.key s.L = some x.abs := by rw [← h.abs, abs_find, find_key h.rep.nd hx]; rfl
    rw [h.rep.get_some hx] at hlk
    have hlk2 : (Instr.lookup 59 (.map (some tb)) (.agg #[.string ⟨x.key.1.toArray⟩, .int .i64 x.key.2]) true).run Tryz.prog w = .ok (.tuple #[.pointer (some ⟨x.blk, 0, none⟩), .bool true]) w := hlk
    have hfx := h.rep.frm x hx
    have d1 : w.cell? ⟨x.blk, 1, none⟩ = some (.int .i64 (x.pins : Int)) := (hfx.1.cell 1).trans rfl
    have f1 : w.frozen? ⟨x.blk, 1, none⟩ = false := hfx.1.frozen 1
    have HP : Hid (x.pins ≤ s.clk) := hI.pin x.abs (by rw [← h.abs]; exact List.mem_map_of_mem hx)
    by_cases hz : x.pins = 0
    · have b0 : ((x.pins : Int) == 0) = true := by rw [hz]; rfl
      have HR : Hid (cunpin x.key s = (4, s)) := by
        show cunpin x.key s = _
        unfold cunpin
        rw [hg]
        simp only
        rw [if_pos (show x.abs.pins = 0 from hz)]
      have HA := hide h.at
      clear h hlk hfx hz hg hx
      go_enter Tryz.func40, Tryz.ntmps40
      go_wp2_with fail
      go_at_call 61
      refine HN.out.mono ?_
      rintro e w1 ⟨rfl, rfl⟩
      go_wp2
      go_ret
      rw [HR.out]
      exact ⟨rfl, HA.out, Fr.refl _ _⟩
    · have b0 : ((x.pins : Int) == 0) = false := by simp; omega
      have HR : Hid (cunpin x.key s = (0, { s with L := lmap x.key (fun x => { x with pins := x.pins - 1 }) s.L })) := by
        show cunpin x.key s = _
        unfold cunpin
        rw [hg]
        simp only
        rw [if_neg (show ¬ x.abs.pins = 0 from hz)]
      have hq6 := h.turn hx { x with pins := x.pins - 1 } 1 (.int .i64 ((x.pins : Int) - 1)) rfl rfl rfl rfl (by unfold CF.cells; simp; omega) (fun y => { y with pins := y.pins - 1 }) rfl
      have HA := hide (And.intro hq6.at (show Fr X w _ from (Fr.refl X w).setCell (p := ⟨x.blk, 1, none⟩) (.inl (h.x1 _ hfx.2.1)) (.int .i64 ((x.pins : Int) - 1))))
      have hw1 : IntKind.i64.wrap ((x.pins : Int) - 1) = (x.pins : Int) - 1 := by have := HP.out; simp only [IntKind.wrap, IntKind.bits, IntKind.signed]; simp; omega
      clear h hlk hfx hz hg hx hq6 HP
      go_enter Tryz.func40, Tryz.ntmps40
      go_wp2_with fail
      go_at_call 61
      refine HN.out.mono ?_
      rintro e w1 ⟨rfl, rfl⟩
      go_wp2
      go_ret
      rw [HR.out]
      exact ⟨rfl, HA.out.1, HA.out.2⟩
  · have hg : lget k s.L = none := by rw [← h.abs, abs_find, List.find?_eq_none.2 (by simpa using hno)]; rfl
    rw [h.rep.get_none hno] at hlk
    have hlk2 : (Instr.lookup 59 (.map (some tb)) (.agg #[.string ⟨k.1.toArray⟩, .int .i64 k.2]) true).run Tryz.prog w = .ok (.tuple #[.pointer none, .bool false]) w := hlk
    have HR : Hid (cunpin k s = (4, s)) := by
      show cunpin k s = _
      unfold cunpin
      rw [hg]
    have HA := hide h.at
    clear h hlk hg hno
    go_enter Tryz.func40, Tryz.ntmps40
    go_wp2_with fail
    go_at_call 61
    refine HN.out.mono ?_
    rintro e w1 ⟨rfl, rfl⟩
    go_wp2
    go_ret
    rw [HR.out]
    exact ⟨rfl, HA.out, Fr.refl _ _⟩
theorem cnew_ok {left : Int} {XF : Nat → Prop} (h : FSAt w fb XF room left F) (most : Nat) (h1 : 1 ≤ most) (h2 : most ≤ 64) : Calls Tryz.prog 26 #[.pointer (some ⟨fb, 0, none⟩), .int .i64 (most : Int)] w fun e w' => ∃ cb X, e = .returned (.tuple #[.pointer (some ⟨cb, 0, none⟩), .int .i64 0]) ∧ CAt w' cb fb X room most ⟨left, F, [], 0⟩ ∧ (∀ j, X j → XF j ∨ w.heap.size ≤ j) ∧ (∀ j, XF j → X j) ∧ w.heap.size ≤ cb ∧ Fr (fun _ => False) w w' := by
  have hmm := @run_makeMap Tryz.prog
  have HH := hide h
  have b1 : ¬ ((most : Int) < 1) := by omega
  have b2 : ¬ ((64 : Int) < (most : Int)) := by omega
  clear h h1 h2
  go_enter Tryz.func26, Tryz.ntmps26
  go_wp2
  go_ret2
  have F1 : Fr (fun _ => False) w (w.alloc (.map #[] 0)) := (Fr.refl _ _).alloc _
  have F2 := F1.alloc (.cells #[.pointer (some ⟨fb, 0, none⟩), .int .i64 (most : Int), .map (some w.heap.size), .int .i64 0] 66)
  have hlt := HH.out.lt
  refine ⟨w.heap.size + 1, by simp, fun k => (k = w.heap.size ∨ k = w.heap.size + 1) ∨ XF k, ⟨w.heap.size, fun k => k = w.heap.size ∨ k = w.heap.size + 1, XF, [], [], 0, ?_, ⟨by simp, by simp⟩, rfl, fun k hk => .inl hk, fun k hk => .inr hk, fun k hk => hk⟩, fun k hk => ?_, fun k hk => .inr hk, by omega, F2⟩
  · refine ⟨fun k hk => by simp; omega, .inr rfl, .inl rfl, by omega, fun k hk hx => by have := hlt k hx; omega, ?_, HH.out.up F2, ?_, by simp, by simp, by simp, by simp, by simp, by simp⟩
    · have := Blk.new (w.alloc (.map #[] 0)) 66 #[.pointer (some ⟨fb, 0, none⟩), .int .i64 (most : Int), .map (some w.heap.size), .int .i64 0]
      simpa [ccells, ptr] using this
    · unfold MBlk
      have h0 : (w.alloc (.map #[] 0)).heap[w.heap.size]? = some (.map #[] 0) := heap_alloc_new w _
      rw [heap_alloc_old _ _ (by simp), h0]
      rfl
  · rcases hk with hk | hk
    · exact .inr (by omega)
    · exact .inl hk
end
end Go.Proofs.YtkhbemmcegmdaaaGreatDoor
