/- A FILE SYSTEM, by contract: what it is in memory; none, page, Pages, there, Read, Fail, New. -/
import Derived.Test.YtkhbemmcegmdaaaGreatDoorMp
import Derived.Test.YtkhbemmcegmdaaaGreatDoorPgSplit
set_option linter.all false
set_option linter.unusedVariables false
set_option maxRecDepth 100000
namespace Go.Proofs.YtkhbemmcegmdaaaGreatDoor
open Go.RowKit
open Go.ChangeMaps (setBlock)

abbrev Name := List UInt8
abbrev FileL := List (Name × List (List UInt8))
/-- a file's pages -/
def fpg (n : Name) : FileL → List (List UInt8)
  | [] => []
  | p :: F => if n = p.1 then p.2 else fpg n F
structure FSRep (w : World) (fb mb : Nat) (X : Nat → Prop) (room left : Int) (F : FileL) (L : List (Ent Name)) (clock : Nat) : Prop where
  lt : ∀ k, X k → k < w.heap.size
  xf : X fb
  xm : X mb
  ne : fb ≠ mb
  blk : Blk w fb 125 #[.int .i64 room, .int .i64 left, .map (some mb)]
  map : MBlk w mb strk L clock
  nd : (F.map (·.1)).Nodup
  bnd : (L.map (·.2.2)).Nodup
  bclk : ∀ x ∈ L, x.2.2 < clock
  len : L.length = F.length
  row : ∀ (i : Nat) (x : Ent Name) (p : Name × List (List UInt8)), L[i]? = some x → F[i]? = some p → x.1 = p.1 ∧ p.2 ≠ [] ∧ w.ownsRow 0 9 1 x.2.1 p.2.length (p.2.map strv) ∧ ∀ b, x.2.1.ownBlock = some b → X b ∧ b ≠ fb ∧ b ≠ mb
  dis : ∀ (i j : Nat) (x y : Ent Name), i ≠ j → L[i]? = some x → L[j]? = some y → x.2.1.ownBlock = none ∨ x.2.1.ownBlock ≠ y.2.1.ownBlock
/-- a file system in block fb; X: the blocks that it takes -/
def FSAt (w : World) (fb : Nat) (X : Nat → Prop) (room left : Int) (F : FileL) : Prop := ∃ mb L clock, FSRep w fb mb X room left F L clock
section
variable {w w' : World} {fb mb clock : Nat} {X S : Nat → Prop} {room left : Int} {F : FileL} {L : List (Ent Name)}
theorem FSRep.fr (h : FSRep w fb mb X room left F L clock) (hf : Fr S w w') (hs : ∀ k, X k → ¬ S k) : FSRep w' fb mb X room left F L clock :=
  { h with
    lt := fun k hk => Nat.lt_of_lt_of_le (h.lt k hk) hf.size
    blk := h.blk.fr hf (hs _ h.xf)
    map := h.map.fr hf (hs _ h.xm)
    row := fun i x p hx hp => by
      obtain ⟨h1, h2, h3, h4⟩ := h.row i x p hx hp
      exact ⟨h1, h2, own_fr h3 hf (fun k hk => hs k (h4 k hk).1), h4⟩ }
theorem FSAt.fr (h : FSAt w fb X room left F) (hf : Fr S w w') (hs : ∀ k, X k → ¬ S k) : FSAt w' fb X room left F := by
  obtain ⟨mb, L, clock, h⟩ := h
  exact ⟨mb, L, clock, h.fr hf hs⟩
theorem FSAt.up (h : FSAt w fb X room left F) (hf : Fr (fun _ => False) w w') : FSAt w' fb X room left F := h.fr hf (fun _ _ h => h)
theorem FSAt.lt (h : FSAt w fb X room left F) : ∀ k, X k → k < w.heap.size := by
  obtain ⟨_, _, _, h⟩ := h
  exact h.lt
theorem get_lists (n : Name) : ∀ (L : List (Ent Name)) (F : FileL), L.length = F.length → (∀ (i : Nat) (x : Ent Name) (p : Name × List (List UInt8)), L[i]? = some x → F[i]? = some p → x.1 = p.1) →
    (∃ (i : Nat) (x : Ent Name) (p : Name × List (List UInt8)), L[i]? = some x ∧ F[i]? = some p ∧ x.1 = n ∧ aget n L = some x.2.1 ∧ fpg n F = p.2) ∨ (aget n L = none ∧ fpg n F = [] ∧ n ∉ F.map (·.1))
  | [], [], _, _ => .inr ⟨rfl, rfl, by simp⟩
  | x :: L, p :: F, hl, hk => by
    have h0 := hk 0 x p rfl rfl
    by_cases hn : n = x.1
    · exact .inl ⟨0, x, p, rfl, rfl, hn.symm, by simp [aget, hn], by simp [fpg, hn, h0]⟩
    · have hn2 : ¬ n = p.1 := by rw [← h0]; exact hn
      rcases get_lists n L F (by simpa using hl) (fun i y q hy hq => hk (i + 1) y q (by simpa using hy) (by simpa using hq)) with ⟨i, y, q, h1, h2, h3, h4, h5⟩ | ⟨h1, h2, h3⟩
      · exact .inl ⟨i + 1, y, q, by simpa using h1, by simpa using h2, h3, by simp [aget, hn, h4], by simp [fpg, hn2, h5]⟩
      · exact .inr ⟨by simp [aget, hn, h1], by simp [fpg, hn2, h2], by simp only [List.map_cons, List.mem_cons, not_or]; exact ⟨hn2, h3⟩⟩
theorem FSRep.get (h : FSRep w fb mb X room left F L clock) (n : Name) : (∃ (i : Nat) (x : Ent Name) (p : Name × List (List UInt8)), L[i]? = some x ∧ F[i]? = some p ∧ x.1 = n ∧ aget n L = some x.2.1 ∧ fpg n F = p.2) ∨ (aget n L = none ∧ fpg n F = [] ∧ n ∉ F.map (·.1)) :=
  get_lists n L F h.len (fun i x p hx hp => (h.row i x p hx hp).1)
end
theorem mapf : Tryz.prog.underlying 123 = some (.map 9 116) := Tryz.underlying123
theorem strs_zero (w : World) : (zeroValue 116).run Tryz.prog w = .ok (.slice none 0 0) w := by simp [Tryz.zeroValue116]
theorem str_under : Tryz.prog.underlying 9 = some .string := Tryz.underlying9
section
variable {w w' : World} {fb mb clock : Nat} {X S : Nat → Prop} {room left : Int} {F : FileL} {L : List (Ent Name)}
/-- a file looked up: a slice that reads as its pages -/
theorem FSRep.look (h : FSRep w fb mb X room left F L clock) (n : Name) : ∃ A c, (∀ w', MBlk w' mb strk L clock → (Instr.lookup 123 (.map (some mb)) (.string ⟨n.toArray⟩) false).run Tryz.prog w' = .ok (.slice A (fpg n F).length c) w') ∧
    Reads w w.heap.size 1 A (fpg n F).length ((fpg n F).map strv) := by
  rcases h.get n with ⟨i, x, p, hx, hp, hxn, hg, hf⟩ | ⟨hg, hf, _⟩
  · obtain ⟨_, _, h3, _⟩ := h.row i x p hx hp
    obtain ⟨A, c, hv⟩ := Reads.own_val h3
    refine ⟨A, c, fun w' hm => ?_, ?_⟩
    · have := lookup_v (P := Tryz.prog) (key_string str_under) mapf strs_zero hm n
      rw [hg] at this
      rw [hf, ← hv]
      exact this
    · rw [hf]
      rw [hv] at h3
      exact Reads.of_own h3
  · refine ⟨none, 0, fun w' hm => ?_, ?_⟩
    · have := lookup_v (P := Tryz.prog) (key_string str_under) mapf strs_zero hm n
      rw [hg] at this
      rw [hf]
      exact this
    · rw [hf]
      exact ⟨by simp, fun h => by simp at h⟩
end
theorem eql_map_nil {P : Program} {t k e : TypeId} (ht : P.underlying t = some (.map k e)) (mb : Nat) (w : World) : (binOp .eql t (.map (some mb)) (.map none)).run P w = .ok (.bool false) w := by
  have h : ∀ d : Nat, (Op.equalIn (d + 1) t (.map (some mb)) (.map none)).run P w = .ok false w := fun d => by simp [Op.equalIn, run_underlying ht]
  simp only [binOp]
  simp [Op.equal, Op.maxDepth, h 9999]
def ptr (b : Nat) : Value := .pointer (some ⟨b, 0, none⟩)
section
variable {w : World} {fb : Nat} {X : Nat → Prop} {room left : Int} {F : FileL}
theorem fnone_ok (h : FSAt w fb X room left F) : Calls Tryz.prog 62 #[.pointer (some ⟨fb, 0, none⟩)] w fun e w' => e = .returned (.bool false) ∧ w = w' := by
  obtain ⟨mb, L, clock, h⟩ := h
  have c2 := (h.blk.cell 2).trans rfl
  have hnz := fun w => eql_map_nil (P := Tryz.prog) mapf mb w
  clear h
  go_enter Tryz.func62, Tryz.ntmps62
  go_wp2
  go_ret
  exact ⟨rfl, rfl⟩
theorem fpages_ok (h : FSAt w fb X room left F) (n : Name) : Calls Tryz.prog 43 #[.pointer (some ⟨fb, 0, none⟩), .string ⟨n.toArray⟩] w fun e w' => e = .returned (.int .i64 ((fpg n F).length : Int)) ∧ w = w' := by
  have HN := hide (fnone_ok h)
  obtain ⟨mb, L, clock, h⟩ := h
  have c2 := (h.blk.cell 2).trans rfl
  obtain ⟨A, c, hl, _⟩ := h.look n
  have hlk := hl w h.map
  clear h hl
  go_enter Tryz.func43, Tryz.ntmps43
  go_wp2_with fail
  go_at_call 62
  refine HN.out.mono ?_
  rintro e w1 ⟨rfl, rfl⟩
  go_wp2
  go_ret
  exact ⟨rfl, rfl⟩
theorem fpage_ok (s : List UInt8) (hs : s.length ≤ 9223372036854775807) (w : World) : Calls Tryz.prog 64 #[.string ⟨s.toArray⟩] w fun e w' => e = .returned (.bool (decide (s.length = 128))) ∧ w = w' := by
  go_enter Tryz.func64, Tryz.ntmps64
  go_wp2
  go_ret
  exact ⟨by rw [show ((s.length : Int) == 128) = decide (s.length = 128) by rw [Bool.eq_iff_iff]; simp; omega]; rfl, rfl⟩
theorem fthere_ok (h : FSAt w fb X room left F) (n : Name) (i : Int) : Calls Tryz.prog 82 #[.pointer (some ⟨fb, 0, none⟩), .string ⟨n.toArray⟩, .int .i64 i] w fun e w' => e = .returned (.int .i64 (if 0 ≤ i ∧ i < ((fpg n F).length : Int) then 0 else 4)) ∧ w = w' := by
  have HN := hide (fnone_ok h)
  obtain ⟨mb, L, clock, h⟩ := h
  have c2 := (h.blk.cell 2).trans rfl
  obtain ⟨A, c, hl, _⟩ := h.look n
  have hlk := hl w h.map
  clear h hl
  generalize (fpg n F).length = m at *
  by_cases h0 : i < 0
  · have e : (if 0 ≤ i ∧ i < (m : Int) then (0 : Int) else 4) = 4 := if_neg (by omega)
    rw [e]
    go_enter Tryz.func82, Tryz.ntmps82
    go_wp2_with fail
    go_at_call 62
    refine HN.out.mono ?_
    rintro e w1 ⟨rfl, rfl⟩
    go_wp2
    go_ret
    exact ⟨rfl, rfl⟩
  · by_cases h1 : (m : Int) ≤ i
    · have e : (if 0 ≤ i ∧ i < (m : Int) then (0 : Int) else 4) = 4 := if_neg (by omega)
      rw [e]
      go_enter Tryz.func82, Tryz.ntmps82
      go_wp2_with fail
      go_at_call 62
      refine HN.out.mono ?_
      rintro e w1 ⟨rfl, rfl⟩
      go_wp2
      go_ret
      exact ⟨rfl, rfl⟩
    · have e : (if 0 ≤ i ∧ i < (m : Int) then (0 : Int) else 4) = 0 := if_pos (by omega)
      rw [e]
      go_enter Tryz.func82, Tryz.ntmps82
      go_wp2_with fail
      go_at_call 62
      refine HN.out.mono ?_
      rintro e w1 ⟨rfl, rfl⟩
      go_wp2
      go_ret
      exact ⟨rfl, rfl⟩
end
section
variable {w : World} {fb mb clock : Nat} {X : Nat → Prop} {room left : Int} {F : FileL} {L : List (Ent Name)}
/-- the count of reads turned -/
theorem FSRep.setLeft (h : FSRep w fb mb X room left F L clock) (z : Int) : FSRep (w.setCell ⟨fb, 1, none⟩ (.int .i64 z)) fb mb X room z F L clock := by
  have hf := Fr.one w fb 1 (.int .i64 z)
  exact { h with
    lt := fun k hk => Nat.lt_of_lt_of_le (h.lt k hk) hf.size
    blk := h.blk.set_ 1 _
    map := h.map.fr hf (Ne.symm h.ne)
    row := fun i x p hx hp => by
      obtain ⟨h1, h2, h3, h4⟩ := h.row i x p hx hp
      exact ⟨h1, h2, own_fr h3 hf (fun k hk => (h4 k hk).2.1), h4⟩ }
theorem ffail_ok (h : FSAt w fb X room left F) (n : Int) (hn : 0 ≤ n) : Calls Tryz.prog 22 #[.pointer (some ⟨fb, 0, none⟩), .int .i64 n] w fun e w' => e = .returned (.int .i64 0) ∧ FSAt w' fb X room n F ∧ Fr X w w' := by
  have HN := hide (fnone_ok h)
  obtain ⟨mb, L, clock, h⟩ := h
  have c1 := (h.blk.cell 1).trans rfl
  have f1 := h.blk.frozen 1
  have HS := hide (h.setLeft n)
  have HF := hide ((Fr.one w fb 1 (.int .i64 n)).mono (S' := X) (fun k hk => by rw [hk]; exact h.xf))
  have hn2 : ¬ n < 0 := by omega
  clear h
  go_enter Tryz.func22, Tryz.ntmps22
  go_wp2_with fail
  go_at_call 62
  refine HN.out.mono ?_
  rintro e w1 ⟨rfl, rfl⟩
  go_wp2
  go_ret
  exact ⟨rfl, ⟨mb, L, clock, HS.out⟩, HF.out⟩
theorem ffail_bad (h : FSAt w fb X room left F) (n : Int) (hn : n < 0) : Calls Tryz.prog 22 #[.pointer (some ⟨fb, 0, none⟩), .int .i64 n] w fun e w' => e = .returned (.int .i64 2) ∧ w = w' := by
  have HN := hide (fnone_ok h)
  clear h
  go_enter Tryz.func22, Tryz.ntmps22
  go_wp2_with fail
  go_at_call 62
  refine HN.out.mono ?_
  rintro e w1 ⟨rfl, rfl⟩
  go_wp2
  go_ret
  exact ⟨rfl, rfl⟩
/-- what a read comes to -/
def rdLeft (left : Int) : Int := if left = -1 then -1 else left - 1
theorem fread_none (h : FSAt w fb X room left F) (n : Name) (i : Int) (hi : ¬ (0 ≤ i ∧ i < ((fpg n F).length : Int))) : Calls Tryz.prog 36 #[.pointer (some ⟨fb, 0, none⟩), .string ⟨n.toArray⟩, .int .i64 i] w fun e w' => e = .returned (.tuple #[.string ⟨#[]⟩, .int .i64 4]) ∧ w = w' := by
  have HT := hide (fthere_ok h n i)
  rw [if_neg hi] at HT
  clear h hi
  go_enter Tryz.func36, Tryz.ntmps36
  go_wp2_with fail
  go_at_call 82
  refine HT.out.mono ?_
  rintro e w1 ⟨rfl, rfl⟩
  go_wp2
  go_ret2
  exact ⟨rfl, rfl⟩
theorem fread_ok (h : FSAt w fb X room left F) (n : Name) (i : Nat) (hi : i < (fpg n F).length) (hl : -1 ≤ left ∧ left ≤ 9223372036854775807) : Calls Tryz.prog 36 #[.pointer (some ⟨fb, 0, none⟩), .string ⟨n.toArray⟩, .int .i64 (i : Int)] w fun e w' =>
    e = .returned (if left = 0 then .tuple #[.string ⟨#[]⟩, .int .i64 60] else .tuple #[.string ⟨((fpg n F).getD i []).toArray⟩, .int .i64 0]) ∧ FSAt w' fb X room (rdLeft left) F ∧ Fr X w w' := by
  have HT := hide (fthere_ok h n (i : Int))
  rw [if_pos (by omega)] at HT
  obtain ⟨mb, L, clock, h⟩ := h
  have c1 := (h.blk.cell 1).trans rfl
  have f1 := h.blk.frozen 1
  have HH := hide h
  have hgi : (fpg n F).getD i [] = (fpg n F)[i] := by simp [List.getD, hi]
  by_cases hm : left = -1
  · subst hm
    have c2 := (h.blk.cell 2).trans rfl
    obtain ⟨A, c, hl2, hr⟩ := h.look n
    have hlk := hl2 w h.map
    obtain ⟨b2, o2, e, hb2, hc⟩ := hr.2 (by omega)
    have hcc := hc i (strv (fpg n F)[i]) (by rw [List.getElem?_map, List.getElem?_eq_getElem hi]; rfl)
    subst e
    unfold strv at hcc
    rw [← hgi] at hcc
    clear hgi
    clear hr hl2 hc
    generalize (fpg n F).getD i [] = pg at *
    generalize (fpg n F).length = m at *
    have g0 : (0 : Int) ≤ (i : Int) := by omega
    have g1 : (i : Int) < (m : Int) := by omega
    clear h
    go_enter Tryz.func36, Tryz.ntmps36
    go_wp2_with fail
    go_at_call 82
    refine HT.out.mono ?_
    rintro e w1 ⟨rfl, rfl⟩
    go_wp2
    go_ret2
    exact ⟨rfl, ⟨mb, L, clock, HH.out⟩, Fr.refl _ _⟩
  · have HF := hide ((Fr.one w fb 1 (.int .i64 (left - 1))).mono (S' := X) (fun k hk => by rw [hk]; exact h.xf))
    have HS := hide (h.setLeft (left - 1))
    have hr : rdLeft left = left - 1 := if_neg hm
    have HRD := hide hr
    have cS := (HS.out.blk.cell 1).trans rfl
    have c2 := (HS.out.blk.cell 2).trans rfl
    obtain ⟨A, c, hl2, hr⟩ := HS.out.look n
    have hlk := hl2 _ HS.out.map
    obtain ⟨b2, o2, e, hb2, hc⟩ := hr.2 (by omega)
    have hcc := hc i (strv (fpg n F)[i]) (by rw [List.getElem?_map, List.getElem?_eq_getElem hi]; rfl)
    subst e
    unfold strv at hcc
    rw [← hgi] at hcc
    clear hgi
    clear hr hl2 hc
    generalize (fpg n F).getD i [] = pg at *
    generalize (fpg n F).length = m at *
    have g0 : (0 : Int) ≤ (i : Int) := by omega
    have g1 : (i : Int) < (m : Int) := by omega
    have g2 : IntKind.i64.wrap (left - 1) = left - 1 := by simp only [IntKind.wrap, IntKind.bits, IntKind.signed]; simp; omega
    clear h
    by_cases hz : left = 0
    · subst hz
      go_enter Tryz.func36, Tryz.ntmps36
      go_wp2_with fail
      go_at_call 82
      refine HT.out.mono ?_
      rintro e w1 ⟨rfl, rfl⟩
      go_wp2
      go_ret2
      exact ⟨rfl, ⟨mb, L, clock, by first | (rw [HRD.out]; exact HS.out) | exact HS.out⟩, HF.out⟩
    · rw [if_neg hz]
      have hz2 : ¬ (left - 1 = -1) := by omega
      go_enter Tryz.func36, Tryz.ntmps36
      go_wp2_with fail
      go_at_call 82
      refine HT.out.mono ?_
      rintro e w1 ⟨rfl, rfl⟩
      go_wp2
      go_ret2
      exact ⟨rfl, ⟨mb, L, clock, by first | (rw [HRD.out]; exact HS.out) | exact HS.out⟩, HF.out⟩
end
theorem fnew_ok (n : Nat) (h1 : 1 ≤ n) (h2 : n ≤ 4096) (w : World) : Calls Tryz.prog 24 #[.int .i64 (n : Int)] w fun e w' => ∃ fb X, e = .returned (.tuple #[.pointer (some ⟨fb, 0, none⟩), .int .i64 0]) ∧ FSAt w' fb X (n : Int) (-1) [] ∧ (∀ k, X k → w.heap.size ≤ k) ∧ Fr (fun _ => False) w w' := by
  have hmm := @run_makeMap Tryz.prog
  go_enter Tryz.func24, Tryz.ntmps24
  go_wp2
  go_ret2
  have F1 : Fr (fun _ => False) w (w.alloc (.map #[] 0)) := (Fr.refl _ _).alloc _
  have F2 := F1.alloc (.cells #[.int .i64 (n : Int), .int .i64 (-1), .map (some w.heap.size)] 125)
  refine ⟨w.heap.size + 1, fun k => k = w.heap.size ∨ k = w.heap.size + 1, by simp, ⟨w.heap.size, [], 0, ?_⟩, fun k hk => by omega, F2⟩
  refine ⟨fun k hk => by simp; omega, .inr rfl, .inl rfl, by omega, ?_, ?_, by simp, by simp, by simp, rfl, fun i x p hx => by simp at hx, fun i j x y _ hx => by simp at hx⟩
  · have := Blk.new (w.alloc (.map #[] 0)) 125 #[.int .i64 (n : Int), .int .i64 (-1), .map (some w.heap.size)]
    simpa using this
  · unfold MBlk
    have h0 : (w.alloc (.map #[] 0)).heap[w.heap.size]? = some (.map #[] 0) := heap_alloc_new w _
    rw [heap_alloc_old _ _ (by simp), h0]
    rfl
end Go.Proofs.YtkhbemmcegmdaaaGreatDoor
