/- A cache's Pinned, Drop, by contract. -/
import Derived.Test.YtkhbemmcegmdaaaGreatDoorCi
set_option linter.all false
set_option linter.unusedVariables false
set_option maxRecDepth 100000
namespace Go.Proofs.YtkhbemmcegmdaaaGreatDoor
open Go.RowKit
open Go.ChangeMaps (setBlock)

/-- what a step of a range hands out -/
theorem next_q {wr : World} {r tb clock c0 : Nat} {seen : Array Nat} {ME : List (Ent CKey)} {Q : List CF} (hit : wr.heap[r]? = some (.mapIter (some tb) clock seen c0)) (hm : MBlk wr tb ckey ME clock) (hp : ME.Perm (Q.map CF.ent)) (hbc : ∀ x ∈ Q, x.born < clock) (hbn : (Q.map (·.born)).Nodup) (hc0 : clock ≤ c0) (hrt : r ≠ tb) :
    ((∀ y ∈ Q, seen.contains y.born = true) ∧ ∀ ty, (Instr.next (.pointer (some ⟨r, 0, none⟩)) false ty).run Tryz.prog wr = .ok (.tuple #[.bool false]) wr) ∨
    ∃ (x : CF) (W5 : World), x ∈ Q ∧ seen.contains x.born = false ∧ W5.heap[r]? = some (.mapIter (some tb) clock (seen.push x.born) clock) ∧ Fr (fun k => k = r) wr W5 ∧
      (∀ ty, (Instr.next (.pointer (some ⟨r, 0, none⟩)) false ty).run Tryz.prog wr = .ok (.tuple #[.bool true, .agg #[.string ⟨x.key.1.toArray⟩, .int .i64 x.key.2], .pointer (some ⟨x.blk, 0, none⟩)]) W5) ∧
      (Instr.entry (.pointer (some ⟨r, 0, none⟩))).run Tryz.prog W5 = .ok (.tuple #[.agg #[.string ⟨x.key.1.toArray⟩, .int .i64 x.key.2], .pointer (some ⟨x.blk, 0, none⟩)]) W5 ∧
      (leftOf (ME.map (ent ckey)).toArray (seen.push x.born)).size < (leftOf (ME.map (ent ckey)).toArray seen).size := by
  have hold : ∀ x ∈ (ME.map (ent ckey)).toArray.toList, x.born < clock := fun x hx => by
    rw [List.toList_toArray] at hx
    obtain ⟨y, hy, rfl⟩ := List.mem_map.1 hx
    obtain ⟨z, hz, rfl⟩ := List.mem_map.1 (hp.subset hy)
    exact hbc z hz
  have hnext := fun ty => run_next_at (P := Tryz.prog) wr ty r tb clock c0 seen _ clock hit hm hold hc0
  have hborn : ((ME.map (ent ckey)).toArray.toList.map (·.born)).Nodup := by
    rw [List.toList_toArray, List.map_map]
    have := (hp.map (fun x : Ent CKey => x.2.2)).nodup_iff
    refine this.2 ?_
    rw [List.map_map]
    exact hbn
  by_cases hz : (leftOf (ME.map (ent ckey)).toArray seen).size = 0
  · refine .inl ⟨left_none hp hz, fun ty => ?_⟩
    rcases hnext ty with ⟨_, h⟩ | ⟨e, he, _⟩
    · exact h
    · have h0 := Array.eq_empty_of_size_eq_zero hz
      rw [h0] at he
      simp at he
  · rcases hnext 0 with ⟨h, _⟩ | ⟨e, he, w1, hw1, hn⟩
    · exact absurd h hz
    · have hes : e ∈ (ME.map (ent ckey)).toArray.toList ∧ seen.contains e.born = false := by
        unfold leftOf at he
        rw [Array.toList_filter] at he
        obtain ⟨h1, h2⟩ := List.mem_filter.1 he
        exact ⟨h1, by simpa using h2⟩
      obtain ⟨hem, hsn⟩ := hes
      have hless := left_less he
      have hem2 := hem
      rw [List.toList_toArray] at hem2
      obtain ⟨y, hy, rfl⟩ := List.mem_map.1 hem2
      obtain ⟨x, hx, rfl⟩ := List.mem_map.1 (hp.subset hy)
      have hw1h : w1.heap = wr.heap := by rcases hw1 with rfl | rfl <;> rfl
      have hrlt : r < wr.heap.size := (Array.getElem?_eq_some_iff.1 hit).1
      have hfr1 : Fr (fun k => k = r) wr w1 := by
        rcases hw1 with rfl | rfl
        · exact Fr.refl _ _
        · exact (Fr.refl _ _).drew
      have hfr5 := hfr1.trans (fr_setBlock w1 r (.mapIter (some tb) clock (seen.push x.born) clock)) (fun k hk => .inl hk)
      have hit5 : (setBlock w1 r (.mapIter (some tb) clock (seen.push x.born) clock)).heap[r]? = some (.mapIter (some tb) clock (seen.push x.born) clock) := by
        unfold setBlock
        simp only
        rw [Array.getElem?_setIfInBounds_self_of_lt (by rw [hw1h]; exact hrlt)]
      refine .inr ⟨x, _, hx, hsn, hit5, hfr5, fun ty => ?_, ?_, hless⟩
      · exact hn
      · exact run_entry_at (P := Tryz.prog) _ r tb clock seen _ clock (ent ckey x.ent) hit5 (hm.fr hfr5 (Ne.symm hrt)) hem hborn
theorem count_push {Q : List CF} {x : CF} {seen : Array Nat} (p : CF → Bool) (hb : (Q.map (·.born)).Nodup) (hx : x ∈ Q) (hs : seen.contains x.born = false) :
    (Q.filter fun y => (seen.push x.born).contains y.born && p y).length = (Q.filter fun y => seen.contains y.born && p y).length + if p x then 1 else 0 := by
  induction Q with
  | nil => cases hx
  | cons y Q ih =>
    rw [List.map_cons, List.nodup_cons] at hb
    have hc : ∀ z : CF, (seen.push x.born).contains z.born = (seen.contains z.born || z.born == x.born) := fun z => by
      rw [Bool.eq_iff_iff]; simp
    by_cases e : y.born = x.born
    · have hyx : y = x := by
        rcases List.mem_cons.1 hx with h | h
        · exact h.symm
        · exact absurd (by rw [e]; exact List.mem_map_of_mem h) hb.1
      subst hyx
      have hrest : (Q.filter fun z => (seen.push y.born).contains z.born && p z) = Q.filter fun z => seen.contains z.born && p z := by
        refine List.filter_congr fun z hz => ?_
        have : ¬ z.born = y.born := fun e2 => hb.1 (by rw [← e2]; exact List.mem_map_of_mem hz)
        have hb2 : (z.born == y.born) = false := by simpa using this
        rw [hc, hb2, Bool.or_false]
      by_cases hp : p y = true
      · rw [List.filter_cons_of_pos (by rw [hc]; simp [hp]), List.filter_cons_of_neg (by rw [hs]; simp), hrest, if_pos hp]; rfl
      · rw [List.filter_cons_of_neg (by simp [hp]), List.filter_cons_of_neg (by rw [hs]; simp), hrest, if_neg hp]; rfl
    · have hxQ : x ∈ Q := (List.mem_cons.1 hx).resolve_left (fun h => e (by rw [h]))
      have ih := ih hb.2 hxQ
      have hy : ((seen.push x.born).contains y.born && p y) = (seen.contains y.born && p y) := by
        have hb2 : (y.born == x.born) = false := by simpa using e
        rw [hc, hb2, Bool.or_false]
      by_cases hk : (seen.contains y.born && p y) = true
      · rw [List.filter_cons_of_pos (by rw [hy]; exact hk), List.filter_cons_of_pos (p := fun y : CF => seen.contains y.born && p y) hk, List.length_cons, List.length_cons, ih]; omega
      · rw [List.filter_cons_of_neg (by rw [hy]; exact hk), List.filter_cons_of_neg (p := fun y : CF => seen.contains y.born && p y) hk, ih]
def pinned (L : List CE) : Nat := (L.filter fun x => decide (0 < x.pins)).length
section
variable {w w1 : World} {cb fb tb clock most : Nat} {X X1 XF : Nat → Prop} {room left clk : Int} {F : FileL} {ME : List (Ent CKey)} {Q : List CF} {s : CSt}
theorem cpinned_ok (h : CAt w cb fb X room most s) (hl : s.L.length ≤ 100000) : Calls Tryz.prog 29 #[.pointer (some ⟨cb, 0, none⟩)] w fun e w' => e = .returned (.int .i64 (pinned s.L : Int)) ∧ Fr (fun _ => False) w w' := by
  have HN := hide (cnone_ok h)
  obtain ⟨tb, X1, XF, ME, Q, clock, h⟩ := h.q
  have c2 : w.cell? ⟨cb, 2, none⟩ = some (.map (some tb)) := (h.rep.blk.cell 2).trans rfl
  have hrg := run_range_map (P := Tryz.prog) w _ _ _ tb _ clock mapc h.rep.map
  have HQ := hide h
  have HL : Hid (Q.length ≤ 100000) := by have := hl; rw [← h.abs, List.length_map] at this; exact this
  clear h hl
  go_enter Tryz.func29, Tryz.ntmps29
  go_wp2_with fail
  go_at_call 61
  refine HN.out.mono ?_
  rintro e w1 ⟨rfl, rfl⟩
  go_wp2
  go_loopw [3] (fun n wr => ∃ seen c0, n = .int .i64 (((Q.filter fun y => seen.contains y.born && decide (0 < y.pins)).length : Nat) : Int) ∧ clock ≤ c0 ∧ wr.heap[w.heap.size]? = some (.mapIter (some tb) clock seen c0) ∧ Fr (fun _ => False) w wr) (fun _ wr => itLeft wr w.heap.size tb)
  case atStart =>
    refine ⟨#[], clock, ?_, Nat.le_refl _, heap_alloc_new w _, (Fr.refl _ _).alloc _⟩
    have : (Q.filter fun y => (#[] : Array Nat).contains y.born && decide (0 < y.pins)) = [] := List.filter_eq_nil_iff.2 (fun y _ => by simp)
    rw [this]
    rfl
  case round =>
    obtain ⟨seen, c0, rfl, hc0, hit, hfr⟩ := hrel
    have hm := HQ.out.rep.map.fr hfr id
    have hrt : w.heap.size ≠ tb := fun e => by have := HQ.out.rep.lt tb HQ.out.rep.xt; omega
    have HM : Hid (itLeft wr w.heap.size tb = (leftOf (ME.map (ent ckey)).toArray seen).size) := by
      show _ = _
      unfold itLeft
      rw [hit, show wr.heap[tb]? = some (.map (ME.map (ent ckey)).toArray clock) from hm]
    rcases next_q hit hm HQ.out.rep.pm HQ.out.rep.bclk HQ.out.rep.bnd hc0 hrt with ⟨hall, hnext⟩ | ⟨x, W5, hx, hsn, hit5, hf5, hnext, hentry, hless⟩
    · have HALL := hide hall
      have HFR := hide hfr
      clear hall hm hit hfr
      generalize hn : (Q.filter fun y => seen.contains y.born && decide (0 < y.pins)).length = n at *
      go_wp2
      go_ret
      refine ⟨?_, HFR.out⟩
      have : pinned s.L = n := by
        rw [← hn, ← HQ.out.abs]
        unfold pinned
        rw [List.filter_map, List.length_map]
        congr 1
        refine List.filter_congr fun y hy => ?_
        rw [HALL.out y hy]
        rfl
      rw [this]
      rfl
    · have hfx := (HQ.out.rep.frm x hx).1.fr (hfr.trans hf5 (fun k hk => .inr (by omega))) (fun h => h)
      have d1 : W5.cell? ⟨x.blk, 1, none⟩ = some (.int .i64 (x.pins : Int)) := (hfx.cell 1).trans rfl
      have hcp := count_push (fun y => decide (0 < y.pins)) HQ.out.rep.bnd hx hsn
      have hle := List.length_filter_le (fun y => seen.contains y.born && decide (0 < y.pins)) Q
      have H5 := hide (And.intro hcp (And.intro hit5 (And.intro (hfr.trans hf5 (fun k hk => .inr (by omega))) hless)))
      have HTB : Hid (W5.heap[tb]? = some (.map (ME.map (ent ckey)).toArray clock)) := hm.fr hf5 (Ne.symm hrt)
      have HLL := hide (Nat.le_trans hle HL.out)
      clear hcp hit5 hf5 hless hm hfx hle hit hfr hsn hx
      generalize (Q.filter fun y => seen.contains y.born && decide (0 < y.pins)).length = n at *
      by_cases hp : 0 < x.pins
      · have b0 : decide ((x.pins : Int) > 0) = true := by simp; omega
        have b1 : decide ((0 : Int) < (x.pins : Int)) = true := by simp; omega
        have hw1 : IntKind.i64.wrap ((n : Int) + 1) = ((n + 1 : Nat) : Int) := by have := HLL.out; simp only [IntKind.wrap, IntKind.bits, IntKind.signed]; simp; omega
        go_wp2
        go_roundw
        case rel =>
          obtain ⟨h1, h2, h3, h4⟩ := H5.out
          refine ⟨seen.push x.born, clock, ?_, Nat.le_refl _, h2, h3⟩
          rw [h1]
          simp [hp]
        case measure =>
          rw [HM.out]
          refine Nat.lt_of_le_of_lt (Nat.le_of_eq ?_) H5.out.2.2.2
          unfold itLeft
          rw [H5.out.2.1, HTB.out]
      · have b0 : decide ((x.pins : Int) > 0) = false := by simp; omega
        have b1 : decide ((0 : Int) < (x.pins : Int)) = false := by simp; omega
        go_wp2
        go_roundw
        case rel =>
          obtain ⟨h1, h2, h3, h4⟩ := H5.out
          refine ⟨seen.push x.born, clock, ?_, Nat.le_refl _, h2, h3⟩
          rw [h1]
          simp [hp]
        case measure =>
          rw [HM.out]
          refine Nat.lt_of_le_of_lt (Nat.le_of_eq ?_) H5.out.2.2.2
          unfold itLeft
          rw [H5.out.2.1, HTB.out]
theorem drop1_ok (k : CKey) (v : Value) (nb : Nat) (n : Name) (w : World) (hb : w.cell? ⟨nb, 0, none⟩ = some (.string ⟨n.toArray⟩)) : Calls Tryz.prog 81 #[.agg #[.string ⟨k.1.toArray⟩, .int .i64 k.2], v, .pointer (some ⟨nb, 0, none⟩)] w fun e w' => e = .returned (.bool (decide (k.1 = n))) ∧ Fr (fun _ => False) w w' := by
  have HF : Hid (Fr (fun _ => False) w (w.alloc (.cells #[.string ⟨k.1.toArray⟩, .int .i64 k.2] 139))) := (Fr.refl _ _).alloc _
  have hb2 : (w.alloc (.cells #[.string ⟨k.1.toArray⟩, .int .i64 k.2] 139)).cell? ⟨nb, 0, none⟩ = some (.string ⟨n.toArray⟩) := HF.out.cell hb id
  have he : ((⟨k.1.toArray⟩ : ByteArray) == ⟨n.toArray⟩) = decide (k.1 = n) := by
    rw [Bool.eq_iff_iff, MapKept.bytes_beq]
    simp
  have he2 : (k.1 == n) = decide (k.1 = n) := by
    rw [Bool.eq_iff_iff]
    simp
  go_enter Tryz.func81, Tryz.ntmps81
  go_wp2
  go_ret
  refine ⟨?_, HF.out⟩
  rw [← he2]
  rfl
theorem left_mono {es es' : Array MapEntry} {seen : Array Nat} (h : es'.toList.Sublist es.toList) : (leftOf es' seen).size ≤ (leftOf es seen).size := by
  have hs : ∀ es : Array MapEntry, (leftOf es seen).size = (es.toList.filter fun e => !seen.contains e.born).length := fun es => by
    unfold leftOf
    rw [← Array.length_toList, Array.toList_filter]
  rw [hs, hs]
  exact (h.filter _).length_le
def gone (n : Name) (seen : Array Nat) (y : CF) : Bool := !(seen.contains y.born && decide (y.key.1 = n))
theorem gone_all {Q : List CF} {n : Name} {seen : Array Nat} (h : ∀ y ∈ Q.filter (gone n seen), seen.contains y.born = true) : Q.filter (gone n seen) = Q.filter fun y => decide (y.key.1 ≠ n) := by
  refine List.filter_congr fun y hy => ?_
  by_cases e : y.key.1 = n
  · cases hs : seen.contains y.born with
    | true => unfold gone; rw [hs]; simp [e]
    | false =>
      have := h y (List.mem_filter.2 ⟨hy, by unfold gone; rw [hs]; rfl⟩)
      rw [hs] at this
      cases this
  · unfold gone
    simp [e]
theorem gone_push {Q : List CF} {n : Name} {seen : Array Nat} {x : CF} (hx : x ∈ Q) (hb : (Q.map (·.born)).Nodup) (hk : (Q.map (·.key)).Nodup) :
    Q.filter (gone n (seen.push x.born)) = if x.key.1 = n then (Q.filter (gone n seen)).filter fun y => decide (y.key ≠ x.key) else Q.filter (gone n seen) := by
  have hc : ∀ z : CF, (seen.push x.born).contains z.born = (seen.contains z.born || z.born == x.born) := fun z => by
    rw [Bool.eq_iff_iff]; simp
  split
  · next hn =>
    rw [List.filter_filter]
    refine List.filter_congr fun y hy => ?_
    unfold gone
    rw [hc]
    by_cases e : y = x
    · subst e
      simp [hn]
    · have h1 : (y.born == x.born) = false := by simpa using fun h => e (nodup_inj hb hy hx h)
      have h2 : decide (y.key ≠ x.key) = true := by simpa using fun h => e (nodup_inj hk hy hx h)
      rw [h1, h2, Bool.or_false, Bool.true_and]
  · next hn =>
    refine List.filter_congr fun y hy => ?_
    unfold gone
    rw [hc]
    by_cases e : y = x
    · subst e
      simp [hn]
    · have h1 : (y.born == x.born) = false := by simpa using fun h => e (nodup_inj hb hy hx h)
      rw [h1, Bool.or_false]
theorem delf_ok {most : Int} (h : CRep w cb fb tb X XF room left F most ME Q clk clock) (nb : Nat) (n : Name) (hnb : w.cell? ⟨nb, 0, none⟩ = some (.string ⟨n.toArray⟩)) (hnt : nb ≠ tb) : Calls Tryz.prog 80 #[.map (some tb), .func (.func 81) #[] #[.pointer (some ⟨nb, 0, none⟩)]] w fun e w' => e = .returned (.tuple #[]) ∧
    ∃ ME', CRep w' cb fb tb X XF room left F most ME' (Q.filter fun y => decide (y.key.1 ≠ n)) clk clock ∧ Fr (fun j => j = tb) w w' := by
  have hrg := run_range_map (P := Tryz.prog) w _ _ _ tb _ clock mapc h.map
  have HH := hide h
  have HNB := hide hnb
  clear h hnb
  go_enter Tryz.func80, Tryz.ntmps80
  go_wp2
  go_loopw [5] (fun _ wr => ∃ seen c0 ME', clock ≤ c0 ∧ wr.heap[w.heap.size]? = some (.mapIter (some tb) clock seen c0) ∧ CRep wr cb fb tb X XF room left F most ME' (Q.filter (gone n seen)) clk clock ∧ Fr (fun j => j = tb) w wr) (fun _ wr => itLeft wr w.heap.size tb)
  case atStart =>
    refine ⟨#[], clock, ME, Nat.le_refl _, heap_alloc_new w _, ?_, (Fr.refl _ _).alloc _⟩
    have e : Q.filter (gone n #[]) = Q := List.filter_eq_self.2 (fun y _ => by simp [gone])
    rw [e]
    exact HH.out.keep ((Fr.refl (fun _ => False) w).alloc _) (fun _ _ h => h)
  case round =>
    obtain ⟨seen, c0, ME', hc0, hit, hrep, hfr⟩ := hrel
    have hrt : w.heap.size ≠ tb := fun e => by have := HH.out.lt tb HH.out.xt; omega
    have HM : Hid (itLeft wr w.heap.size tb = (leftOf (ME'.map (ent ckey)).toArray seen).size) := by
      show _ = _
      unfold itLeft
      rw [hit, show wr.heap[tb]? = some (.map (ME'.map (ent ckey)).toArray clock) from hrep.map]
    rcases next_q hit hrep.map hrep.pm hrep.bclk hrep.bnd hc0 hrt with ⟨hall, hnext⟩ | ⟨x, W5, hx, hsn, hit5, hf5, hnext, hentry, hless⟩
    · have HALL := hide hall
      have HR := hide (And.intro hrep hfr)
      clear hall hrep hit hfr
      go_wp2
      go_end0
      refine ⟨rfl, ME', ?_, HR.out.2⟩
      rw [← gone_all HALL.out]
      exact HR.out.1
    · have hXlt := hrep.lt
      have hXFlt := HH.out.fs.lt
      have hr5 := hrep.keep hf5 (fun k hk h => by
        rcases hk with hk | hk
        · have := HH.out.lt k hk; omega
        · have := hXFlt k hk; omega)
      have hfr5 : Fr (fun j => j = tb) w W5 := hfr.trans hf5 (fun k hk => .inr (by omega))
      have hxQ : x ∈ Q := (List.mem_filter.1 hx).1
      have H5 := hide (And.intro hr5 (And.intro hit5 (And.intro hfr5 (And.intro hless hxQ))))
      have hnb5 : W5.cell? ⟨nb, 0, none⟩ = some (.string ⟨n.toArray⟩) := hfr5.cell HNB.out hnt
      clear hrep hit hfr hr5 hit5 hf5 hfr5 hless hx hxQ hXlt hXFlt
      go_wp2_with fail
      obtain ⟨kb, hkb⟩ : ∃ kb, W5.heap.size = kb := ⟨_, rfl⟩
      try rw [hkb]
      obtain ⟨W6, hW6⟩ : ∃ W6, W6 = W5.alloc (.cells #[.string ⟨x.key.1.toArray⟩, .int .i64 x.key.2] 139) := ⟨_, rfl⟩
      rw [← hW6]
      have F56 : Fr (fun _ => False) W5 W6 := by rw [hW6]; exact (Fr.refl _ _).alloc _
      have HKB : Hid (Blk W6 kb 139 (kcells x.key)) := by rw [hW6, ← hkb]; exact Blk.new W5 139 _
      have HKG := hide (show w.heap.size ≤ kb by rw [← hkb]; exact H5.out.2.2.1.size)
      have HD := hide (drop1_ok x.key (.pointer (some ⟨x.blk, 0, none⟩)) nb n W6 (F56.cell hnb5 id))
      have HF6 := hide F56
      clear hW6 F56 hkb hnb5
      go_at_call 81
      refine HD.out.mono ?_
      rintro e W7 ⟨rfl, hf7⟩
      have HF7 := hide (HF6.out.then_ hf7)
      have HKB7 := hide (HKB.out.fr hf7 id)
      clear hf7
      have HIT7 : Hid (W7.heap[w.heap.size]? = some (.mapIter (some tb) clock (seen.push x.born) clock)) := by
        have := (Array.getElem?_eq_some_iff.1 H5.out.2.1).1
        exact (HF7.out.block _ this id).trans H5.out.2.1
      have k0 : W7.cell? ⟨kb, 0, none⟩ = some (.string ⟨x.key.1.toArray⟩) := (HKB7.out.cell 0).trans rfl
      have k1 : W7.cell? ⟨kb, 1, none⟩ = some (.int .i64 x.key.2) := (HKB7.out.cell 1).trans rfl
      have HR7 := hide (H5.out.1.keep HF7.out (fun _ _ h => h))
      by_cases hxn : x.key.1 = n
      · have hb : decide (x.key.1 = n) = true := by simpa using hxn
        rw [hb]
        have hd : ∀ ty, (Builtin.delete_ #[59, 139] ty #[.map (some tb), .agg #[.string ⟨x.key.1.toArray⟩, .int .i64 x.key.2]]).run Tryz.prog W7 = .ok (.tuple #[]) (setBlock W7 tb (.map ((adel x.key ME').map (ent ckey)).toArray clock)) := fun ty => delete_ok (P := Tryz.prog) key_ck mapc HR7.out.map x.key ty
        have HG := hide (gone_push (n := n) (seen := seen) H5.out.2.2.2.2 HH.out.bnd HH.out.nd)
        have HXN := hide hxn
        clear hxn hb
        go_wp2
        go_roundw
        case rel =>
          have hfs := fr_setBlock W7 tb (.map ((adel x.key ME').map (ent ckey)).toArray clock)
          refine ⟨seen.push x.born, clock, adel x.key ME', Nat.le_refl _, ?_, ?_, ((H5.out.2.2.1.then_ HF7.out)).trans hfs (fun k hk => .inl hk)⟩
          · exact (hfs.block _ (Array.getElem?_eq_some_iff.1 HIT7.out).1 hrt).trans HIT7.out
          · rw [HG.out, if_pos HXN.out]
            exact HR7.out.del x.key
        case measure =>
          have hfs := fr_setBlock W7 tb (.map ((adel x.key ME').map (ent ckey)).toArray clock)
          rw [HM.out]
          refine Nat.lt_of_le_of_lt ?_ H5.out.2.2.2.1
          unfold itLeft
          rw [(hfs.block _ (Array.getElem?_eq_some_iff.1 HIT7.out).1 hrt).trans HIT7.out, (HR7.out.map.set (adel x.key ME') clock)]
          refine left_mono ?_
          rw [List.toList_toArray, List.toList_toArray, adel_filter x.key HR7.out.kn]
          exact List.filter_sublist.map _
      · have hb : decide (x.key.1 = n) = false := by simpa using hxn
        rw [hb]
        have HG := hide (gone_push (n := n) (seen := seen) H5.out.2.2.2.2 HH.out.bnd HH.out.nd)
        have HXN := hide hxn
        clear hxn hb
        go_wp2
        go_roundw
        case rel =>
          refine ⟨seen.push x.born, clock, ME', Nat.le_refl _, HIT7.out, ?_, H5.out.2.2.1.then_ HF7.out⟩
          rw [HG.out, if_neg HXN.out]
          exact HR7.out
        case measure =>
          rw [HM.out]
          refine Nat.lt_of_le_of_lt (Nat.le_of_eq ?_) H5.out.2.2.2.1
          unfold itLeft
          rw [HIT7.out, HR7.out.map]
theorem cdrop_ok (h : CAt w cb fb X room most s) (n : Name) : Calls Tryz.prog 35 #[.pointer (some ⟨cb, 0, none⟩), .string ⟨n.toArray⟩] w fun e w' => e = .returned (.tuple #[]) ∧ CAt w' cb fb X room most (cdrop n s) ∧ Fr X w w' := by
  obtain ⟨W3, hW3⟩ : ∃ W3, W3 = w.alloc (.cells #[.string ⟨n.toArray⟩] 9) := ⟨_, rfl⟩
  have F3 : Fr (fun _ => False) w W3 := by rw [hW3]; exact (Fr.refl _ _).alloc _
  have HN := hide (cnone_ok (h.up F3))
  obtain ⟨tb, X1, XF, ME, Q, clock, h⟩ := h.q
  have c2 : W3.cell? ⟨cb, 2, none⟩ = some (.map (some tb)) := ((h.rep.blk.fr F3 id).cell 2).trans rfl
  have hnb : W3.cell? ⟨w.heap.size, 0, none⟩ = some (.string ⟨n.toArray⟩) := by rw [hW3]; exact ((Blk.new w 9 #[.string ⟨n.toArray⟩]).cell 0).trans rfl
  have HD := hide (delf_ok (h.rep.keep F3 (fun _ _ h => h)) w.heap.size n hnb (fun e => by have := h.rep.lt tb h.rep.xt; omega))
  have HQ := hide h
  have HF3 := hide F3
  clear h hnb F3
  go_enter Tryz.func35, Tryz.ntmps35
  go_wp2_with fail
  rw [← hW3]
  clear hW3
  go_at_call 61
  refine HN.out.mono ?_
  rintro e w1 ⟨rfl, rfl⟩
  go_wp2_with fail
  go_at_call 80
  refine HD.out.mono ?_
  rintro e W5 ⟨rfl, ME', hr5, hf5⟩
  have H5 := hide (And.intro hr5 hf5)
  clear hr5 hf5
  go_wp2
  go_end0
  refine ⟨rfl, ⟨tb, X1, XF, ME', _, clock, H5.out.1, HQ.out.ord.wo _, ?_, HQ.out.x1, HQ.out.xf, HQ.out.xs⟩, (HF3.out.mono (S' := X) (fun _ h => h.elim)).trans H5.out.2 (fun k hk => .inl (by rw [hk]; exact HQ.out.x1 _ HQ.out.rep.xt))⟩
  unfold cdrop
  rw [← HQ.out.abs, List.filter_map]
  rfl
end
end Go.Proofs.YtkhbemmcegmdaaaGreatDoor
