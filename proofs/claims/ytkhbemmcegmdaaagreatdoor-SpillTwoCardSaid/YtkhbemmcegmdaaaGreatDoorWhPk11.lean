/- Parts of the proof of several laws: no conditions of their own. -/
import Derived.Test.YtkhbemmcegmdaaaGreatDoorWhPk10
import Derived.Test.YtkhbemmcegmdaaaGreatDoorWhPk8
import Derived.Maps.RangeRun
import Derived.Laws.ResultCell
import Derived.Test.YtkhbemmcegmdaaaGreatDoorWhPk5
section
set_option linter.all false
set_option linter.unusedVariables false
set_option maxRecDepth 100000
namespace Go.Proofs.YtkhbemmcegmdaaaGreatDoor
open Go.RowKit
open Go.ChangeMaps (setBlock)

/-- how many entries an iterator has still -/
def itLeft (w : World) (r tb : Nat) : Nat := match w.heap[r]?, w.heap[tb]? with
  | some (.mapIter _ _ seen _), some (.map es _) => (leftOf es seen).size
  | _, _ => 0
def kcells (k : CKey) : Array Value := #[strk k.1, .int .i64 k.2]
structure OldI (w : World) (tb clock : Nat) (Q : List CF) (wr : World) (found : Bool) (k : CKey) (seen : Array Nat) : Prop where
  it : ∃ c0, clock ≤ c0 ∧ wr.heap[w.heap.size + 2]? = some (.mapIter (some tb) clock seen c0)
  fr : Fr (fun _ => False) w wr
  b0 : Blk wr w.heap.size 139 #[.string ⟨#[]⟩, .int .i64 0]
  b1 : Blk wr (w.heap.size + 1) 139 (kcells k)
  nf : found = false → ∀ y ∈ Q, seen.contains y.born = true → y.pins ≠ 0
  fd : found = true → ∃ r ∈ Q, k = r.key ∧ r.pins = 0 ∧ ∀ y ∈ Q, seen.contains y.born = true → y.pins = 0 → r.used ≤ y.used
theorem left_less {es : Array MapEntry} {seen : Array Nat} {e : MapEntry} (he : e ∈ (leftOf es seen).toList) : (leftOf es (seen.push e.born)).size < (leftOf es seen).size := by
  have hs : ∀ seen : Array Nat, (leftOf es seen).size = (es.toList.filter fun e => !seen.contains e.born).length := fun seen => by
    unfold leftOf
    rw [← Array.length_toList, Array.toList_filter]
  rw [hs, hs]
  unfold leftOf at he
  rw [Array.toList_filter] at he
  have : (es.toList.filter fun e' => !(seen.push e.born).contains e'.born) = (es.toList.filter fun e' => !seen.contains e'.born).filter (fun e' => !(e'.born == e.born)) := by
    rw [List.filter_filter]
    refine List.filter_congr fun x _ => ?_
    by_cases h : x.born = e.born <;> simp [h]
  rw [this]
  exact List.length_filter_lt_length_iff_exists.2 ⟨e, he, by simp⟩
theorem push_has {seen : Array Nat} {b c : Nat} (h : (seen.push b).contains c = true) : seen.contains c = true ∨ c = b := by
  simp at h
  rcases h with h | h
  · exact .inl (by simpa using h)
  · exact .inr h
theorem left_none {ME : List (Ent CKey)} {Q : List CF} {seen : Array Nat} (hp : ME.Perm (Q.map CF.ent)) (hz : (leftOf (ME.map (ent ckey)).toArray seen).size = 0) : ∀ y ∈ Q, seen.contains y.born = true := by
  intro y hy
  unfold leftOf at hz
  rw [← Array.length_toList, Array.toList_filter, List.toList_toArray] at hz
  have h0 := List.eq_nil_of_length_eq_zero hz
  rw [List.filter_eq_nil_iff] at h0
  have hm : y.ent ∈ ME := hp.symm.subset (List.mem_map_of_mem hy)
  have := h0 (ent ckey y.ent) (List.mem_map_of_mem hm)
  simpa [ent, CF.ent] using this
section
variable {w w1 : World} {cb fb tb clock most : Nat} {X XF : Nat → Prop} {room left mst clk : Int} {F : FileL} {ME : List (Ent CKey)} {Q : List CF} {s : CSt}
theorem cold_ok (h : CRep w cb fb tb X XF room left F mst ME Q clk clock) : Calls Tryz.prog 130 #[.pointer (some ⟨cb, 0, none⟩)] w fun e w' => ∃ (k : CKey) (f : Bool), e = .returned (.tuple #[ckey k, .bool f]) ∧ Fr (fun _ => False) w w' ∧
    ((f = false ∧ ∀ y ∈ Q, y.pins ≠ 0) ∨ (f = true ∧ ∃ r ∈ Q, k = r.key ∧ r.pins = 0 ∧ ∀ y ∈ Q, y.pins = 0 → r.used ≤ y.used)) := by
  have c2 : w.cell? ⟨cb, 2, none⟩ = some (.map (some tb)) := (h.blk.cell 2).trans rfl
  have hzk : ∀ W : World, (zeroValue 139).run Tryz.prog W = .ok (.agg #[.string ⟨#[]⟩, .int .i64 0]) W := fun W => by simp [Tryz.zeroValue139]
  have HF2 : Fr (fun _ => False) w ((w.alloc (.cells #[.string ⟨#[]⟩, .int .i64 0] 139)).alloc (.cells #[.string ⟨#[]⟩, .int .i64 0] 139)) := ((Fr.refl _ _).alloc _).alloc _
  have c2' : ((w.alloc (.cells #[.string ⟨#[]⟩, .int .i64 0] 139)).alloc (.cells #[.string ⟨#[]⟩, .int .i64 0] 139)).cell? ⟨cb, 2, none⟩ = some (.map (some tb)) := HF2.cell c2 id
  have hrg := run_range_map (P := Tryz.prog) _ _ _ _ tb _ clock mapc (h.map.fr HF2 id)
  have HH := hide h
  have HFR := hide HF2
  clear h HF2 c2
  go_enter Tryz.func130, Tryz.ntmps130
  go_wp2
  go_loopw [5] (fun f wr => ∃ found k seen, f = .bool found ∧ OldI w tb clock Q wr found k seen) (fun _ wr => itLeft wr (w.heap.size + 2) tb)
  case atStart =>
    refine ⟨false, ([], 0), #[], rfl, ⟨⟨clock, Nat.le_refl _, ?_⟩, HFR.out.alloc _, ?_, ?_, fun _ y _ h => by simp at h, fun h => by cases h⟩⟩
    · have := heap_alloc_new ((w.alloc (.cells #[.string ⟨#[]⟩, .int .i64 0] 139)).alloc (.cells #[.string ⟨#[]⟩, .int .i64 0] 139)) (.mapIter (some tb) clock #[] clock)
      simpa using this
    · exact ((Blk.new w 139 #[.string ⟨#[]⟩, .int .i64 0]).alloc _).alloc _
    · have := (Blk.new (w.alloc (.cells #[.string ⟨#[]⟩, .int .i64 0] 139)) 139 #[.string ⟨#[]⟩, .int .i64 0]).alloc (.mapIter (some tb) clock #[] clock)
      simpa [kcells, strk] using this
  case round =>
    obtain ⟨found, k, seen, rfl, hI⟩ := hrel
    obtain ⟨c0, hc0, hit⟩ := hI.it
    have hm := HH.out.map.fr hI.fr id
    have hold : ∀ x ∈ (ME.map (ent ckey)).toArray.toList, x.born < clock := fun x hx => by
      rw [List.toList_toArray] at hx
      obtain ⟨y, hy, rfl⟩ := List.mem_map.1 hx
      obtain ⟨z, hz, rfl⟩ := List.mem_map.1 (HH.out.pm.subset hy)
      exact HH.out.bclk z hz
    have d0 : wr.cell? ⟨w.heap.size + 1, 0, none⟩ = some (.string ⟨k.1.toArray⟩) := (hI.b1.cell 0).trans rfl
    have d1 : wr.cell? ⟨w.heap.size + 1, 1, none⟩ = some (.int .i64 k.2) := (hI.b1.cell 1).trans rfl
    rcases run_next_at (P := Tryz.prog) wr 0 (w.heap.size + 2) tb clock c0 seen _ clock hit hm hold hc0 with ⟨hz, hnext⟩ | ⟨e, he, w1, hw1, hnext⟩
    · have g0 : wr.cell? ⟨w.heap.size, 0, none⟩ = some (.string ⟨#[]⟩) := (hI.b0.cell 0).trans rfl
      have g1 : wr.cell? ⟨w.heap.size, 1, none⟩ = some (.int .i64 0) := (hI.b0.cell 1).trans rfl
      have z0 := hI.b0.frozen 0
      have z1 := hI.b0.frozen 1
      have hI' := hide hI
      have hz' := hide hz
      clear hI hm hz hold hit
      go_wp2
      have HB0 : Blk ((wr.setCell ⟨w.heap.size, 0, none⟩ (.string ⟨k.1.toArray⟩)).setCell ⟨w.heap.size, 1, none⟩ (.int .i64 k.2)) w.heap.size 139 (kcells k) := (hI'.out.b0.set_ 0 _).set_ 1 _
      have y0 : ((wr.setCell ⟨w.heap.size, 0, none⟩ (.string ⟨k.1.toArray⟩)).setCell ⟨w.heap.size, 1, none⟩ (.int .i64 k.2)).cell? ⟨w.heap.size, 0, none⟩ = some (.string ⟨k.1.toArray⟩) := (HB0.cell 0).trans rfl
      have y1 : ((wr.setCell ⟨w.heap.size, 0, none⟩ (.string ⟨k.1.toArray⟩)).setCell ⟨w.heap.size, 1, none⟩ (.int .i64 k.2)).cell? ⟨w.heap.size, 1, none⟩ = some (.int .i64 k.2) := (HB0.cell 1).trans rfl
      refine bodyPost_ret (v := .tuple #[ckey k, .bool found]) ?_ rfl ?_
      · rw [results_cell_tmp rfl]
        go_simp
        rfl
      · refine ⟨k, found, rfl, (hI'.out.fr.setCell (p := ⟨w.heap.size, 0, none⟩) (.inr (Nat.le_refl _)) _).setCell (p := ⟨w.heap.size, 1, none⟩) (.inr (Nat.le_refl _)) _, ?_⟩
        have hall := left_none HH.out.pm hz'.out
        cases found with
        | false => exact .inl ⟨rfl, fun y hy => hI'.out.nf rfl y hy (hall y hy)⟩
        | true =>
          obtain ⟨r, h1, h2, h3, h4⟩ := hI'.out.fd rfl
          exact .inr ⟨rfl, r, h1, h2, h3, fun y hy => h4 y hy (hall y hy)⟩
    · have hes : e ∈ (ME.map (ent ckey)).toArray.toList ∧ seen.contains e.born = false := by
        unfold leftOf at he
        rw [Array.toList_filter] at he
        obtain ⟨h1, h2⟩ := List.mem_filter.1 he
        exact ⟨h1, by simpa using h2⟩
      obtain ⟨hem, hsn⟩ := hes
      have hless := hide (left_less he)
      have hem2 := hem
      rw [List.toList_toArray] at hem2
      obtain ⟨y, hy, rfl⟩ := List.mem_map.1 hem2
      obtain ⟨x, hx, rfl⟩ := List.mem_map.1 (HH.out.pm.subset hy)
      clear hem2 hy he
      have hw1r : w1.heap = wr.heap := by rcases hw1 with rfl | rfl <;> rfl
      obtain ⟨W5, hW5⟩ : ∃ W5, W5 = setBlock w1 (w.heap.size + 2) (.mapIter (some tb) clock (seen.push (ent ckey x.ent).born) clock) := ⟨_, rfl⟩
      rw [← hW5] at hnext
      have hrlt : w.heap.size + 2 < wr.heap.size := (Array.getElem?_eq_some_iff.1 hit).1
      have hit5 : W5.heap[w.heap.size + 2]? = some (.mapIter (some tb) clock (seen.push (ent ckey x.ent).born) clock) := by
        rw [hW5]
        unfold setBlock
        simp only
        rw [Array.getElem?_setIfInBounds_self_of_lt (by rw [hw1r]; exact hrlt)]
      have hfr1 : Fr (fun _ => False) w w1 := by
        rcases hw1 with rfl | rfl
        · exact hI.fr
        · exact hI.fr.drew
      have hfr5 : Fr (fun _ => False) w W5 := by
        rw [hW5]
        exact hfr1.trans (fr_setBlock w1 _ _) (fun k hk => .inr (by rw [hk]; omega))
      have hbl : ∀ (g : Nat) (t : TypeId) (cs : Array Value), g ≠ w.heap.size + 2 → Blk wr g t cs → Blk W5 g t cs := fun g t cs hg hb => by
        rw [hW5]
        have hb1 : Blk w1 g t cs := by unfold Blk at *; rw [hw1r]; exact hb
        exact hb1.fr (fr_setBlock w1 _ _) hg
      have hm5 := HH.out.map.fr hfr5 id
      have hborn : ((ME.map (ent ckey)).toArray.toList.map (·.born)).Nodup := by
        rw [List.toList_toArray, List.map_map]
        have := (HH.out.pm.map (fun x : Ent CKey => x.2.2)).nodup_iff
        refine this.2 ?_
        rw [List.map_map]
        exact HH.out.bnd
      have hentry := run_entry_at (P := Tryz.prog) W5 (w.heap.size + 2) tb clock seen _ clock (ent ckey x.ent) hit5 hm5 hem hborn
      have B0 := hbl _ _ _ (by omega) hI.b0
      have B1 := hbl _ _ _ (by omega) hI.b1
      have hsz5 : W5.heap.size = wr.heap.size := by rw [hW5]; unfold setBlock; simp [hw1r]
      have H5 := hide hfr5
      have HB0 := hide B0
      have HB1 := hide B1
      have HI := hide hI
      have HIT := hide hit5
      have HLT := hide hrlt
      have HSZ := hide hsz5
      have HSN := hide hsn
      have HX := hide hx
      have ek : (ent ckey x.ent).key = .agg #[.string ⟨x.key.1.toArray⟩, .int .i64 x.key.2] := rfl
      have ev : (ent ckey x.ent).val = .pointer (some ⟨x.blk, 0, none⟩) := rfl
      rw [ek, ev] at hnext hentry
      clear hem hborn hm5 hbl hfr5 hfr1 hit5 hrlt hW5 hw1r B0 B1 hI hm hold hit d0 d1 hsn hx hw1 hsz5
      --ROUND
      go_wp2_with fail
      obtain ⟨W6, hW6⟩ : ∃ W6, W6 = W5.alloc (.cells #[.string ⟨x.key.1.toArray⟩, .int .i64 x.key.2] 139) := ⟨_, rfl⟩
      rw [← hW6]
      have F56 : Fr (fun _ => False) W5 W6 := by rw [hW6]; exact (Fr.refl _ _).alloc _
      have HF6 := hide (H5.out.then_ F56)
      have HB06 := hide (HB0.out.fr F56 id)
      have HB16 := hide (HB1.out.fr F56 id)
      have HIT6 := hide ((F56.block _ (by rw [HSZ.out]; exact HLT.out) id).trans HIT.out)
      have HBN : Hid (Blk W6 W5.heap.size 139 (kcells x.key)) := by rw [hW6]; exact Blk.new W5 139 _
      obtain ⟨xb, hxb⟩ : ∃ xb, x.blk = xb := ⟨_, rfl⟩
      have hxf := ((HH.out.frm x HX.out).1.fr HF6.out id)
      rw [hxb] at hxf
      rw [hxb]
      obtain ⟨xp, hxp⟩ : ∃ xp, x.pins = xp := ⟨_, rfl⟩
      obtain ⟨xu, hxu⟩ : ∃ xu, x.used = xu := ⟨_, rfl⟩
      obtain ⟨nb, hnb⟩ : ∃ nb, W5.heap.size = nb := ⟨_, rfl⟩
      rw [hnb] at HBN
      rw [hnb]
      have p0 : W6.cell? ⟨w.heap.size + 1, 0, none⟩ = some (.string ⟨k.1.toArray⟩) := (HB16.out.cell 0).trans rfl
      have p1 : W6.cell? ⟨w.heap.size + 1, 1, none⟩ = some (.int .i64 k.2) := (HB16.out.cell 1).trans rfl
      have p2 : W6.cell? ⟨xb, 1, none⟩ = some (.int .i64 (xp : Int)) := by rw [← hxp]; exact (hxf.cell 1).trans rfl
      have p3 : W6.cell? ⟨xb, 2, none⟩ = some (.int .i64 xu) := by rw [← hxu]; exact (hxf.cell 2).trans rfl
      have p4 : W6.cell? ⟨cb, 2, none⟩ = some (.map (some tb)) := ((HH.out.blk.fr HF6.out id).cell 2).trans rfl
      have p5 : W6.cell? ⟨nb, 0, none⟩ = some (.string ⟨x.key.1.toArray⟩) := (HBN.out.cell 0).trans rfl
      have p6 : W6.cell? ⟨nb, 1, none⟩ = some (.int .i64 x.key.2) := (HBN.out.cell 1).trans rfl
      have q0 : W6.frozen? ⟨w.heap.size + 1, 0, none⟩ = false := HB16.out.frozen 0
      have q1 : W6.frozen? ⟨w.heap.size + 1, 1, none⟩ = false := HB16.out.frozen 1
      have hmap6 := HH.out.map.fr HF6.out id
      have PC := hide (fun W (hS : Fr (fun _ => False) W6 W) => (⟨hS.cell p0 id, hS.cell p1 id, hS.cell p2 id, hS.cell p3 id, hS.cell p4 id, hmap6.fr hS id⟩ : W.cell? ⟨w.heap.size + 1, 0, none⟩ = some (.string ⟨k.1.toArray⟩) ∧ W.cell? ⟨w.heap.size + 1, 1, none⟩ = some (.int .i64 k.2) ∧ W.cell? ⟨xb, 1, none⟩ = some (.int .i64 (xp : Int)) ∧ W.cell? ⟨xb, 2, none⟩ = some (.int .i64 xu) ∧ W.cell? ⟨cb, 2, none⟩ = some (.map (some tb)) ∧ MBlk W tb ckey ME clock))
      have HLK : Hid (∀ W, Fr (fun _ => False) W6 W → ∀ o ∈ Q, k = o.key → (Instr.lookup 59 (.map (some tb)) (.agg #[.string ⟨k.1.toArray⟩, .int .i64 k.2]) false).run Tryz.prog W = .ok (.pointer (some ⟨o.blk, 0, none⟩)) W ∧ W.cell? ⟨o.blk, 2, none⟩ = some (.int .i64 o.used)) := fun W hS o ho hk => by
        refine ⟨?_, hS.cell (((HH.out.frm o ho).1.fr HF6.out id).cell 2 |>.trans rfl) id⟩
        have := lookup_v (P := Tryz.prog) key_ck mapc framep_zero (hmap6.fr hS id) k
        rw [hk, HH.out.get_some ho] at this
        rw [hk]
        exact this
      have HXP := hide hxp
      have HXU := hide hxu
      have HL1 : Hid (itLeft wr (w.heap.size + 2) tb = (leftOf (ME.map (ent ckey)).toArray seen).size) := by
        obtain ⟨c1, _, hc1⟩ := HI.out.it
        unfold itLeft
        rw [hc1, show wr.heap[tb]? = some (.map (ME.map (ent ckey)).toArray clock) from HH.out.map.fr HI.out.fr id]
        rfl
      have HTB : Hid (W6.heap[tb]? = some (.map (ME.map (ent ckey)).toArray clock)) := hmap6
      have HTL := hide (HH.out.map.lt)
      clear hmap6 hxf hW6 F56 hxp hxu hnb hxb
      by_cases hp : xp = 0
      · subst hp
        have b0 : (((0 : Nat) : Int) == 0) = true := rfl
        cases found with
        | false =>
          refine wp_region_reads (fun W => Fr (fun _ => False) W6 W) (by kernel_rfl) (by kernel_rfl) (Fr.refl _ _).drew ?_
          iterate 9
            refine readsY_cons ?_ ?_ (fun W hS => ?_) ?_
            · rfl
            rotate_left
            · (obtain ⟨s0, s1, s2, s3, s4, s5⟩ := PC.out W hS; go_simp; try with_reducible rfl)
            simp only [List.getElem_toArray, List.getElem_cons_zero, List.getElem_cons_succ, Act.put, List.setIfInBounds_toArray, List.set_cons_zero, List.set_cons_succ, b0]
          iterate 14
            refine readsY_skip ?_ ?_
            · rfl
            simp only [List.getElem_toArray, List.getElem_cons_zero, List.getElem_cons_succ, Act.put, List.setIfInBounds_toArray, List.set_cons_zero, List.set_cons_succ, b0]
          iterate 2
            refine readsY_cons ?_ ?_ (fun W hS => ?_) ?_
            · rfl
            rotate_left
            · (obtain ⟨s0, s1, s2, s3, s4, s5⟩ := PC.out W hS; go_simp; try with_reducible rfl)
            simp only [List.getElem_toArray, List.getElem_cons_zero, List.getElem_cons_succ, Act.put, List.setIfInBounds_toArray, List.set_cons_zero, List.set_cons_succ, b0]
          simp only [wpReadsY]
          refine NoPanic.normal ?_
          go_wp2
          go_roundw
          case rel =>
            refine ⟨true, x.key, seen.push x.born, rfl, ⟨⟨clock, Nat.le_refl _, ?_⟩, ?_, ?_, ?_, fun h => (by cases h), fun _ => ⟨x, HX.out, rfl, HXP.out, fun y hy hc hp => ?_⟩⟩⟩
            · exact (Below.heap_setCell _ _ _ _ (by simp)).trans ((Below.heap_setCell _ _ _ _ (by simp)).trans HIT6.out)
            · exact (HF6.out.drew.setCell (p := ⟨w.heap.size + 1, 0, none⟩) (.inr (by simp)) _).setCell (p := ⟨w.heap.size + 1, 1, none⟩) (.inr (by simp)) _
            · exact (HB06.out.drew.far (by simp) _).far (by simp) _
            · exact (HB16.out.drew.set_ 0 _).set_ 1 _
            · rcases push_has hc with hc | hc
              · exact absurd hp (HI.out.nf rfl y hy hc)
              · have := nodup_inj (f := CF.born) HH.out.bnd hy HX.out hc
                rw [this]
                exact Int.le_refl _
          case measure =>
            have e1 : itLeft wr (w.heap.size + 2) tb = (leftOf (ME.map (ent ckey)).toArray seen).size := HL1.out
            rw [e1]
            refine Nat.lt_of_le_of_lt (Nat.le_of_eq ?_) hless.out
            unfold itLeft
            rw [show ((W6.setCell ⟨w.heap.size + 1, 0, none⟩ (.string ⟨x.key.1.toArray⟩)).setCell ⟨w.heap.size + 1, 1, none⟩ (.int .i64 x.key.2)).drew.heap[w.heap.size + 2]? = some (.mapIter (some tb) clock (seen.push x.born) clock) from (Below.heap_setCell _ _ _ _ (by simp)).trans ((Below.heap_setCell _ _ _ _ (by simp)).trans HIT6.out), show ((W6.setCell ⟨w.heap.size + 1, 0, none⟩ (.string ⟨x.key.1.toArray⟩)).setCell ⟨w.heap.size + 1, 1, none⟩ (.int .i64 x.key.2)).drew.heap[tb]? = some (.map (ME.map (ent ckey)).toArray clock) from (Below.heap_setCell _ _ _ _ (by have := HTL.out; simp; omega)).trans ((Below.heap_setCell _ _ _ _ (by have := HTL.out; simp; omega)).trans HTB.out)]
            rfl
        | true =>
          obtain ⟨o, ho, hko, hpo, hmin⟩ := HI.out.fd rfl
          have HMIN := hide hmin
          have HLO := hide (fun W hS => HLK.out W hS o ho hko)
          have HOO := hide (And.intro ho (And.intro hko hpo))
          generalize hob : o.blk = ob at *
          generalize hou : o.used = ou at *
          clear ho hko hpo hmin
          by_cases hlt : xu < ou
          · have b1 : decide (xu < ou) = true := by simpa using hlt
            refine wp_region_reads (fun W => Fr (fun _ => False) W6 W) (by kernel_rfl) (by kernel_rfl) (Fr.refl _ _).drew ?_
            iterate 25
              refine readsY_cons ?_ ?_ (fun W hS => ?_) ?_
              · rfl
              rotate_left
              · (obtain ⟨s0, s1, s2, s3, s4, s5⟩ := PC.out W hS; obtain ⟨s6, s7⟩ := HLO.out W hS; go_simp; try with_reducible rfl)
              simp only [List.getElem_toArray, List.getElem_cons_zero, List.getElem_cons_succ, Act.put, List.setIfInBounds_toArray, List.set_cons_zero, List.set_cons_succ, b0, b1]
            simp only [wpReadsY]
            refine NoPanic.normal ?_
            go_wp2
            go_roundw
            case rel =>
              refine ⟨true, x.key, seen.push x.born, rfl, ⟨⟨clock, Nat.le_refl _, ?_⟩, ?_, ?_, ?_, fun h => (by cases h), fun _ => ⟨x, HX.out, rfl, HXP.out, fun y hy hc hp => ?_⟩⟩⟩
              · exact (Below.heap_setCell _ _ _ _ (by simp)).trans ((Below.heap_setCell _ _ _ _ (by simp)).trans HIT6.out)
              · exact (HF6.out.drew.setCell (p := ⟨w.heap.size + 1, 0, none⟩) (.inr (by simp)) _).setCell (p := ⟨w.heap.size + 1, 1, none⟩) (.inr (by simp)) _
              · exact (HB06.out.drew.far (by simp) _).far (by simp) _
              · exact (HB16.out.drew.set_ 0 _).set_ 1 _
              · rcases push_has hc with hc | hc
                · have := HMIN.out y hy hc hp
                  have := HXU.out
                  omega
                · have := nodup_inj (f := CF.born) HH.out.bnd hy HX.out hc
                  rw [this]
                  exact Int.le_refl _
            case measure =>
              have e1 : itLeft wr (w.heap.size + 2) tb = (leftOf (ME.map (ent ckey)).toArray seen).size := HL1.out
              rw [e1]
              refine Nat.lt_of_le_of_lt (Nat.le_of_eq ?_) hless.out
              unfold itLeft
              rw [show ((W6.setCell ⟨w.heap.size + 1, 0, none⟩ (.string ⟨x.key.1.toArray⟩)).setCell ⟨w.heap.size + 1, 1, none⟩ (.int .i64 x.key.2)).drew.heap[w.heap.size + 2]? = some (.mapIter (some tb) clock (seen.push x.born) clock) from (Below.heap_setCell _ _ _ _ (by simp)).trans ((Below.heap_setCell _ _ _ _ (by simp)).trans HIT6.out), show ((W6.setCell ⟨w.heap.size + 1, 0, none⟩ (.string ⟨x.key.1.toArray⟩)).setCell ⟨w.heap.size + 1, 1, none⟩ (.int .i64 x.key.2)).drew.heap[tb]? = some (.map (ME.map (ent ckey)).toArray clock) from (Below.heap_setCell _ _ _ _ (by have := HTL.out; simp; omega)).trans ((Below.heap_setCell _ _ _ _ (by have := HTL.out; simp; omega)).trans HTB.out)]
              rfl
          · have b1 : decide (xu < ou) = false := by simpa using hlt
            refine wp_region_reads (fun W => Fr (fun _ => False) W6 W) (by kernel_rfl) (by kernel_rfl) (Fr.refl _ _).drew ?_
            iterate 25
              refine readsY_cons ?_ ?_ (fun W hS => ?_) ?_
              · rfl
              rotate_left
              · (obtain ⟨s0, s1, s2, s3, s4, s5⟩ := PC.out W hS; obtain ⟨s6, s7⟩ := HLO.out W hS; go_simp; try with_reducible rfl)
              simp only [List.getElem_toArray, List.getElem_cons_zero, List.getElem_cons_succ, Act.put, List.setIfInBounds_toArray, List.set_cons_zero, List.set_cons_succ, b0, b1]
            simp only [wpReadsY]
            refine NoPanic.normal ?_
            go_wp2
            go_roundw
            case rel =>
              refine ⟨true, k, seen.push x.born, rfl, ⟨⟨clock, Nat.le_refl _, HIT6.out⟩, HF6.out.drew, HB06.out.drew, HB16.out.drew, fun h => ?_, fun h => ?_⟩⟩
              · cases h
              · refine ⟨o, HOO.out.1, HOO.out.2.1, HOO.out.2.2, fun y hy hc hp => ?_⟩
                rcases push_has hc with hc | hc
                · rw [hou]; exact HMIN.out y hy hc hp
                · have := nodup_inj (f := CF.born) HH.out.bnd hy HX.out hc
                  have := HXU.out
                  subst_vars
                  omega
            case measure =>
              have e1 : itLeft wr (w.heap.size + 2) tb = (leftOf (ME.map (ent ckey)).toArray seen).size := HL1.out
              rw [e1]
              refine Nat.lt_of_le_of_lt (Nat.le_of_eq ?_) hless.out
              unfold itLeft
              rw [show W6.drew.heap[w.heap.size + 2]? = some (.mapIter (some tb) clock (seen.push x.born) clock) from HIT6.out, show W6.drew.heap[tb]? = some (.map (ME.map (ent ckey)).toArray clock) from HTB.out]
              rfl
      · have b0 : (((xp : Nat) : Int) == 0) = false := by simp; omega
        refine wp_region_reads (fun W => Fr (fun _ => False) W6 W) (by kernel_rfl) (by kernel_rfl) (Fr.refl _ _).drew ?_
        iterate 6
          refine readsY_cons ?_ ?_ (fun W hS => ?_) ?_
          · rfl
          rotate_left
          · (obtain ⟨s0, s1, s2, s3, s4, s5⟩ := PC.out W hS; go_simp; try with_reducible rfl)
          simp only [List.getElem_toArray, List.getElem_cons_zero, List.getElem_cons_succ, Act.put, List.setIfInBounds_toArray, List.set_cons_zero, List.set_cons_succ, b0]
        iterate 18
          refine readsY_skip ?_ ?_
          · rfl
          simp only [List.getElem_toArray, List.getElem_cons_zero, List.getElem_cons_succ, Act.put, List.setIfInBounds_toArray, List.set_cons_zero, List.set_cons_succ, b0]
        iterate 1
          refine readsY_cons ?_ ?_ (fun W hS => ?_) ?_
          · rfl
          rotate_left
          · (obtain ⟨s0, s1, s2, s3, s4, s5⟩ := PC.out W hS; go_simp; try with_reducible rfl)
          simp only [List.getElem_toArray, List.getElem_cons_zero, List.getElem_cons_succ, Act.put, List.setIfInBounds_toArray, List.set_cons_zero, List.set_cons_succ, b0]
        simp only [wpReadsY]
        refine NoPanic.normal ?_
        go_wp2
        go_roundw
        case rel =>
          refine ⟨found, k, seen.push x.born, rfl, ⟨⟨clock, Nat.le_refl _, HIT6.out⟩, HF6.out.drew, HB06.out.drew, HB16.out.drew, fun h => ?_, fun h => ?_⟩⟩
          · intro y hy hc
            rcases push_has hc with hc | hc
            · exact HI.out.nf h y hy hc
            · have := nodup_inj (f := CF.born) HH.out.bnd hy HX.out hc
              rw [this, HXP.out]
              exact hp
          · obtain ⟨r, h1, h2, h3, h4⟩ := HI.out.fd h
            refine ⟨r, h1, h2, h3, fun y hy hc hp2 => ?_⟩
            rcases push_has hc with hc | hc
            · exact h4 y hy hc hp2
            · have := nodup_inj (f := CF.born) HH.out.bnd hy HX.out hc
              rw [this, HXP.out] at hp2
              exact absurd hp2 hp
        case measure =>
          have e1 : itLeft wr (w.heap.size + 2) tb = (leftOf (ME.map (ent ckey)).toArray seen).size := HL1.out
          rw [e1]
          refine Nat.lt_of_le_of_lt (Nat.le_of_eq ?_) hless.out
          unfold itLeft
          rw [show W6.drew.heap[w.heap.size + 2]? = some (.mapIter (some tb) clock (seen.push x.born) clock) from HIT6.out, show W6.drew.heap[tb]? = some (.map (ME.map (ent ckey)).toArray clock) from HTB.out]
          rfl
end
end Go.Proofs.YtkhbemmcegmdaaaGreatDoor
end
section
set_option linter.all false
set_option linter.unusedVariables false
set_option maxRecDepth 100000
namespace Go.Proofs.YtkhbemmcegmdaaaGreatDoor
open Go.RowKit
open Go.ChangeMaps (setBlock)

def qold (Q : List CF) : Option CF := Q.find? fun x => decide (x.pins = 0)
theorem old_qold (Q : List CF) : lold (Q.map CF.abs) = (qold Q).map CF.abs := abs_old Q
theorem full_q (most : Nat) (Q : List CF) : lfull most (Q.map CF.abs) = (decide (most ≤ Q.length) && !(qold Q).isSome) := by
  unfold lfull
  rw [old_qold, List.length_map]
  cases qold Q <;> rfl
section
variable {w w1 : World} {cb fb tb clock most : Nat} {X XF : Nat → Prop} {room left clk : Int} {F : FileL} {ME : List (Ent CKey)} {Q : List CF} {s : CSt}
theorem cold2 (h : CRep w cb fb tb X XF room left F (most : Int) ME Q clk clock) (ho : COrd Q clk) : Calls Tryz.prog 130 #[.pointer (some ⟨cb, 0, none⟩)] w fun e w' => ∃ k : CKey, e = .returned (.tuple #[.agg #[.string ⟨k.1.toArray⟩, .int .i64 k.2], .bool (qold Q).isSome]) ∧ Fr (fun _ => False) w w' ∧ ∀ r, qold Q = some r → k = r.key := by
  refine (cold_ok h).mono ?_
  rintro e w' ⟨k, f, rfl, hf, hd⟩
  refine ⟨k, ?_, hf, ?_⟩
  · rcases hd with ⟨rfl, hn⟩ | ⟨rfl, r, h1, h2, h3, h4⟩
    · have : qold Q = none := by
        unfold qold
        rw [List.find?_eq_none]
        intro x hx
        simpa using hn x hx
      rw [this]
      rfl
    · have : qold Q = some r := ho.old h1 h3 h4
      rw [this]
      rfl
  · intro r hr
    rcases hd with ⟨rfl, hn⟩ | ⟨rfl, r', h1, h2, h3, h4⟩
    · have h5 := List.find?_some hr
      exact absurd (by simpa using h5) (hn r (List.mem_of_find?_eq_some hr))
    · have h5 : qold Q = some r' := ho.old h1 h3 h4
      rw [h5] at hr
      obtain rfl := Option.some.inj hr
      exact h2
theorem cfull_ok (h : CRep w cb fb tb X XF room left F (most : Int) ME Q clk clock) (ho : COrd Q clk) : Calls Tryz.prog 84 #[.pointer (some ⟨cb, 0, none⟩)] w fun e w' => e = .returned (.bool (lfull most (Q.map CF.abs))) ∧ Fr (fun _ => False) w w' := by
  have HO := hide (cold2 h ho)
  have c1 : w.cell? ⟨cb, 1, none⟩ = some (.int .i64 (most : Int)) := (h.blk.cell 1).trans rfl
  have c2 : w.cell? ⟨cb, 2, none⟩ = some (.map (some tb)) := (h.blk.cell 2).trans rfl
  have HC := hide (fun W (hS : Fr (fun _ => False) w W) => (⟨hS.cell c1 id, hS.cell c2 id, fun ty => by rw [← h.len]; exact len_ok (P := Tryz.prog) mapc (h.map.fr hS id) ty⟩ : W.cell? ⟨cb, 1, none⟩ = some (.int .i64 (most : Int)) ∧ W.cell? ⟨cb, 2, none⟩ = some (.map (some tb)) ∧ ∀ ty, (Builtin.len_ #[59] ty #[.map (some tb)]).run Tryz.prog W = .ok (.int .i64 (Q.length : Int)) W))
  clear h c1 c2
  have HFQ := hide (full_q most Q)
  obtain ⟨n, hn⟩ : ∃ n, Q.length = n := ⟨_, rfl⟩
  rw [hn] at HC HFQ
  obtain ⟨ok, hok⟩ : ∃ ok, (qold Q).isSome = ok := ⟨_, rfl⟩
  rw [hok] at HO HFQ
  go_enter Tryz.func84, Tryz.ntmps84
  go_wp2_with fail
  go_at_call 130
  refine HO.out.mono ?_
  rintro e w2 ⟨k, rfl, hf, _⟩
  have HF := hide hf
  clear hf
  go_wp2_with fail
  obtain ⟨W3, hW3⟩ : ∃ W3, W3 = w2.alloc (.cells #[.string ⟨k.1.toArray⟩, .int .i64 k.2] 139) := ⟨_, rfl⟩
  rw [← hW3]
  have HF3 := hide (show Fr (fun _ => False) w W3 by rw [hW3]; exact HF.out.alloc _)
  clear hW3
  by_cases hm : most ≤ n
  · have b0 : decide ((n : Int) ≥ (most : Int)) = true := by simp; omega
    have b1 : decide ((most : Int) ≤ (n : Int)) = true := by simp; omega
    refine wp_region_reads (fun W => Fr (fun _ => False) W3 W) (by kernel_rfl) (by kernel_rfl) (Fr.refl _ _).drew ?_
    iterate 15
      refine readsY_cons ?_ ?_ (fun W hS => ?_) ?_
      · rfl
      rotate_left
      · (obtain ⟨s1, s2, s3⟩ := HC.out W (HF3.out.then_ hS); go_simp; try with_reducible rfl)
      simp only [List.getElem_toArray, List.getElem_cons_zero, List.getElem_cons_succ, Act.put, List.setIfInBounds_toArray, List.set_cons_zero, List.set_cons_succ, b0, b1]
    simp only [wpReadsY]
    refine NoPanic.normal ?_
    go_wp2
    go_ret
    refine ⟨by rw [HFQ.out, decide_eq_true hm]; rfl, HF3.out.drew⟩
  · have b0 : decide ((n : Int) ≥ (most : Int)) = false := by simp; omega
    have b1 : decide ((most : Int) ≤ (n : Int)) = false := by simp; omega
    refine wp_region_reads (fun W => Fr (fun _ => False) W3 W) (by kernel_rfl) (by kernel_rfl) (Fr.refl _ _).drew ?_
    iterate 11
      refine readsY_cons ?_ ?_ (fun W hS => ?_) ?_
      · rfl
      rotate_left
      · (obtain ⟨s1, s2, s3⟩ := HC.out W (HF3.out.then_ hS); go_simp; try with_reducible rfl)
      simp only [List.getElem_toArray, List.getElem_cons_zero, List.getElem_cons_succ, Act.put, List.setIfInBounds_toArray, List.set_cons_zero, List.set_cons_succ, b0, b1]
    iterate 2
      refine readsY_skip ?_ ?_
      · rfl
      simp only [List.getElem_toArray, List.getElem_cons_zero, List.getElem_cons_succ, Act.put, List.setIfInBounds_toArray, List.set_cons_zero, List.set_cons_succ, b0, b1]
    iterate 2
      refine readsY_cons ?_ ?_ (fun W hS => ?_) ?_
      · rfl
      rotate_left
      · (obtain ⟨s1, s2, s3⟩ := HC.out W (HF3.out.then_ hS); go_simp; try with_reducible rfl)
      simp only [List.getElem_toArray, List.getElem_cons_zero, List.getElem_cons_succ, Act.put, List.setIfInBounds_toArray, List.set_cons_zero, List.set_cons_succ, b0, b1]
    simp only [wpReadsY]
    refine NoPanic.normal ?_
    go_wp2
    go_ret
    refine ⟨by rw [HFQ.out, decide_eq_false hm]; rfl, HF3.out.drew⟩
theorem ccome_ok (h : CRep w cb fb tb X XF room left F (most : Int) ME Q clk clock) (ho : COrd Q clk) (k : CKey) (hk : ∀ x ∈ Q, x.key ≠ k) (dt : List UInt8) : Calls Tryz.prog 85 #[.pointer (some ⟨cb, 0, none⟩), .agg #[.string ⟨k.1.toArray⟩, .int .i64 k.2], .string ⟨dt.toArray⟩] w fun e w' =>
    ∃ g X' ME' Q1 clock' b, e = .returned (.pointer (some ⟨g, 0, none⟩)) ∧ CRep w' cb fb tb X' XF room left F (most : Int) ME' (Q1 ++ [⟨k, dt, 0, 0, g, b⟩]) clk clock' ∧ Q1.map CF.abs = lroom most (Q.map CF.abs) ∧ COrd Q1 clk ∧ (∀ j, X' j → X j ∨ w.heap.size ≤ j) ∧ Fr X w w' := by
  have HO := hide (fun W (hf : Fr (fun _ => False) w W) => cold2 (h.keep hf (fun _ _ h => h)) ho)
  have c1 : w.cell? ⟨cb, 1, none⟩ = some (.int .i64 (most : Int)) := (h.blk.cell 1).trans rfl
  have c2 : w.cell? ⟨cb, 2, none⟩ = some (.map (some tb)) := (h.blk.cell 2).trans rfl
  have HC := hide (fun W (hS : Fr (fun _ => False) w W) => (⟨hS.cell c1 id, hS.cell c2 id, fun ty => by rw [← h.len]; exact len_ok (P := Tryz.prog) mapc (h.map.fr hS id) ty⟩ : W.cell? ⟨cb, 1, none⟩ = some (.int .i64 (most : Int)) ∧ W.cell? ⟨cb, 2, none⟩ = some (.map (some tb)) ∧ ∀ ty, (Builtin.len_ #[59] ty #[.map (some tb)]).run Tryz.prog W = .ok (.int .i64 (Q.length : Int)) W))
  have HH := hide h
  have HOR := hide ho
  have HK := hide hk
  clear h c1 c2 ho hk
  have HQL : Hid ((Q.map CF.abs).length = Q.length) := List.length_map _
  obtain ⟨n, hn⟩ : ∃ n, Q.length = n := ⟨_, rfl⟩
  rw [hn] at HC HQL
  clear hn
  go_enter Tryz.func85, Tryz.ntmps85
  go_wp2_with fail
  obtain ⟨W3, hW3⟩ : ∃ W3, W3 = w.alloc (.cells #[.string ⟨k.1.toArray⟩, .int .i64 k.2] 139) := ⟨_, rfl⟩
  rw [← hW3]
  have HF3 := hide (show Fr (fun _ => False) w W3 by rw [hW3]; exact (Fr.refl _ _).alloc _)
  have HKB : Hid (Blk W3 w.heap.size 139 (kcells k)) := by rw [hW3]; exact Blk.new w 139 _
  clear hW3
  by_cases hm : most ≤ n
  · have b0 : decide ((n : Int) ≥ (most : Int)) = true := by simp; omega
    have b1 : decide ((most : Int) ≤ (n : Int)) = true := by simp; omega
    refine wp_region_reads (fun W => Fr (fun _ => False) W3 W) (by kernel_rfl) (by kernel_rfl) (Fr.refl _ _).drew ?_
    iterate 10
      refine readsY_cons ?_ ?_ (fun W hS => ?_) ?_
      · rfl
      rotate_left
      · (obtain ⟨s1, s2, s3⟩ := HC.out W (HF3.out.then_ hS); go_simp; try with_reducible rfl)
      simp only [List.getElem_toArray, List.getElem_cons_zero, List.getElem_cons_succ, Act.put, List.setIfInBounds_toArray, List.set_cons_zero, List.set_cons_succ, b0, b1]
    simp only [wpReadsY]
    refine NoPanic.normal ?_
    go_wp2_with fail
    go_at_call 130
    refine (HO.out _ HF3.out.drew).mono ?_
    rintro e w4 ⟨ok, rfl, hf4, hold⟩
    have HF4 := hide (HF3.out.drew.then_ hf4)
    have HKB4 := hide (HKB.out.drew.fr hf4 id)
    have HOLD := hide hold
    clear hf4 hold
    cases hq : qold Q with
    | none =>
      go_wp2_with fail
      obtain ⟨W5, hW5⟩ : ∃ W5, W5 = w4.alloc (.cells #[.string ⟨ok.1.toArray⟩, .int .i64 ok.2] 139) := ⟨_, rfl⟩
      rw [← hW5]
      have F45 : Fr (fun _ => False) w4 W5 := by rw [hW5]; exact (Fr.refl _ _).alloc _
      have HSZ := hide (show W5.heap.size = w4.heap.size + 1 by rw [hW5]; simp)
      have HF5 := hide ((HF4.out.then_ F45).mono (S' := X) (fun _ h => h.elim))
      have HKB5 := hide (HKB4.out.fr F45 id)
      have HR5 := hide (HH.out.keep (HF4.out.then_ F45) (fun _ _ h => h))
      clear hW5 F45
      go_wp2_with fail
      have hsz := HSZ.out
      rw [← hsz]
      obtain ⟨g, hg⟩ : ∃ g, W5.heap.size = g := ⟨_, rfl⟩
      try rw [hg]
      obtain ⟨W8, hW8⟩ : ∃ W8, W8 = W5.alloc (.cells #[.string ⟨dt.toArray⟩, .int .i64 0, .int .i64 0] 132) := ⟨_, rfl⟩
      rw [← hW8]
      have F8 : Fr (fun _ => False) W5 W8 := by rw [hW8]; exact (Fr.refl _ _).alloc _
      have HF8 := hide F8
      have HB8 : Hid (Blk W8 g 132 #[strv dt, .int .i64 ((0 : Nat) : Int), .int .i64 0]) := by rw [hW8, ← hg]; exact Blk.new W5 132 _
      have k0 : W8.cell? ⟨w.heap.size, 0, none⟩ = some (.string ⟨k.1.toArray⟩) := (((HKB5.out.fr F8 id)).cell 0).trans rfl
      have k1 : W8.cell? ⟨w.heap.size, 1, none⟩ = some (.int .i64 k.2) := (((HKB5.out.fr F8 id)).cell 1).trans rfl
      have k2 : W8.cell? ⟨cb, 2, none⟩ = some (.map (some tb)) := (((HR5.out.blk.fr F8 id)).cell 2).trans rfl
      have HK8 := hide (fun W (hS : Fr (fun _ => False) W8 W) => (⟨hS.cell k0 id, hS.cell k1 id, hS.cell k2 id⟩ : W.cell? ⟨w.heap.size, 0, none⟩ = some (.string ⟨k.1.toArray⟩) ∧ W.cell? ⟨w.heap.size, 1, none⟩ = some (.int .i64 k.2) ∧ W.cell? ⟨cb, 2, none⟩ = some (.map (some tb))))
      have HG := hide hg
      clear hW8 F8 hg k0 k1 k2
      refine wp_region_phased 6 0 0 (fun W => Fr (fun _ => False) W8 W) (by kernel_rfl) (by kernel_rfl) (Fr.refl _ _).drew ?_
      simp only [List.take_succ_cons, List.take_zero, List.drop_succ_cons, List.drop_zero]
      iterate 6
        refine wpReads_cons rfl ?_ (fun W hS => ?_) ?_
        rotate_left
        · (obtain ⟨s1, s2, s3⟩ := HK8.out W hS; go_simp; try with_reducible rfl)
        simp only [Act.put, List.setIfInBounds_toArray, List.set_cons_zero, List.set_cons_succ]
      refine (show wpMid _ _ _ _ _ _ _ _ from ?_)
      simp only [wpMid]
      obtain ⟨W9, hW9⟩ : ∃ W9, W9 = W8.drew := ⟨_, rfl⟩
      rw [← hW9]
      have F9 := HF8.out.drew
      rw [← hW9] at F9
      have hup : (Instr.mapUpdate 59 (.map (some tb)) (.agg #[.string ⟨k.1.toArray⟩, .int .i64 k.2]) (.pointer (some ⟨g, 0, none⟩))).run Tryz.prog W9 = .ok () (setBlock W9 tb (.map ((aput k (ptr g) ME clock).map (ent ckey)).toArray (aclk k ME clock))) := update_ok (P := Tryz.prog) key_ck mapc (HR5.out.map.fr F9 id) k (ptr g)
      have HR9 := hide (HR5.out.add F9 (g := g) ⟨k, dt, 0, 0, g, clock⟩ rfl rfl (by rw [← HG.out]; exact Nat.le_refl _) (by have := HB8.out.drew; rw [← hW9] at this; exact this) HK.out)
      have HF9 := hide ((HF5.out.trans F9 (fun _ h => h.elim)).trans (fr_setBlock W9 tb (.map ((aput k (ptr g) ME clock).map (ent ckey)).toArray (aclk k ME clock))) (fun j hj => .inl (by rw [hj]; exact HR5.out.xt)))
      have HGE := hide (show w.heap.size ≤ g by rw [← HG.out]; exact HF5.out.size)
      clear hW9 F9
      go_wp2
      refine NoPanic.normal ?_
      go_wp2
      go_ret
      refine ⟨g, _, _, Q, _, clock, rfl, HR9.out, by unfold lroom; rw [HQL.out, if_pos hm, old_qold, hq]; rfl, HOR.out, fun j hj => ?_, HF9.out⟩
      rcases hj with hj | hj
      · exact .inl hj
      · rw [hj]; exact .inr HGE.out
    | some r =>
      have hkr := HOLD.out r hq
      have hrm : r ∈ Q := List.mem_of_find?_eq_some hq
      subst hkr
      go_wp2_with fail
      obtain ⟨nb, hnb⟩ : ∃ nb, w4.heap.size = nb := ⟨_, rfl⟩
      rw [hnb]
      obtain ⟨W5, hW5⟩ : ∃ W5, W5 = w4.alloc (.cells #[.string ⟨r.key.1.toArray⟩, .int .i64 r.key.2] 139) := ⟨_, rfl⟩
      rw [← hW5]
      have F45 : Fr (fun _ => False) w4 W5 := by rw [hW5]; exact (Fr.refl _ _).alloc _
      have HF5 := hide (HF4.out.then_ F45)
      have HKB5 := hide (HKB4.out.fr F45 id)
      have HR5 := hide (HH.out.keep (HF4.out.then_ F45) (fun _ _ h => h))
      have HBN : Hid (Blk W5 nb 139 (kcells r.key)) := by rw [hW5, ← hnb]; exact Blk.new w4 139 _
      have n0 : W5.cell? ⟨nb, 0, none⟩ = some (.string ⟨r.key.1.toArray⟩) := (HBN.out.cell 0).trans rfl
      have n1 : W5.cell? ⟨nb, 1, none⟩ = some (.int .i64 r.key.2) := (HBN.out.cell 1).trans rfl
      have HNT := hide (show nb ≠ tb by rw [← hnb]; have h1 := HH.out.lt tb HH.out.xt; have h2 := HF4.out.size; omega)
      clear hW5 F45 hnb
      have HND : Hid (cb ≠ tb ∧ nb ≠ tb) := ⟨HH.out.ne, HNT.out⟩
      have c2w : W5.cell? ⟨cb, 2, none⟩ = some (.map (some tb)) := (HR5.out.blk.cell 2).trans rfl
      have HS5 := hide (fun W (hS : Fr (fun j => j = tb) W5 W) => (⟨hS.cell c2w HND.out.1, hS.cell n0 HND.out.2, hS.cell n1 HND.out.2⟩ : W.cell? ⟨cb, 2, none⟩ = some (.map (some tb)) ∧ W.cell? ⟨nb, 0, none⟩ = some (.string ⟨r.key.1.toArray⟩) ∧ W.cell? ⟨nb, 1, none⟩ = some (.int .i64 r.key.2)))
      clear c2w n0 n1
      refine wp_region_ord [(0, true), (1, true), (2, true), (3, true), (4, true), (5, false)] (fun W => W.cell? ⟨cb, 2, none⟩ = some (.map (some tb)) ∧ W.cell? ⟨nb, 0, none⟩ = some (.string ⟨r.key.1.toArray⟩) ∧ W.cell? ⟨nb, 1, none⟩ = some (.int .i64 r.key.2)) (by kernel_rfl) (by kernel_rfl) (HS5.out _ (Fr.refl _ _).drew) ?_
      iterate 5
        refine ord_read rfl ?_ ?_ (fun W hS => ?_) ?_
        · rfl
        rotate_left
        · (obtain ⟨s0, s1, s2⟩ := hS; go_simp; try with_reducible rfl)
        simp only [List.getElem_toArray, List.getElem_cons_zero, List.getElem_cons_succ, Act.put, List.setIfInBounds_toArray, List.set_cons_zero, List.set_cons_succ]
      refine ord_act rfl ?_
      obtain ⟨W6, hW6⟩ : ∃ W6, W6 = W5.drew := ⟨_, rfl⟩
      rw [← hW6]
      have F56 : Fr (fun _ => False) W5 W6 := by rw [hW6]; exact (Fr.refl _ _).drew
      have hd : ∀ ty, (Builtin.delete_ #[59, 139] ty #[.map (some tb), .agg #[.string ⟨r.key.1.toArray⟩, .int .i64 r.key.2]]).run Tryz.prog W6 = .ok (.tuple #[]) (setBlock W6 tb (.map ((adel r.key ME).map (ent ckey)).toArray clock)) := fun ty => delete_ok (P := Tryz.prog) key_ck mapc (HR5.out.map.fr F56 id) r.key ty
      have HR6 := hide ((HR5.out.keep F56 (fun _ _ h => h)).del r.key)
      have hfs := fr_setBlock W6 tb (.map ((adel r.key ME).map (ent ckey)).toArray clock)
      have HF6 := hide (((HF5.out.then_ F56).mono (S' := X) (fun _ h => h.elim)).trans hfs (fun j hj => .inl (by rw [hj]; exact HH.out.xt)))
      have hlt := HH.out.lt tb HH.out.xt
      have HKB6 := hide ((HKB5.out.fr F56 id).fr hfs (by omega))
      have HS6 := HS5.out _ ((F56.mono (S' := fun j => j = tb) (fun _ h => h.elim)).trans hfs (fun j hj => .inl hj))
      clear hW6 F56 hfs hlt
      go_wp2
      refine midQ_ok HS6 ?_
      refine ord_done ?_
      refine NoPanic.normal ?_
      go_wp2_with fail
      obtain ⟨W7, hW7⟩ : ∃ W7, W7 = setBlock W6 tb (.map ((adel r.key ME).map (ent ckey)).toArray clock) := ⟨_, rfl⟩
      rw [← hW7] at HR6 HF6 HKB6 ⊢
      clear hW7 hd
      obtain ⟨g, hg⟩ : ∃ g, W7.heap.size = g := ⟨_, rfl⟩
      try rw [hg]
      obtain ⟨W8, hW8⟩ : ∃ W8, W8 = W7.alloc (.cells #[.string ⟨dt.toArray⟩, .int .i64 0, .int .i64 0] 132) := ⟨_, rfl⟩
      rw [← hW8]
      have F8 : Fr (fun _ => False) W7 W8 := by rw [hW8]; exact (Fr.refl _ _).alloc _
      have HF8 := hide F8
      have HB8 : Hid (Blk W8 g 132 #[strv dt, .int .i64 ((0 : Nat) : Int), .int .i64 0]) := by rw [hW8, ← hg]; exact Blk.new W7 132 _
      have k0 : W8.cell? ⟨w.heap.size, 0, none⟩ = some (.string ⟨k.1.toArray⟩) := (((HKB6.out.fr F8 id)).cell 0).trans rfl
      have k1 : W8.cell? ⟨w.heap.size, 1, none⟩ = some (.int .i64 k.2) := (((HKB6.out.fr F8 id)).cell 1).trans rfl
      have k2 : W8.cell? ⟨cb, 2, none⟩ = some (.map (some tb)) := (((HR6.out.blk.fr F8 id)).cell 2).trans rfl
      have HK8 := hide (fun W (hS : Fr (fun _ => False) W8 W) => (⟨hS.cell k0 id, hS.cell k1 id, hS.cell k2 id⟩ : W.cell? ⟨w.heap.size, 0, none⟩ = some (.string ⟨k.1.toArray⟩) ∧ W.cell? ⟨w.heap.size, 1, none⟩ = some (.int .i64 k.2) ∧ W.cell? ⟨cb, 2, none⟩ = some (.map (some tb))))
      have HG := hide hg
      clear hW8 F8 hg k0 k1 k2
      refine wp_region_phased 6 0 0 (fun W => Fr (fun _ => False) W8 W) (by kernel_rfl) (by kernel_rfl) (Fr.refl _ _).drew ?_
      simp only [List.take_succ_cons, List.take_zero, List.drop_succ_cons, List.drop_zero]
      iterate 6
        refine wpReads_cons rfl ?_ (fun W hS => ?_) ?_
        rotate_left
        · (obtain ⟨s1, s2, s3⟩ := HK8.out W hS; go_simp; try with_reducible rfl)
        simp only [Act.put, List.setIfInBounds_toArray, List.set_cons_zero, List.set_cons_succ]
      refine (show wpMid _ _ _ _ _ _ _ _ from ?_)
      simp only [wpMid]
      obtain ⟨W9, hW9⟩ : ∃ W9, W9 = W8.drew := ⟨_, rfl⟩
      rw [← hW9]
      have F9 := HF8.out.drew
      rw [← hW9] at F9
      have hup : (Instr.mapUpdate 59 (.map (some tb)) (.agg #[.string ⟨k.1.toArray⟩, .int .i64 k.2]) (.pointer (some ⟨g, 0, none⟩))).run Tryz.prog W9 = .ok () (setBlock W9 tb (.map ((aput k (ptr g) (adel r.key ME) clock).map (ent ckey)).toArray (aclk k (adel r.key ME) clock))) := update_ok (P := Tryz.prog) key_ck mapc (HR6.out.map.fr F9 id) k (ptr g)
      have HR9 := hide (HR6.out.add F9 (g := g) ⟨k, dt, 0, 0, g, clock⟩ rfl rfl (by rw [← HG.out]; exact Nat.le_refl _) (by have := HB8.out.drew; rw [← hW9] at this; exact this) (fun y hy => HK.out y (List.mem_filter.1 hy).1))
      have HF9 := hide ((HF6.out.trans F9 (fun _ h => h.elim)).trans (fr_setBlock W9 tb (.map ((aput k (ptr g) (adel r.key ME) clock).map (ent ckey)).toArray (aclk k (adel r.key ME) clock))) (fun j hj => .inl (by rw [hj]; exact HR6.out.xt)))
      have HGE := hide (show w.heap.size ≤ g by rw [← HG.out]; exact HF6.out.size)
      clear hW9 F9
      go_wp2
      refine NoPanic.normal ?_
      go_wp2
      go_ret
      refine ⟨g, _, _, (Q.filter fun x => decide (x.key ≠ r.key)), _, clock, rfl, HR9.out, by unfold lroom; rw [HQL.out, if_pos hm, old_qold, hq]; exact (abs_wo Q r.key).symm, HOR.out.wo _, fun j hj => ?_, HF9.out⟩
      rcases hj with hj | hj
      · exact .inl hj
      · rw [hj]; exact .inr HGE.out
  · have b0 : decide ((n : Int) ≥ (most : Int)) = false := by simp; omega
    have b1 : decide ((most : Int) ≤ (n : Int)) = false := by simp; omega
    refine wp_region_reads (fun W => Fr (fun _ => False) W3 W) (by kernel_rfl) (by kernel_rfl) (Fr.refl _ _).drew ?_
    iterate 10
      refine readsY_cons ?_ ?_ (fun W hS => ?_) ?_
      · rfl
      rotate_left
      · (obtain ⟨s1, s2, s3⟩ := HC.out W (HF3.out.then_ hS); go_simp; try with_reducible rfl)
      simp only [List.getElem_toArray, List.getElem_cons_zero, List.getElem_cons_succ, Act.put, List.setIfInBounds_toArray, List.set_cons_zero, List.set_cons_succ, b0, b1]
    simp only [wpReadsY]
    refine NoPanic.normal ?_
    obtain ⟨W5, hW5⟩ : ∃ W5, W5 = W3.drew := ⟨_, rfl⟩
    rw [← hW5]
    have HF5 := hide (show Fr X w W5 by rw [hW5]; exact (HF3.out.drew.mono (fun _ h => h.elim)))
    have HKB5 := hide (show Blk W5 w.heap.size 139 (kcells k) by rw [hW5]; exact HKB.out.drew)
    have HR5 := hide (show CRep W5 cb fb tb X XF room left F (most : Int) ME Q clk clock by rw [hW5]; exact HH.out.keep HF3.out.drew (fun _ _ h => h))
    clear hW5
    go_wp2_with fail
    obtain ⟨g, hg⟩ : ∃ g, W5.heap.size = g := ⟨_, rfl⟩
    try rw [hg]
    obtain ⟨W8, hW8⟩ : ∃ W8, W8 = W5.alloc (.cells #[.string ⟨dt.toArray⟩, .int .i64 0, .int .i64 0] 132) := ⟨_, rfl⟩
    rw [← hW8]
    have F8 : Fr (fun _ => False) W5 W8 := by rw [hW8]; exact (Fr.refl _ _).alloc _
    have HF8 := hide F8
    have HB8 : Hid (Blk W8 g 132 #[strv dt, .int .i64 ((0 : Nat) : Int), .int .i64 0]) := by rw [hW8, ← hg]; exact Blk.new W5 132 _
    have k0 : W8.cell? ⟨w.heap.size, 0, none⟩ = some (.string ⟨k.1.toArray⟩) := (((HKB5.out.fr F8 id)).cell 0).trans rfl
    have k1 : W8.cell? ⟨w.heap.size, 1, none⟩ = some (.int .i64 k.2) := (((HKB5.out.fr F8 id)).cell 1).trans rfl
    have k2 : W8.cell? ⟨cb, 2, none⟩ = some (.map (some tb)) := (((HR5.out.blk.fr F8 id)).cell 2).trans rfl
    have HK8 := hide (fun W (hS : Fr (fun _ => False) W8 W) => (⟨hS.cell k0 id, hS.cell k1 id, hS.cell k2 id⟩ : W.cell? ⟨w.heap.size, 0, none⟩ = some (.string ⟨k.1.toArray⟩) ∧ W.cell? ⟨w.heap.size, 1, none⟩ = some (.int .i64 k.2) ∧ W.cell? ⟨cb, 2, none⟩ = some (.map (some tb))))
    have HG := hide hg
    clear hW8 F8 hg k0 k1 k2
    refine wp_region_phased 6 0 0 (fun W => Fr (fun _ => False) W8 W) (by kernel_rfl) (by kernel_rfl) (Fr.refl _ _).drew ?_
    simp only [List.take_succ_cons, List.take_zero, List.drop_succ_cons, List.drop_zero]
    iterate 6
      refine wpReads_cons rfl ?_ (fun W hS => ?_) ?_
      rotate_left
      · (obtain ⟨s1, s2, s3⟩ := HK8.out W hS; go_simp; try with_reducible rfl)
      simp only [Act.put, List.setIfInBounds_toArray, List.set_cons_zero, List.set_cons_succ]
    refine (show wpMid _ _ _ _ _ _ _ _ from ?_)
    simp only [wpMid]
    obtain ⟨W9, hW9⟩ : ∃ W9, W9 = W8.drew := ⟨_, rfl⟩
    rw [← hW9]
    have F9 := HF8.out.drew
    rw [← hW9] at F9
    have hup : (Instr.mapUpdate 59 (.map (some tb)) (.agg #[.string ⟨k.1.toArray⟩, .int .i64 k.2]) (.pointer (some ⟨g, 0, none⟩))).run Tryz.prog W9 = .ok () (setBlock W9 tb (.map ((aput k (ptr g) ME clock).map (ent ckey)).toArray (aclk k ME clock))) := update_ok (P := Tryz.prog) key_ck mapc (HR5.out.map.fr F9 id) k (ptr g)
    have HR9 := hide (HR5.out.add F9 (g := g) ⟨k, dt, 0, 0, g, clock⟩ rfl rfl (by rw [← HG.out]; exact Nat.le_refl _) (by have := HB8.out.drew; rw [← hW9] at this; exact this) HK.out)
    have HF9 := hide ((HF5.out.trans F9 (fun _ h => h.elim)).trans (fr_setBlock W9 tb (.map ((aput k (ptr g) ME clock).map (ent ckey)).toArray (aclk k ME clock))) (fun j hj => .inl (by rw [hj]; exact HR5.out.xt)))
    have HGE := hide (show w.heap.size ≤ g by rw [← HG.out]; exact HF5.out.size)
    clear hW9 F9
    go_wp2
    refine NoPanic.normal ?_
    go_wp2
    go_ret
    refine ⟨g, _, _, Q, _, clock, rfl, HR9.out, by unfold lroom; rw [HQL.out, if_neg hm], HOR.out, fun j hj => ?_, HF9.out⟩
    rcases hj with hj | hj
    · exact .inl hj
    · rw [hj]; exact .inr HGE.out
end
end Go.Proofs.YtkhbemmcegmdaaaGreatDoor
end
section
set_option linter.all false
set_option linter.unusedVariables false
set_option maxRecDepth 100000
namespace Go.Proofs.YtkhbemmcegmdaaaGreatDoor
open Go.RowKit

theorem fread_any {w : World} {fb : Nat} {X : Nat → Prop} {room left : Int} {F : FileL} (h : FSAt w fb X room left F) (n : Name) (i : Int) (hl : -1 ≤ left ∧ left ≤ 9223372036854775807) :
    Calls Tryz.prog 36 #[.pointer (some ⟨fb, 0, none⟩), .string ⟨n.toArray⟩, .int .i64 i] w fun e w' => e = .returned (.tuple #[.string ⟨(frd left F n i).2.1.toArray⟩, .int .i64 (frd left F n i).1]) ∧ FSAt w' fb X room (frd left F n i).2.2 F ∧ Fr X w w' := by
  rcases Decidable.em (0 ≤ i ∧ i < ((fpg n F).length : Int)) with hi | hi
  · obtain ⟨j, rfl⟩ : ∃ j : Nat, i = (j : Int) := ⟨i.toNat, by omega⟩
    refine (fread_ok h n j (by omega) hl).mono ?_
    rintro e w' ⟨rfl, h1, h2⟩
    unfold frd
    rw [if_pos hi]
    by_cases h0 : left = 0
    · subst h0
      rw [if_pos rfl, if_pos rfl]
      exact ⟨rfl, h1, h2⟩
    · rw [if_neg h0, if_neg h0]
      exact ⟨by simp, h1, h2⟩
  · refine (fread_none h n i hi).mono ?_
    rintro e w' ⟨rfl, rfl⟩
    unfold frd
    rw [if_neg hi]
    exact ⟨rfl, h, Fr.refl _ _⟩
end Go.Proofs.YtkhbemmcegmdaaaGreatDoor
end
