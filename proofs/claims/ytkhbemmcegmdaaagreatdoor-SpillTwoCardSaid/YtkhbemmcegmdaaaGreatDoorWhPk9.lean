/- Parts of the proof of several laws: no conditions of their own. -/
import Derived.Test.YtkhbemmcegmdaaaGreatDoorWhPk8
import Derived.Test.YtkhbemmcegmdaaaGreatDoorWhPk5
import Derived.WideShapes
section
set_option linter.all false
set_option linter.unusedVariables false
set_option maxRecDepth 100000
namespace Go.Proofs.YtkhbemmcegmdaaaGreatDoor
open Go.RowKit
open Go.ChangeMaps (setBlock)

theorem own_zero {w : World} {base n : Nat} {e : TypeId} {v : Value} {xs : List Value} (h : w.ownsRow base e 1 v n xs) : w.ownsRow 0 e 1 v n xs := by
  refine ⟨h.1, ?_⟩
  rcases h.2 with h1 | ⟨g, cap, cur, e1, _, rest⟩
  · exact .inl h1
  · exact .inr ⟨g, cap, cur, e1, Nat.zero_le _, rest⟩
section
variable {w w1 : World} {fb mb clock : Nat} {X S : Nat → Prop} {room left : Int} {F : FileL} {L : List (Ent Name)}
theorem fwrite_bad (h : FSAt w1 fb X room left F) (n : Name) (A : Option Addr) (m c : Nat) (hn : n.length ≤ 9223372036854775807) (hnb : nameB n = false) :
    Calls Tryz.prog 55 #[.pointer (some ⟨fb, 0, none⟩), .string ⟨n.toArray⟩, .slice A m c] w1 fun e w' => e = .returned (.int .i64 2) ∧ Fr (fun _ => False) w1 w' := by
  have HN := hide (fnone_ok h)
  have HNA := hide (fun w => fname_ok n hn w)
  clear h
  go_enter Tryz.func55, Tryz.ntmps55
  go_wp2_with fail
  go_at_call 62
  refine HN.out.mono ?_
  rintro e w2 ⟨rfl, rfl⟩
  go_wp2_with fail
  go_at_call 63
  refine (HNA.out _).mono ?_
  rintro e w2 ⟨rfl, hf⟩
  rw [hnb]
  have HF := hide hf
  clear hf
  go_wp2
  go_ret
  exact ⟨rfl, HF.out⟩
theorem fwrite_room (h : FSAt w1 fb X room left F) (hI : FInv room F) (n : Name) (hnb : nameB n = true) (A : Option Addr) (m c B : Nat) (pg : List (List UInt8)) (hr : Reads w1 B 1 A m (pg.map strv)) (hB : B ≤ w1.heap.size) (hl : ∀ s ∈ pg, s.length = 128) (hm : m ≤ 100000) (hfit : room - ((total F : Nat) : Int) + ((fpg n F).length : Int) < (m : Int)) : Calls Tryz.prog 55 #[.pointer (some ⟨fb, 0, none⟩), .string ⟨n.toArray⟩, .slice A m c] w1 fun e w' => e = .returned (.int .i64 61) ∧ Fr (fun _ => False) w1 w' := by
  have hn : n.length ≤ 9223372036854775807 := by have := nameB_len hnb; omega
  have HN := hide (fnone_ok h)
  have HNA := hide (fun w => fname_ok n hn w)
  have HUS := hide (fun W (hf : Fr (fun _ => False) w1 W) => fused_ok (h.up hf) hI.bnd)
  have HPG := hide (fun W (hf : Fr (fun _ => False) w1 W) => fpages_ok (h.up hf) n)
  have HCN := hide (fun W (hf : Fr (fun _ => False) w1 W) => contf_ok A m c B pg W (hr.fr hf hB (fun _ h => h.elim)) hm hl)
  have htl := total_pg (F := F) n
  have hrm := hI.rm
  have htt := hI.tot
  have hml : m = pg.length := by have := hr.1; simpa using this.symm
  have HRD := hide hr
  have HBB := hide hB
  obtain ⟨mb, L, clock, h⟩ := h
  have c0 : w1.cell? ⟨fb, 0, none⟩ = some (.int .i64 room) := (h.blk.cell 0).trans rfl
  have HC0 := hide (fun W (hf : Fr (fun _ => False) w1 W) => (show W.cell? ⟨fb, 0, none⟩ = some (.int .i64 room) from hf.cell c0 id))
  have HH := hide h
  obtain ⟨q, hq⟩ : ∃ q, (fpg n F).length = q := ⟨_, rfl⟩
  rw [hq] at HPG htl hfit
  obtain ⟨t, ht⟩ : ∃ t, total F = t := ⟨_, rfl⟩
  rw [ht] at HUS htl htt hfit
  have hw1 : IntKind.i64.wrap (room - (t : Int)) = room - (t : Int) := by simp only [IntKind.wrap, IntKind.bits, IntKind.signed]; simp; omega
  have hw2 : IntKind.i64.wrap (room - (t : Int) + (q : Int)) = room - (t : Int) + (q : Int) := by simp only [IntKind.wrap, IntKind.bits, IntKind.signed]; simp; omega
  have HML := hide hml
  clear h hr c0
  have b0 : decide ((m : Int) > room - (t : Int) + (q : Int)) = true := by simp; omega
  have b1 : decide (room - (t : Int) + (q : Int) < (m : Int)) = true := by simp; omega
  clear htl htt hfit hml
  go_enter Tryz.func55, Tryz.ntmps55
  go_wp2_with fail
  go_at_call 62
  refine HN.out.mono ?_
  rintro e w2 ⟨rfl, rfl⟩
  go_wp2_with fail
  go_at_call 63
  refine (HNA.out _).mono ?_
  rintro e w2 ⟨rfl, hf⟩
  rw [hnb]
  have HF := hide hf
  clear hf
  go_wp2_with fail
  go_at_call 95
  refine (HCN.out _ HF.out).mono ?_
  rintro e w3 ⟨rfl, rfl⟩
  go_wp2_with fail
  refine wp_region_ord [(0, true), (1, true), (2, true), (3, true), (4, true), (5, true), (6, true), (9, true), (10, true), (7, false), (8, true), (11, false), (12, true), (13, true), (14, true)] (fun W => Fr (fun _ => False) w1 W) (by kernel_rfl) (by kernel_rfl) HF.out.drew ?_
  iterate 9
    refine ord_read rfl ?_ ?_ (fun W hS => ?_) ?_
    · rfl
    rotate_left
    · (have s0 := HC0.out _ hS; go_simp; try with_reducible rfl)
    simp only [List.getElem_toArray, List.getElem_cons_zero, List.getElem_cons_succ, Act.put, List.setIfInBounds_toArray, List.set_cons_zero, List.set_cons_succ]
  refine ord_act rfl ?_
  go_wp2_with fail
  go_at_call 33
  refine (HUS.out _ HF.out.drew).mono ?_
  rintro e w3 ⟨rfl, hf⟩
  have HF3 := hide (HF.out.drew.then_ hf)
  clear hf
  go_wp2
  refine midQ_ok HF3.out ?_
  iterate 1
    refine ord_read rfl ?_ ?_ (fun W hS => ?_) ?_
    · rfl
    rotate_left
    · (skip; go_simp; try with_reducible rfl)
    simp only [List.getElem_toArray, List.getElem_cons_zero, List.getElem_cons_succ, Act.put, List.setIfInBounds_toArray, List.set_cons_zero, List.set_cons_succ]
  refine ord_act rfl ?_
  go_wp2_with fail
  go_at_call 43
  refine (HPG.out _ HF3.out).mono ?_
  rintro e w4 ⟨rfl, rfl⟩
  go_wp2
  refine midQ_ok HF3.out ?_
  iterate 3
    refine ord_read rfl ?_ ?_ (fun W hS => ?_) ?_
    · rfl
    rotate_left
    · (skip; go_simp; try with_reducible rfl)
    simp only [List.getElem_toArray, List.getElem_cons_zero, List.getElem_cons_succ, Act.put, List.setIfInBounds_toArray, List.set_cons_zero, List.set_cons_succ]
  refine ord_done ?_
  refine NoPanic.normal ?_
  go_wp2
  go_ret
  exact ⟨rfl, HF3.out⟩
theorem fwrite_ok (h : FSAt w1 fb X room left F) (hI : FInv room F) (n : Name) (hnb : nameB n = true) (A : Option Addr) (m c B : Nat) (pg : List (List UInt8)) (hr : Reads w1 B 1 A m (pg.map strv)) (hB : B ≤ w1.heap.size) (hl : ∀ s ∈ pg, s.length = 128) (hm : m ≤ 100000) (hne : pg ≠ []) (hfit : ¬ room - ((total F : Nat) : Int) + ((fpg n F).length : Int) < (m : Int)) : Calls Tryz.prog 55 #[.pointer (some ⟨fb, 0, none⟩), .string ⟨n.toArray⟩, .slice A m c] w1 fun e w' => e = .returned (.int .i64 0) ∧ (∃ X', FSAt w' fb X' room left (fput n pg F) ∧ ∀ k, X' k → X k ∨ w1.heap.size ≤ k) ∧ Fr X w1 w' := by
  have hn : n.length ≤ 9223372036854775807 := by have := nameB_len hnb; omega
  have HN := hide (fnone_ok h)
  have HNA := hide (fun w => fname_ok n hn w)
  have HUS := hide (fun W (hf : Fr (fun _ => False) w1 W) => fused_ok (h.up hf) hI.bnd)
  have HPG := hide (fun W (hf : Fr (fun _ => False) w1 W) => fpages_ok (h.up hf) n)
  have HCN := hide (fun W (hf : Fr (fun _ => False) w1 W) => contf_ok A m c B pg W (hr.fr hf hB (fun _ h => h.elim)) hm hl)
  have htl := total_pg (F := F) n
  have hrm := hI.rm
  have htt := hI.tot
  have hml : m = pg.length := by have := hr.1; simpa using this.symm
  have HRD := hide hr
  have HBB := hide hB
  obtain ⟨mb, L, clock, h⟩ := h
  have c0 : w1.cell? ⟨fb, 0, none⟩ = some (.int .i64 room) := (h.blk.cell 0).trans rfl
  have HC0 := hide (fun W (hf : Fr (fun _ => False) w1 W) => (show W.cell? ⟨fb, 0, none⟩ = some (.int .i64 room) from hf.cell c0 id))
  have HH := hide h
  obtain ⟨q, hq⟩ : ∃ q, (fpg n F).length = q := ⟨_, rfl⟩
  rw [hq] at HPG htl hfit
  obtain ⟨t, ht⟩ : ∃ t, total F = t := ⟨_, rfl⟩
  rw [ht] at HUS htl htt hfit
  have hw1 : IntKind.i64.wrap (room - (t : Int)) = room - (t : Int) := by simp only [IntKind.wrap, IntKind.bits, IntKind.signed]; simp; omega
  have hw2 : IntKind.i64.wrap (room - (t : Int) + (q : Int)) = room - (t : Int) + (q : Int) := by simp only [IntKind.wrap, IntKind.bits, IntKind.signed]; simp; omega
  have HML := hide hml
  clear h hr c0
  have b0 : decide ((m : Int) > room - (t : Int) + (q : Int)) = false := by simp; omega
  have b1 : decide (room - (t : Int) + (q : Int) < (m : Int)) = false := by simp; omega
  have hm0 : 0 < m := by rw [hml]; exact List.length_pos_iff.2 hne
  have HM0 := hide hm0
  have HNE := hide hne
  have HMM := hide hm
  clear htl htt hfit hml hm0 hne
  go_enter Tryz.func55, Tryz.ntmps55
  go_wp2_with fail
  go_at_call 62
  refine HN.out.mono ?_
  rintro e w2 ⟨rfl, rfl⟩
  go_wp2_with fail
  go_at_call 63
  refine (HNA.out _).mono ?_
  rintro e w2 ⟨rfl, hf⟩
  rw [hnb]
  have HF := hide hf
  clear hf
  go_wp2_with fail
  go_at_call 95
  refine (HCN.out _ HF.out).mono ?_
  rintro e w3 ⟨rfl, rfl⟩
  go_wp2_with fail
  refine wp_region_ord [(0, true), (1, true), (2, true), (3, true), (4, true), (5, true), (6, true), (9, true), (10, true), (7, false), (8, true), (11, false), (12, true), (13, true), (14, true)] (fun W => Fr (fun _ => False) w1 W) (by kernel_rfl) (by kernel_rfl) HF.out.drew ?_
  iterate 9
    refine ord_read rfl ?_ ?_ (fun W hS => ?_) ?_
    · rfl
    rotate_left
    · (have s0 := HC0.out _ hS; go_simp; try with_reducible rfl)
    simp only [List.getElem_toArray, List.getElem_cons_zero, List.getElem_cons_succ, Act.put, List.setIfInBounds_toArray, List.set_cons_zero, List.set_cons_succ]
  refine ord_act rfl ?_
  go_wp2_with fail
  go_at_call 33
  refine (HUS.out _ HF.out.drew).mono ?_
  rintro e w3 ⟨rfl, hf⟩
  have HF3 := hide (HF.out.drew.then_ hf)
  clear hf
  go_wp2
  refine midQ_ok HF3.out ?_
  iterate 1
    refine ord_read rfl ?_ ?_ (fun W hS => ?_) ?_
    · rfl
    rotate_left
    · (skip; go_simp; try with_reducible rfl)
    simp only [List.getElem_toArray, List.getElem_cons_zero, List.getElem_cons_succ, Act.put, List.setIfInBounds_toArray, List.set_cons_zero, List.set_cons_succ]
  refine ord_act rfl ?_
  go_wp2_with fail
  go_at_call 43
  refine (HPG.out _ HF3.out).mono ?_
  rintro e w4 ⟨rfl, rfl⟩
  go_wp2
  refine midQ_ok HF3.out ?_
  iterate 3
    refine ord_read rfl ?_ ?_ (fun W hS => ?_) ?_
    · rfl
    rotate_left
    · (skip; go_simp; try with_reducible rfl)
    simp only [List.getElem_toArray, List.getElem_cons_zero, List.getElem_cons_succ, Act.put, List.setIfInBounds_toArray, List.set_cons_zero, List.set_cons_succ]
  refine ord_done ?_
  refine NoPanic.normal ?_
  obtain ⟨b, o, rfl, hb, hc⟩ := HRD.out.2 HM0.out
  have hcl : ∀ j, j < (pg.map (fun l : List UInt8 => (⟨l.toArray⟩ : ByteArray))).length → w3.cell? ⟨b, o + j, none⟩ = some (.string ((pg.map (fun l : List UInt8 => (⟨l.toArray⟩ : ByteArray))).getD j ByteArray.empty)) := fun j hj => by
    have hj2 : j < pg.length := by simpa using hj
    have := (HRD.out.fr HF3.out HBB.out (fun _ h => h.elim)).2 HM0.out
    obtain ⟨b', o', e', _, hc'⟩ := this
    injection e' with e'
    injection e' with e1 e2 _
    subst e1
    subst e2
    have h1 := hc' j (strv pg[j]) (by rw [List.getElem?_map, List.getElem?_eq_getElem hj2]; rfl)
    try simp only [Nat.mul_one] at h1
    rw [h1]
    simp [List.getD, hj2, strv]
  have HCL := hide (Tryz.slices_Clone_string b o m c (pg.map (fun l : List UInt8 => (⟨l.toArray⟩ : ByteArray))) w3 (by rw [List.length_map, HML.out]; exact Nat.le_refl _) (by have := HMM.out; omega) hcl)
  clear hc hcl hb
  go_wp2_with fail
  go_at_call 97
  refine HCL.out.mono ?_
  rintro e w5 ⟨v5, rfl, hown5, _, hbel⟩
  have F5 : Fr (fun _ => False) w1 w5 := HF3.out.then_ (Fr.of_below hbel _)
  obtain ⟨A5, c5, rfl⟩ := Reads.own_val hown5
  have HB5 := HH.out.blk.fr F5 id
  have HM5 := HH.out.map.fr F5 id
  have HFL := hide (flay_at HB5 rfl HM5 n A5 m c5 HM0.out)
  have H5 := hide (And.intro F5 hown5)
  clear F5 HB5 HM5 hown5 hbel
  go_wp2_with fail
  go_at_call 65
  refine HFL.out.mono ?_
  rintro e w6 ⟨rfl, rfl⟩
  go_wp2
  go_ret
  obtain ⟨F5, hown5⟩ := H5.out
  have hsz := HF3.out.size
  have hown : w5.ownsRow w3.heap.size 9 1 (.slice A5 m c5) pg.length (pg.map strv) := by
    have e : ((pg.map (fun l : List UInt8 => (⟨l.toArray⟩ : ByteArray))).take m).map Value.string = pg.map strv := by
      rw [List.take_of_length_le (by rw [List.length_map, HML.out]; exact Nat.le_refl _), List.map_map]
      rfl
    rw [e, HML.out] at hown5
    rw [HML.out]
    exact hown5
  have HP := HH.out.put F5 n (.slice A5 m c5) pg HNE.out (fun k hk => hk.elim) (own_zero hown) (fun k hk => .inr (by have := (hown.lt k hk).1; omega))
  refine ⟨rfl, ⟨_, ⟨mb, _, _, HP⟩, fun k hk => ?_⟩, (F5.mono (S' := X) (fun k hk => hk.elim)).trans (fr_setBlock w5 mb _) (fun k hk => .inl (by rw [hk]; exact HH.out.xm))⟩
  rcases hk with hk | hk
  · exact .inl hk
  · exact .inr (by have := (hown.lt k hk).1; omega)
end
end Go.Proofs.YtkhbemmcegmdaaaGreatDoor
end
section
set_option linter.all false
set_option linter.unusedVariables false
set_option maxRecDepth 100000
namespace Go.Proofs.YtkhbemmcegmdaaaGreatDoor
open Go.RowKit
open Go.ChangeMaps (setBlock)

theorem setCell_block (w : World) (g i : Nat) (cs : Array Value) (t : TypeId) (fr : Nat × Nat) (u : Value) (h : w.heap[g]? = some (.cells cs t fr)) : (w.setCell ⟨g, i, none⟩ u).heap[g]? = some (.cells (cs.setIfInBounds i u) t fr) := by
  simp [World.setCell, Array.getElem?_modify, h]
theorem xor_byte (a x : UInt8) : bits .xor .u8 (a.toNat : Int) (x.toNat : Int) = (((a ^^^ x).toNat : Nat) : Int) := by
  have ha := a.toNat_lt
  have hx := x.toNat_lt
  have h1 : (BitVec.ofInt 8 ((a.toNat : Nat) : Int)).toNat = a.toNat := by
    rw [BitVec.ofInt_natCast, BitVec.toNat_ofNat]; exact Nat.mod_eq_of_lt (by omega)
  have h2 : (BitVec.ofInt 8 ((x.toNat : Nat) : Int)).toNat = x.toNat := by
    rw [BitVec.ofInt_natCast, BitVec.toNat_ofNat]; exact Nat.mod_eq_of_lt (by omega)
  have h3 : (a ^^^ x).toNat = a.toNat ^^^ x.toNat := UInt8.toNat_xor a x
  have h4 : a.toNat ^^^ x.toNat < 256 := by rw [← h3]; exact (a ^^^ x).toNat_lt
  show IntKind.u8.wrap ((BitVec.ofInt 8 ((a.toNat : Nat) : Int) ^^^ BitVec.ofInt 8 ((x.toNat : Nat) : Int)).toNat : Int) = _
  rw [BitVec.toNat_xor, h1, h2, h3]
  simp [IntKind.wrap, IntKind.bits, IntKind.signed]
  omega
section
variable {w w1 : World} {fb mb clock : Nat} {X S : Nat → Prop} {room left : Int} {F : FileL} {L : List (Ent Name)}
theorem fflip_none (h : FSAt w1 fb X room left F) (n : Name) (i : Int) (x : Int) (hi : ¬ (0 ≤ i ∧ i < ((fpg n F).length : Int))) : Calls Tryz.prog 67 #[.pointer (some ⟨fb, 0, none⟩), .string ⟨n.toArray⟩, .int .i64 i, .int .i64 2, .int .u8 x] w1 fun e w' => e = .returned (.int .i64 4) ∧ w1 = w' := by
  have HT := hide (fthere_ok h n i)
  rw [if_neg hi] at HT
  clear h hi
  go_enter Tryz.func67, Tryz.ntmps67
  go_wp2_with fail
  go_at_call 82
  refine HT.out.mono ?_
  rintro e w2 ⟨rfl, rfl⟩
  go_wp2
  go_ret
  exact ⟨rfl, rfl⟩
theorem fflip_ok (h : FSAt w1 fb X room left F) (hI : FInv room F) (n : Name) (i : Nat) (x : UInt8) (hi : i < (fpg n F).length) :
    Calls Tryz.prog 67 #[.pointer (some ⟨fb, 0, none⟩), .string ⟨n.toArray⟩, .int .i64 (i : Int), .int .i64 2, .int .u8 (x.toNat : Int)] w1 fun e w' => e = .returned (.int .i64 0) ∧ (∃ X', FSAt w' fb X' room left (fput n ((fpg n F).set i (flipB ((fpg n F).getD i []) 2 x)) F) ∧ ∀ k, X' k → X k ∨ w1.heap.size ≤ k) ∧ Fr X w1 w' := by
  have HT := hide (fthere_ok h n (i : Int))
  rw [if_pos (by omega)] at HT
  have hpgl : ((fpg n F).getD i []).length = 128 := by
    rw [show (fpg n F).getD i [] = (fpg n F)[i] by simp [List.getD, hi]]
    exact hI.pages n _ (List.getElem_mem hi)
  obtain ⟨mb, L, clock, h⟩ := h
  have c2 : w1.cell? ⟨fb, 2, none⟩ = some (.map (some mb)) := (h.blk.cell 2).trans rfl
  rcases h.get n with ⟨j, xe, p, hx, hp, hxn, hg, hfp⟩ | ⟨_, hf0, _⟩
  · obtain ⟨_, _, h3, h4⟩ := h.row j xe p hx hp
    rw [hfp] at hi hpgl
    obtain ⟨g, c, hv, hlt⟩ : ∃ g c, xe.2.1 = .slice (some ⟨g, 0, none⟩) p.2.length c ∧ g < w1.heap.size := by
      obtain ⟨g, c, hv, _, hlt⟩ := World.ownsRow.form h3 (by omega)
      exact ⟨g, c, hv, hlt⟩
    have hlk0 : ∀ W, Fr (fun _ => False) w1 W → (Instr.lookup 123 (.map (some mb)) (.string ⟨n.toArray⟩) false).run Tryz.prog W = .ok (.slice (some ⟨g, 0, none⟩) p.2.length c) W := fun W hf => by
      have := lookup_v (P := Tryz.prog) (key_string str_under) mapf strs_zero (h.map.fr hf id) n
      rw [hg, hv] at this
      exact this
    rw [hv] at h3 h4 hg
    have hXg := (h4 g rfl)
    have HH := hide h
    have HOWN := hide h3
    have HG := hide hg
    have HFP := hide hfp
    have hcell : ∀ W, Fr (fun _ => False) w1 W → W.frozen? ⟨g, i, none⟩ = false ∧ W.cell? ⟨g, i, none⟩ = some (strv (p.2.getD i [])) := fun W hf => by
      have ho := own_fr h3 hf (fun k _ h => h)
      refine ⟨?_, ?_⟩
      · rcases ho.2 with ⟨e, _⟩ | ⟨g', cap, cur, e1, _, hgg, _⟩
        · cases e
        · injection e1 with e1 _ e3
          injection e1 with e1
          injection e1 with e1 _
          subst e1
          exact (show Blk W g 9 cur from hgg).frozen i
      · have := (Reads.of_own ho).2 (by omega)
        obtain ⟨b', o', e', _, hc'⟩ := this
        injection e' with e'
        injection e' with e1 e2 _
        subst e1
        subst e2
        have h1 := hc' i (strv p.2[i]) (by rw [List.getElem?_map, List.getElem?_eq_getElem hi]; rfl)
        rw [show p.2.getD i [] = p.2[i] by simp [List.getD, hi]]
        simpa using h1
    have HCELL := hide hcell
    have hq : p.2.set i (flipB (p.2.getD i []) 2 x) ≠ [] := fun e => by
      have := congrArg List.length e
      simp at this
      rw [this] at hi
      simp at hi
    have HQ := hide hq
    generalize hPP : p.2 = pp at *
    obtain ⟨m, hm⟩ : ∃ m, pp.length = m := ⟨_, rfl⟩
    have HM := hide hm
    rw [hm] at hi hlk0 HOWN
    have HLK := hide hlk0
    have hlk := hlk0 w1 (Fr.refl _ _)
    obtain ⟨pg, hpg⟩ : ∃ pg, pp.getD i [] = pg := ⟨_, rfl⟩
    rw [hpg] at hpgl HCELL HQ
    have HP := hide hpg
    have HPL := hide hpgl
    obtain ⟨fz1, cv1⟩ := HCELL.out w1 (Fr.refl _ _)
    unfold strv at cv1
    have b0 : (0 : Int) ≤ (i : Int) := by omega
    have b1 : (i : Int) < (m : Int) := by omega
    -- the page's bytes
    have hcv := run_bytes_of_string (P := Tryz.prog) w1 9 22 5 ⟨pg.toArray⟩ Tryz.underlying9 Tryz.underlying22 Tryz.underlying5
    have hsz : (⟨pg.toArray⟩ : ByteArray).size = 128 := by show pg.toArray.size = 128; simpa using hpgl
    rw [hsz] at hcv
    obtain ⟨cap, hcap⟩ : ∃ cap, grownCap w1 128 0 5 = cap := ⟨_, rfl⟩
    rw [hcap] at hcv
    obtain ⟨W2, hW2⟩ : ∃ W2, W2 = w1.drew.alloc (.cells (bytesRow ⟨pg.toArray⟩ cap) 5 ((bytesRow ⟨pg.toArray⟩ cap).size, (bytesRow ⟨pg.toArray⟩ cap).size + 1)) := ⟨_, rfl⟩
    rw [← hW2] at hcv
    have F2 : Fr (fun _ => False) w1 W2 := by rw [hW2]; exact (Fr.refl _ _).drew.alloc _
    obtain ⟨nb, hnb⟩ : ∃ nb, w1.heap.size = nb := ⟨_, rfl⟩
    have hblk : W2.heap[nb]? = some (.cells (bytesRow ⟨pg.toArray⟩ cap) 5 ((bytesRow ⟨pg.toArray⟩ cap).size, (bytesRow ⟨pg.toArray⟩ cap).size + 1)) := by
      rw [hW2, ← hnb]
      exact heap_alloc_new w1.drew _
    have hrow : ∀ j, (hj : j < pg.length) → (bytesRow ⟨pg.toArray⟩ cap)[j]? = some (.int .u8 (pg[j].toNat : Int)) := fun j hj => by
      unfold bytesRow
      rw [Array.getElem?_append_left (by simpa using hj)]
      simp [hj]
    have hrsz : 128 ≤ (bytesRow ⟨pg.toArray⟩ cap).size := by
      unfold bytesRow
      simp
      omega
    have hcells : ∀ j, (hj : j < pg.length) → W2.cell? ⟨nb, j, none⟩ = some (.int .u8 (pg[j].toNat : Int)) := fun j hj => by
      rw [cell_of_row W2 nb j _ _ _ hblk]
      exact hrow j hj
    have hfz : W2.frozen? ⟨nb, 2, none⟩ = false := by
      unfold World.frozen?
      rw [hblk]
      simp
      omega
    have hc22 := hcells 2 (by omega)
    obtain ⟨by_, hby⟩ : ∃ by_, pg.getD 2 0 = by_ := ⟨_, rfl⟩
    have e2 : pg[2]'(by omega) = by_ := by rw [← hby]; simp [List.getD, show 2 < pg.length by omega]
    rw [e2] at hc22
    have hxor := xor_byte by_ x
    obtain ⟨z, hz⟩ : ∃ z, by_ ^^^ x = z := ⟨_, rfl⟩
    rw [hz] at hxor
    have hc8 : W2.cell? ⟨fb, 2, none⟩ = some (.map (some mb)) := F2.cell c2 id
    obtain ⟨W3, hW3⟩ : ∃ W3, W3 = W2.setCell ⟨nb, 2, none⟩ (.int .u8 ((z.toNat : Nat) : Int)) := ⟨_, rfl⟩
    have F3 : Fr (fun _ => False) w1 W3 := by rw [hW3]; exact F2.setCell (p := ⟨nb, 2, none⟩) (.inr (by rw [hnb]; exact Nat.le_refl _)) _
    have hblk3 : W3.heap[nb]? = some (.cells ((bytesRow ⟨pg.toArray⟩ cap).setIfInBounds 2 (.int .u8 ((z.toNat : Nat) : Int))) 5 ((bytesRow ⟨pg.toArray⟩ cap).size, (bytesRow ⟨pg.toArray⟩ cap).size + 1)) := by
      rw [hW3]
      exact setCell_block W2 nb 2 _ _ _ _ hblk
    have HFL : Hid (∀ W, Fr (fun _ => False) W3 W → (convert 22 9 (.slice (some ⟨nb, 0, none⟩) 128 cap)).run Tryz.prog W = .ok (.string ⟨(flipB pg 2 x).toArray⟩) W) := fun W hS => by
      have := run_convert_bytes_back (P := Tryz.prog) W 22 9 5 ⟨nb, 0, none⟩ cap (flipB pg 2 x) Tryz.underlying22 Tryz.underlying5 Tryz.underlying9 (fun j hj => by
        rw [show (⟨nb, 0, none⟩ : Addr).add j = ⟨nb, j, none⟩ by unfold Addr.add; split <;> simp_all]
        have hj2 : j < pg.length := by rw [flip_len] at hj; exact hj
        have hlt3 : nb < W3.heap.size := (Array.getElem?_eq_some_iff.1 hblk3).1
        have hb4 := (hS.block nb hlt3 id).trans hblk3
        rw [cell_of_row W nb j _ _ _ hb4]
        have e : (flipB pg 2 x)[j] = if 2 = j then z else pg[j] := by simp only [flipB, hby, hz, List.getElem_set]
        rw [e]
        by_cases h2 : 2 = j
        · subst h2
          rw [Array.getElem?_setIfInBounds_self_of_lt (by omega), if_pos rfl]
        · rw [Array.getElem?_setIfInBounds_ne h2, hrow j hj2, if_neg h2])
      rw [flip_len, HPL.out] at this
      exact this
    have HF3 := hide F3
    have HNB := hide hnb
    have HW3 := hide hW3
    clear hW2 hW3
    clear hm h hg hx hp h3 h4 hfp hcell hv hPP hq hlk0 hpg hpgl hblk hrow hrsz hcells hblk3 e2 hsz hcap F3 hby hz
    rw [hnb] at hcv
    go_enter Tryz.func67, Tryz.ntmps67
    go_wp2_with fail
    go_at_call 82
    refine HT.out.mono ?_
    rintro e w2 ⟨rfl, rfl⟩
    go_wp2_with fail
    try rw [hxor]
    rw [← HW3.out]
    have HC8 := hide (fun W (hS : Fr (fun _ => False) W3 W) => (show W.cell? ⟨fb, 2, none⟩ = some (.map (some mb)) from (HF3.out.then_ hS).cell c2 id))
    clear HW3
    refine wp_region_phased 10 0 0 (fun W => Fr (fun _ => False) W3 W) (by kernel_rfl) (by kernel_rfl) (Fr.refl _ _).drew ?_
    simp only [List.take_succ_cons, List.take_zero, List.drop_succ_cons, List.drop_zero]
    iterate 10
      refine wpReads_cons rfl ?_ (fun W hS => ?_) ?_
      rotate_left
      · (have s0 := HC8.out W hS; have s1 := HLK.out W (HF3.out.then_ hS); have s2 := HFL.out W hS; go_simp; try with_reducible rfl)
      simp only [Act.put, List.setIfInBounds_toArray, List.set_cons_zero, List.set_cons_succ]
    refine (show wpMid _ _ _ _ _ _ _ _ from ?_)
    simp only [wpMid]
    have HZ := HCELL.out W3.drew HF3.out.drew
    obtain ⟨f9, c9⟩ := HZ
    go_wp2
    refine NoPanic.normal ?_
    go_wp2
    go_ret
    have F9 : Fr (fun k => k = g) w1 (W3.drew.setCell ⟨g, i, none⟩ (.string ⟨(flipB pg 2 x).toArray⟩)) := (HF3.out.drew.mono (S' := fun k => k = g) (fun k h => h.elim)).setCell (p := ⟨g, i, none⟩) (.inl rfl) _
    have HO : (W3.drew.setCell ⟨g, i, none⟩ (.string ⟨(flipB pg 2 x).toArray⟩)).ownsRow 0 9 1 (.slice (some ⟨g, 0, none⟩) m c) (pp.set i (flipB pg 2 x)).length ((pp.set i (flipB pg 2 x)).map strv) := by
      rw [List.length_set, List.map_set, HM.out]
      exact own_set (own_fr HOWN.out HF3.out.drew (fun k _ h => h)) i (strv (flipB pg 2 x)) hi
    have HG2 := HG.out
    rw [HM.out] at HG2
    have HR := HH.out.putSame F9 n (.slice (some ⟨g, 0, none⟩) m c) (pp.set i (flipB pg 2 x)) HQ.out (fun k hk => ⟨_, HG2, by rw [hk]; rfl⟩) HO HG2
    refine ⟨rfl, ⟨_, ⟨mb, L, clock, by rw [HFP.out, HP.out]; exact HR⟩, fun k hk => ?_⟩, F9.mono (fun k hk => by rw [hk]; exact hXg.1)⟩
    rcases hk with hk | hk
    · exact .inl hk
    · injection hk with hk
      exact .inl (by rw [← hk]; exact hXg.1)
  · rw [hf0] at hi
    simp at hi
end
end Go.Proofs.YtkhbemmcegmdaaaGreatDoor
end
section
set_option linter.all false
set_option linter.unusedVariables false
set_option maxRecDepth 100000
namespace Go.Proofs.YtkhbemmcegmdaaaGreatDoor
open Go.RowKit

theorem fput_any {w : World} {fb : Nat} {X : Nat → Prop} {room left : Int} {F : FileL} (h : FSAt w fb X room left F) (hI : FInv room F) (n : Name) (i : Int) (s : List UInt8) (hn : n.length ≤ 9223372036854775807) (hs : s.length ≤ 9223372036854775807) :
    Calls Tryz.prog 19 #[.pointer (some ⟨fb, 0, none⟩), .string ⟨n.toArray⟩, .int .i64 i, .string ⟨s.toArray⟩] w fun e w' => e = .returned (.int .i64 (fsput room F n i s).1) ∧ (∃ X', FSAt w' fb X' room left (fsput room F n i s).2 ∧ ∀ k, X' k → X k ∨ w.heap.size ≤ k) ∧ Fr X w w' := by
  unfold fsput
  rcases Decidable.em (nameB n = false ∨ i < 0 ∨ ((fpg n F).length : Int) < i ∨ s.length ≠ 128) with hb | hb
  · rw [if_pos hb]
    refine (fput_bad h n i s hn hs hb).mono ?_
    rintro e w' ⟨rfl, hf⟩
    exact ⟨rfl, ⟨X, h.up hf, fun k hk => .inl hk⟩, hf.mono (fun _ h => h.elim)⟩
  · rw [if_neg hb]
    simp only [not_or, Bool.not_eq_false, Int.not_lt] at hb
    obtain ⟨h1, h2, h3, h4⟩ := hb
    have h4 : s.length = 128 := by simpa using h4
    obtain ⟨j, rfl⟩ : ∃ j : Nat, i = (j : Int) := ⟨i.toNat, by omega⟩
    by_cases hi : (j : Int) < ((fpg n F).length : Int)
    · rw [if_pos hi]
      refine (fput_set h n j s h1 h4 (by omega)).mono ?_
      rintro e w' ⟨rfl, h5, h6⟩
      exact ⟨rfl, by simpa using h5, h6⟩
    · rw [if_neg hi]
      have e : j = (fpg n F).length := by omega
      subst e
      by_cases ht : ((total F : Nat) : Int) = room
      · rw [if_pos ht]
        refine (fput_room h hI n s h1 h4 ht).mono ?_
        rintro e w' ⟨rfl, hf⟩
        exact ⟨rfl, ⟨X, h.up hf, fun k hk => .inl hk⟩, hf.mono (fun _ h => h.elim)⟩
      · rw [if_neg ht]
        refine (fput_more h hI n s h1 h4 (by have := hI.tot; omega)).mono ?_
        rintro e w' ⟨rfl, h5, h6⟩
        exact ⟨rfl, h5, h6⟩
end Go.Proofs.YtkhbemmcegmdaaaGreatDoor
end
