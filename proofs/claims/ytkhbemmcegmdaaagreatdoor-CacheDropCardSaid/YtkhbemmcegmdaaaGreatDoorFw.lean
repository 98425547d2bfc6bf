/- files' Write, by contract. -/
import Derived.Test.YtkhbemmcegmdaaaGreatDoorFsP
import Derived.Test.YtkhbemmcegmdaaaGreatDoorCp
set_option linter.all false
set_option linter.unusedVariables false
set_option maxRecDepth 100000
namespace Go.Proofs.YtkhbemmcegmdaaaGreatDoor
open Go.RowKit
open Go.ChangeMaps (setBlock)

theorem own_zero {w : World} {base n : Nat} {e : TypeId} {v : Value} {xs : List Value} (h : w.ownsRow base e 1 v n xs) : w.ownsRow 0 e 1 v n xs := by
  refine ⟨h.1, ?_⟩
  rcases h.2 with h1 | ⟨g, cap, cur, e1, _, rest⟩
  · exact .inl h1
  · exact .inr ⟨g, cap, cur, e1, Nat.zero_le _, rest⟩
section
variable {w w1 : World} {fb mb clock : Nat} {X S : Nat → Prop} {room left : Int} {F : FileL} {L : List (Ent Name)}
theorem fwrite_bad (h : FSAt w1 fb X room left F) (n : Name) (A : Option Addr) (m c : Nat) (hn : n.length ≤ 9223372036854775807) (hnb : nameB n = false) :
    Calls Tryz.prog 55 #[.pointer (some ⟨fb, 0, none⟩), .string ⟨n.toArray⟩, .slice A m c] w1 fun e w' => e = .returned (.int .i64 2) ∧ Fr (fun _ => False) w1 w' := by
  have HN := hide (fnone_ok h)
  have HNA := hide (fun w => fname_ok n hn w)
  clear h
  go_enter Tryz.func55, Tryz.ntmps55
  go_wp2_with fail
  go_at_call 62
  refine HN.out.mono ?_
  rintro e w2 ⟨rfl, rfl⟩
  go_wp2_with fail
  go_at_call 63
  refine (HNA.out _).mono ?_
  rintro e w2 ⟨rfl, hf⟩
  rw [hnb]
  have HF := hide hf
  clear hf
  go_wp2
  go_ret
  exact ⟨rfl, HF.out⟩
theorem fwrite_room (h : FSAt w1 fb X room left F) (hI : FInv room F) (n : Name) (hnb : nameB n = true) (A : Option Addr) (m c B : Nat) (pg : List (List UInt8)) (hr : Reads w1 B 1 A m (pg.map strv)) (hB : B ≤ w1.heap.size) (hl : ∀ s ∈ pg, s.length = 128) (hm : m ≤ 100000) (hfit : room - ((total F : Nat) : Int) + ((fpg n F).length : Int) < (m : Int)) : Calls Tryz.prog 55 #[.pointer (some ⟨fb, 0, none⟩), .string ⟨n.toArray⟩, .slice A m c] w1 fun e w' => e = .returned (.int .i64 61) ∧ Fr (fun _ => False) w1 w' := by
  have hn : n.length ≤ 9223372036854775807 := by have := nameB_len hnb; omega
  have HN := hide (fnone_ok h)
  have HNA := hide (fun w => fname_ok n hn w)
  have HUS := hide (fun W (hf : Fr (fun _ => False) w1 W) => fused_ok (h.up hf) hI.bnd)
  have HPG := hide (fun W (hf : Fr (fun _ => False) w1 W) => fpages_ok (h.up hf) n)
  have HCN := hide (fun W (hf : Fr (fun _ => False) w1 W) => contf_ok A m c B pg W (hr.fr hf hB (fun _ h => h.elim)) hm hl)
  have htl := total_pg (F := F) n
  have hrm := hI.rm
  have htt := hI.tot
  have hml : m = pg.length := by have := hr.1; simpa using this.symm
  have HRD := hide hr
  have HBB := hide hB
  obtain ⟨mb, L, clock, h⟩ := h
  have c0 : w1.cell? ⟨fb, 0, none⟩ = some (.int .i64 room) := (h.blk.cell 0).trans rfl
  have HC0 := hide (fun W (hf : Fr (fun _ => False) w1 W) => (show W.cell? ⟨fb, 0, none⟩ = some (.int .i64 room) from hf.cell c0 id))
  have HH := hide h
  obtain ⟨q, hq⟩ : ∃ q, (fpg n F).length = q := ⟨_, rfl⟩
  rw [hq] at HPG htl hfit
  obtain ⟨t, ht⟩ : ∃ t, total F = t := ⟨_, rfl⟩
  rw [ht] at HUS htl htt hfit
  have hw1 : IntKind.i64.wrap (room - (t : Int)) = room - (t : Int) := by simp only [IntKind.wrap, IntKind.bits, IntKind.signed]; simp; omega
  have hw2 : IntKind.i64.wrap (room - (t : Int) + (q : Int)) = room - (t : Int) + (q : Int) := by simp only [IntKind.wrap, IntKind.bits, IntKind.signed]; simp; omega
  have HML := hide hml
  clear h hr c0
  have b0 : decide ((m : Int) > room - (t : Int) + (q : Int)) = true := by simp; omega
  have b1 : decide (room - (t : Int) + (q : Int) < (m : Int)) = true := by simp; omega
  clear htl htt hfit hml
  go_enter Tryz.func55, Tryz.ntmps55
  go_wp2_with fail
  go_at_call 62
  refine HN.out.mono ?_
  rintro e w2 ⟨rfl, rfl⟩
  go_wp2_with fail
  go_at_call 63
  refine (HNA.out _).mono ?_
  rintro e w2 ⟨rfl, hf⟩
  rw [hnb]
  have HF := hide hf
  clear hf
  go_wp2_with fail
  go_at_call 95
  refine (HCN.out _ HF.out).mono ?_
  rintro e w3 ⟨rfl, rfl⟩
  go_wp2_with fail
  refine wp_region_ord [(0, true), (1, true), (2, true), (3, true), (4, true), (5, true), (6, true), (9, true), (10, true), (7, false), (8, true), (11, false), (12, true), (13, true), (14, true)] (fun W => Fr (fun _ => False) w1 W) (by kernel_rfl) (by kernel_rfl) HF.out.drew ?_
  iterate 9
    refine ord_read rfl ?_ ?_ (fun W hS => ?_) ?_
    · rfl
    rotate_left
    · (have s0 := HC0.out _ hS; go_simp; try with_reducible rfl)
    simp only [List.getElem_toArray, List.getElem_cons_zero, List.getElem_cons_succ, Act.put, List.setIfInBounds_toArray, List.set_cons_zero, List.set_cons_succ]
  refine ord_act rfl ?_
  go_wp2_with fail
  go_at_call 33
  refine (HUS.out _ HF.out.drew).mono ?_
  rintro e w3 ⟨rfl, hf⟩
  have HF3 := hide (HF.out.drew.then_ hf)
  clear hf
  go_wp2
  refine midQ_ok HF3.out ?_
  iterate 1
    refine ord_read rfl ?_ ?_ (fun W hS => ?_) ?_
    · rfl
    rotate_left
    · (skip; go_simp; try with_reducible rfl)
    simp only [List.getElem_toArray, List.getElem_cons_zero, List.getElem_cons_succ, Act.put, List.setIfInBounds_toArray, List.set_cons_zero, List.set_cons_succ]
  refine ord_act rfl ?_
  go_wp2_with fail
  go_at_call 43
  refine (HPG.out _ HF3.out).mono ?_
  rintro e w4 ⟨rfl, rfl⟩
  go_wp2
  refine midQ_ok HF3.out ?_
  iterate 3
    refine ord_read rfl ?_ ?_ (fun W hS => ?_) ?_
    · rfl
    rotate_left
    · (skip; go_simp; try with_reducible rfl)
    simp only [List.getElem_toArray, List.getElem_cons_zero, List.getElem_cons_succ, Act.put, List.setIfInBounds_toArray, List.set_cons_zero, List.set_cons_succ]
  refine ord_done ?_
  refine NoPanic.normal ?_
  go_wp2
  go_ret
  exact ⟨rfl, HF3.out⟩
theorem fwrite_ok (h : FSAt w1 fb X room left F) (hI : FInv room F) (n : Name) (hnb : nameB n = true) (A : Option Addr) (m c B : Nat) (pg : List (List UInt8)) (hr : Reads w1 B 1 A m (pg.map strv)) (hB : B ≤ w1.heap.size) (hl : ∀ s ∈ pg, s.length = 128) (hm : m ≤ 100000) (hne : pg ≠ []) (hfit : ¬ room - ((total F : Nat) : Int) + ((fpg n F).length : Int) < (m : Int)) : Calls Tryz.prog 55 #[.pointer (some ⟨fb, 0, none⟩), .string ⟨n.toArray⟩, .slice A m c] w1 fun e w' => e = .returned (.int .i64 0) ∧ (∃ X', FSAt w' fb X' room left (fput n pg F) ∧ ∀ k, X' k → X k ∨ w1.heap.size ≤ k) ∧ Fr X w1 w' := by
  have hn : n.length ≤ 9223372036854775807 := by have := nameB_len hnb; omega
  have HN := hide (fnone_ok h)
  have HNA := hide (fun w => fname_ok n hn w)
  have HUS := hide (fun W (hf : Fr (fun _ => False) w1 W) => fused_ok (h.up hf) hI.bnd)
  have HPG := hide (fun W (hf : Fr (fun _ => False) w1 W) => fpages_ok (h.up hf) n)
  have HCN := hide (fun W (hf : Fr (fun _ => False) w1 W) => contf_ok A m c B pg W (hr.fr hf hB (fun _ h => h.elim)) hm hl)
  have htl := total_pg (F := F) n
  have hrm := hI.rm
  have htt := hI.tot
  have hml : m = pg.length := by have := hr.1; simpa using this.symm
  have HRD := hide hr
  have HBB := hide hB
  obtain ⟨mb, L, clock, h⟩ := h
  have c0 : w1.cell? ⟨fb, 0, none⟩ = some (.int .i64 room) := (h.blk.cell 0).trans rfl
  have HC0 := hide (fun W (hf : Fr (fun _ => False) w1 W) => (show W.cell? ⟨fb, 0, none⟩ = some (.int .i64 room) from hf.cell c0 id))
  have HH := hide h
  obtain ⟨q, hq⟩ : ∃ q, (fpg n F).length = q := ⟨_, rfl⟩
  rw [hq] at HPG htl hfit
  obtain ⟨t, ht⟩ : ∃ t, total F = t := ⟨_, rfl⟩
  rw [ht] at HUS htl htt hfit
  have hw1 : IntKind.i64.wrap (room - (t : Int)) = room - (t : Int) := by simp only [IntKind.wrap, IntKind.bits, IntKind.signed]; simp; omega
  have hw2 : IntKind.i64.wrap (room - (t : Int) + (q : Int)) = room - (t : Int) + (q : Int) := by simp only [IntKind.wrap, IntKind.bits, IntKind.signed]; simp; omega
  have HML := hide hml
  clear h hr c0
  have b0 : decide ((m : Int) > room - (t : Int) + (q : Int)) = false := by simp; omega
  have b1 : decide (room - (t : Int) + (q : Int) < (m : Int)) = false := by simp; omega
  have hm0 : 0 < m := by rw [hml]; exact List.length_pos_iff.2 hne
  have HM0 := hide hm0
  have HNE := hide hne
  have HMM := hide hm
  clear htl htt hfit hml hm0 hne
  go_enter Tryz.func55, Tryz.ntmps55
  go_wp2_with fail
  go_at_call 62
  refine HN.out.mono ?_
  rintro e w2 ⟨rfl, rfl⟩
  go_wp2_with fail
  go_at_call 63
  refine (HNA.out _).mono ?_
  rintro e w2 ⟨rfl, hf⟩
  rw [hnb]
  have HF := hide hf
  clear hf
  go_wp2_with fail
  go_at_call 95
  refine (HCN.out _ HF.out).mono ?_
  rintro e w3 ⟨rfl, rfl⟩
  go_wp2_with fail
  refine wp_region_ord [(0, true), (1, true), (2, true), (3, true), (4, true), (5, true), (6, true), (9, true), (10, true), (7, false), (8, true), (11, false), (12, true), (13, true), (14, true)] (fun W => Fr (fun _ => False) w1 W) (by kernel_rfl) (by kernel_rfl) HF.out.drew ?_
  iterate 9
    refine ord_read rfl ?_ ?_ (fun W hS => ?_) ?_
    · rfl
    rotate_left
    · (have s0 := HC0.out _ hS; go_simp; try with_reducible rfl)
    simp only [List.getElem_toArray, List.getElem_cons_zero, List.getElem_cons_succ, Act.put, List.setIfInBounds_toArray, List.set_cons_zero, List.set_cons_succ]
  refine ord_act rfl ?_
  go_wp2_with fail
  go_at_call 33
  refine (HUS.out _ HF.out.drew).mono ?_
  rintro e w3 ⟨rfl, hf⟩
  have HF3 := hide (HF.out.drew.then_ hf)
  clear hf
  go_wp2
  refine midQ_ok HF3.out ?_
  iterate 1
    refine ord_read rfl ?_ ?_ (fun W hS => ?_) ?_
    · rfl
    rotate_left
    · (skip; go_simp; try with_reducible rfl)
    simp only [List.getElem_toArray, List.getElem_cons_zero, List.getElem_cons_succ, Act.put, List.setIfInBounds_toArray, List.set_cons_zero, List.set_cons_succ]
  refine ord_act rfl ?_
  go_wp2_with fail
  go_at_call 43
  refine (HPG.out _ HF3.out).mono ?_
  rintro e w4 ⟨rfl, rfl⟩
  go_wp2
  refine midQ_ok HF3.out ?_
  iterate 3
    refine ord_read rfl ?_ ?_ (fun W hS => ?_) ?_
    · rfl
    rotate_left
    · (skip; go_simp; try with_reducible rfl)
    simp only [List.getElem_toArray, List.getElem_cons_zero, List.getElem_cons_succ, Act.put, List.setIfInBounds_toArray, List.set_cons_zero, List.set_cons_succ]
  refine ord_done ?_
  refine NoPanic.normal ?_
  obtain ⟨b, o, rfl, hb, hc⟩ := HRD.out.2 HM0.out
  have hcl : ∀ j, j < (pg.map (fun l : List UInt8 => (⟨l.toArray⟩ : ByteArray))).length → w3.cell? ⟨b, o + j, none⟩ = some (.string ((pg.map (fun l : List UInt8 => (⟨l.toArray⟩ : ByteArray))).getD j ByteArray.empty)) := fun j hj => by
    have hj2 : j < pg.length := by simpa using hj
    have := (HRD.out.fr HF3.out HBB.out (fun _ h => h.elim)).2 HM0.out
    obtain ⟨b', o', e', _, hc'⟩ := this
    injection e' with e'
    injection e' with e1 e2 _
    subst e1
    subst e2
    have h1 := hc' j (strv pg[j]) (by rw [List.getElem?_map, List.getElem?_eq_getElem hj2]; rfl)
    try simp only [Nat.mul_one] at h1
    rw [h1]
    simp [List.getD, hj2, strv]
  have HCL := hide (Tryz.slices_Clone_string b o m c (pg.map (fun l : List UInt8 => (⟨l.toArray⟩ : ByteArray))) w3 (by rw [List.length_map, HML.out]; exact Nat.le_refl _) (by have := HMM.out; omega) hcl)
  clear hc hcl hb
  go_wp2_with fail
  go_at_call 97
  refine HCL.out.mono ?_
  rintro e w5 ⟨v5, rfl, hown5, _, hbel⟩
  have F5 : Fr (fun _ => False) w1 w5 := HF3.out.then_ (Fr.of_below hbel _)
  obtain ⟨A5, c5, rfl⟩ := Reads.own_val hown5
  have HB5 := HH.out.blk.fr F5 id
  have HM5 := HH.out.map.fr F5 id
  have HFL := hide (flay_at HB5 rfl HM5 n A5 m c5 HM0.out)
  have H5 := hide (And.intro F5 hown5)
  clear F5 HB5 HM5 hown5 hbel
  go_wp2_with fail
  go_at_call 65
  refine HFL.out.mono ?_
  rintro e w6 ⟨rfl, rfl⟩
  go_wp2
  go_ret
  obtain ⟨F5, hown5⟩ := H5.out
  have hsz := HF3.out.size
  have hown : w5.ownsRow w3.heap.size 9 1 (.slice A5 m c5) pg.length (pg.map strv) := by
    have e : ((pg.map (fun l : List UInt8 => (⟨l.toArray⟩ : ByteArray))).take m).map Value.string = pg.map strv := by
      rw [List.take_of_length_le (by rw [List.length_map, HML.out]; exact Nat.le_refl _), List.map_map]
      rfl
    rw [e, HML.out] at hown5
    rw [HML.out]
    exact hown5
  have HP := HH.out.put F5 n (.slice A5 m c5) pg HNE.out (fun k hk => hk.elim) (own_zero hown) (fun k hk => .inr (by have := (hown.lt k hk).1; omega))
  refine ⟨rfl, ⟨_, ⟨mb, _, _, HP⟩, fun k hk => ?_⟩, (F5.mono (S' := X) (fun k hk => hk.elim)).trans (fr_setBlock w5 mb _) (fun k hk => .inl (by rw [hk]; exact HH.out.xm))⟩
  rcases hk with hk | hk
  · exact .inl hk
  · exact .inr (by have := (hown.lt k hk).1; omega)
end
end Go.Proofs.YtkhbemmcegmdaaaGreatDoor
