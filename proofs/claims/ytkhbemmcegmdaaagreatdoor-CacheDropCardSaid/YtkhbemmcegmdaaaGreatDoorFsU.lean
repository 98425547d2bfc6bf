/- files' Names and Used, by contract. -/
import Derived.Test.YtkhbemmcegmdaaaGreatDoorFsN
import Derived.Test.YtkhbemmcegmdaaaGreatDoorIter
import Derived.Sort.KeysCollected
set_option linter.all false
set_option linter.unusedVariables false
set_option maxRecDepth 100000
namespace Go.Proofs.YtkhbemmcegmdaaaGreatDoor
open Go.RowKit Go.Maps Go.Sort Go.Shelf
open Go.WideElems (Fit)

/-- an element that is not read -/
def unread : Value → Option (DataW Nat × List MemPlace) := fun _ => some (.nil, [])
section
variable {w : World} {fb mb clock : Nat} {X : Nat → Prop} {room left : Int} {F : FileL} {L : List (Ent Name)}
theorem keys_eq (h : FSRep w fb mb X room left F L clock) : L.map (·.1) = F.map (·.1) := by
  apply List.ext_getElem?
  intro i
  rw [List.getElem?_map, List.getElem?_map]
  by_cases hi : i < L.length
  · have hi2 : i < F.length := by rw [← h.len]; exact hi
    obtain ⟨h1, _⟩ := h.row i L[i] F[i] (List.getElem?_eq_getElem hi) (List.getElem?_eq_getElem hi2)
    rw [List.getElem?_eq_getElem hi, List.getElem?_eq_getElem hi2]
    simp [h1]
  · rw [List.getElem?_eq_none (by omega), List.getElem?_eq_none (by rw [← h.len]; omega)]
    rfl
theorem FSRep.owns (h : FSRep w fb mb X room left F L clock) (hlen : L.length ≤ maxLen) (hk : ∀ p ∈ F, p.1.length ≤ maxLen) : ∃ D0 : DataW Nat, w.ownsMap Tryz.prog 9 unread mb L.length D0 ∧ (F.map (·.1)).Perm (strKeys D0) ∧ Maps.size D0 = L.length := by
  have hkey : ∀ x ∈ L, x.1.length ≤ maxLen := fun x hx => by
    have : x.1 ∈ F.map (·.1) := by rw [← keys_eq h]; exact List.mem_map_of_mem hx
    obtain ⟨p, hp, he⟩ := List.mem_map.1 this
    rw [← he]; exact hk p hp
  have hnk : (L.map (·.1)).Nodup := by rw [keys_eq h]; exact h.nd
  have hst : MapKept.Stamped (L.map (ent strk)).toArray clock := by
    refine ⟨fun x hx => ?_, ?_, ?_⟩
    · simp only [List.mem_map] at hx
      obtain ⟨y, hy, rfl⟩ := hx
      exact h.bclk y hy
    · have := h.bnd
      simp only [List.map_map]
      exact this
    · simp only [List.map_map]
      have e : ((fun x : MapEntry => x.key) ∘ ent strk) = strk ∘ (fun x : Ent Name => x.1) := rfl
      rw [e, ← List.map_map]
      exact (List.pairwise_map.2 (hnk.imp (fun hab he => hab (strk_inj he))))
  have hko : ∀ x : Ent Name, x.1.length ≤ maxLen → keyOf Tryz.prog 9 (ent strk x).key = some (.string x.1) := fun x hx => by
    simp [keyOf, str_under, mapKey, ent, strk, ByteArray.size, hx]
  have hrd : ∀ x : Ent Name, x.1.length ≤ maxLen → WideElems.rd Tryz.prog 9 unread (ent strk x) = some (.string x.1, .nil) := fun x hx => by
    unfold WideElems.rd
    rw [hko x hx]
    rfl
  have hmem : ∀ x ∈ (L.map (ent strk)).toArray.toList, ∃ y ∈ L, x = ent strk y := fun x hx => by
    simp only [List.mem_map] at hx
    obtain ⟨y, hy, rfl⟩ := hx
    exact ⟨y, hy, rfl⟩
  have hfit : Fit Tryz.prog 9 unread (L.map (ent strk)).toArray clock := ⟨by simpa using hlen, hst, fun x hx => by
    obtain ⟨y, hy, rfl⟩ := hmem x hx
    exact ⟨_, hrd y (hkey y hy)⟩⟩
  have hown : w.ownsMap Tryz.prog 9 unread mb L.length (.map (((L.map (ent strk)).toArray.toList.map (WideElems.rg Tryz.prog 9 unread)).foldr DataW.insert [])) := ⟨_, clock, h.map, hfit, by simp, rfl⟩
  refine ⟨_, hown, ?_, ?_⟩
  · obtain ⟨es, hes, hpw, _⟩ := hown.entries (string_keyed str_under)
    obtain ⟨es', hes', hko'⟩ := hown.keysOf
    obtain rfl : es = es' := by rw [hes] at hes'; simpa using hes'
    rw [hes]
    have hesl : (((L.map (ent strk)).toArray.toList.map (WideElems.rg Tryz.prog 9 unread)).foldr DataW.insert []) = es := by simpa using hes
    refine perm_strKeys hpw (fun p hp => by obtain ⟨v, hv⟩ := hko' p hp; obtain ⟨x, _, hx, _⟩ := Maps.keyOf_str str_under hv; exact ⟨x, hx⟩) h.nd (fun x => ?_)
    rw [has_eq, List.any_eq_true]
    constructor
    · intro hx
      rw [← keys_eq h] at hx
      obtain ⟨y, hy, rfl⟩ := List.mem_map.1 hx
      refine ⟨(.string y.1, .nil), ?_, by simp [Lit.sameKey]⟩
      rw [← hesl]
      refine mem_sorted.2 (List.mem_map.2 ⟨ent strk y, by simp only [List.mem_map]; exact ⟨y, hy, rfl⟩, ?_⟩)
      unfold WideElems.rg
      rw [hrd y (hkey y hy)]
      rfl
    · rintro ⟨p, hp, hs⟩
      rw [← hesl] at hp
      obtain ⟨z, hz, rfl⟩ := List.mem_map.1 (mem_sorted.1 hp)
      obtain ⟨y, hy, rfl⟩ := hmem z hz
      unfold WideElems.rg at hs
      rw [hrd y (hkey y hy)] at hs
      rw [← keys_eq h]
      refine List.mem_map.2 ⟨y, hy, ?_⟩
      simpa [Lit.sameKey] using hs
  · have h1 := hown.len mapf 3
    have h2 := len_ok (P := Tryz.prog) mapf h.map 3
    rw [h1] at h2
    injection h2 with h2
    injection h2 with _ h2
    omega
end
theorem sorts_in (m : Nat) : AnyZ.SortsIn Tryz.prog Tryz.sorted100_ren Fence.wide m :=
  ⟨fun blk off cap ss W hH hblk hsz => callsIn_wide.2 (AnyM.slices_Sort_string Tryz.sort139 blk off cap ss W hH hblk hsz),
   fun p cap W => callsIn_wide.2 (AnyM.slices_Sort_string_none Tryz.sort139 p cap W)⟩
theorem keys_ok (mb : Option Nat) (W : World) : Calls Tryz.prog 101 #[.map mb] W fun e w' => e = .returned (.func (.func 140) #[] #[.pointer (some ⟨W.heap.size, 0, none⟩)]) ∧ w' = W.alloc (.cells #[.map mb] 123) :=
  (callsIn_wide (n := 5)).1 (AnyZ.keys_in Tryz.keys101 Fence.wide 5 trivial rfl mb W)
set_option maxHeartbeats 1000000 in
theorem sorted_keys {H : Type} (b nn : Nat) (D0 : DataW H) (R : Value → Option (DataW H × List MemPlace)) (w : World) (hown : w.ownsMap Tryz.prog 9 R b nn D0) (hmax : Maps.size D0 ≤ maxLen) (hbytes : Maps.size D0 * 16 ≤ 140737488355328) :
    Calls Tryz.prog 100 #[.func (.func 140) #[] #[.pointer (some ⟨w.heap.size, 0, none⟩)]] (w.alloc (.cells #[.map (some b)] 123)) fun e w' => ∃ (v : Value) (ss : List (List UInt8)), e = .returned v ∧ ss.Perm (strKeys D0) ∧
      w'.ownsRow (w.alloc (.cells #[.map (some b)] 123)).heap.size 9 1 v ss.length ((ss.mergeSort (fun x y => decide (x ≤ y))).map encStr) ∧ (v = .slice none 0 0 ↔ ss = []) ∧ Below (w.alloc (.cells #[.map (some b)] 123)).heap.size (w.alloc (.cells #[.map (some b)] 123)) w' := by
  refine (callsIn_wide (n := 5)).1 ?_
  have hbl := hown.lt
  have hseq : SeqGives Fence.wide 2 Tryz.prog 140 #[.pointer (some ⟨w.heap.size, 0, none⟩)] encStr (fun ss => ss.Perm (strKeys D0)) (Maps.size D0) (w.alloc (.cells #[.map (some b)] 123)) :=
    AnyZ.keys_gives (ρ := Tryz.keys101_ren) { Tryz.keys101 with } Fence.wide _ trivial rfl (by omega) w.heap.size b nn D0 _ (by simp) (by simp) (by
      obtain ⟨es, clock, hb, Ft, hs, hD⟩ := hown
      exact ⟨es, clock, (Below.heap_alloc _ _ b hbl).trans hb, Ft, hs, hD⟩)
  exact AnyZ.sorted_in Tryz.sorted100 Fence.wide 5 trivial trivial trivial trivial rfl (by omega) (sorts_in _) (enters_of Tryz.func139 (by kernel_rfl) rfl) 140 #[.pointer (some ⟨w.heap.size, 0, none⟩)] trivial (enters_of Tryz.func140 (by kernel_rfl) rfl) _ _ hmax hbytes _ hseq
/-- what bounds a file system's lists -/
structure FBnd (F : FileL) : Prop where
  many : F.length ≤ 4096
  name : ∀ p ∈ F, p.1.length ≤ 4096
  pages : ∀ p ∈ F, p.2.length ≤ 4096
section
variable {w : World} {fb : Nat} {X : Nat → Prop} {room left : Int} {F : FileL}
theorem fnames_ok (h : FSAt w fb X room left F) (hB : FBnd F) : Calls Tryz.prog 58 #[.pointer (some ⟨fb, 0, none⟩)] w fun e w' => ∃ (A : Option Addr) (c : Nat) (ns : List Name), e = .returned (.slice A F.length c) ∧ ns.Perm (F.map (·.1)) ∧ Reads w' w'.heap.size 1 A F.length (ns.map strv) ∧ Fr (fun _ => False) w w' := by
  have HN := hide (fnone_ok h)
  obtain ⟨mb, L, clock, h⟩ := h
  obtain ⟨D0, hown, hperm, hsz⟩ := h.owns (by have := h.len; have := hB.many; unfold maxLen; omega) (fun p hp => by have := hB.name p hp; unfold maxLen; omega)
  have HS := hide (sorted_keys mb L.length D0 unread w hown (by have := h.len; have := hB.many; unfold maxLen; omega) (by have := h.len; have := hB.many; omega))
  have HP := hide hperm
  have HK := hide (keys_ok (some mb) w)
  have c2 := (h.blk.cell 2).trans rfl
  clear hown hperm hsz
  clear h
  go_enter Tryz.func58, Tryz.ntmps58
  go_wp2_with fail
  go_at_call 62
  refine HN.out.mono ?_
  rintro e w1 ⟨rfl, rfl⟩
  go_wp2_with fail
  go_at_call 101
  refine HK.out.mono ?_
  rintro e w1 ⟨rfl, rfl⟩
  go_wp2_with fail
  go_at_call 100
  refine HS.out.mono ?_
  rintro e w2 ⟨v, ss, rfl, hp, ho, _, hb⟩
  have hlen : ss.length = F.length := by have := (hp.trans HP.out.symm).length_eq; simpa using this
  obtain ⟨A, c, rfl⟩ := Reads.own_val ho
  have HO := hide ho
  have HPP := hide (((List.mergeSort_perm ss (fun x y => decide (x ≤ y))).trans hp).trans HP.out.symm)
  have HF := hide (((Fr.refl (fun _ => False) w).alloc (.cells #[.map (some mb)] 123)).trans (Fr.of_below hb (fun _ => False)) (fun k h => h.elim))
  clear ho hb hp
  go_wp2
  go_ret
  refine ⟨A, c, _, by rw [← hlen]; rfl, HPP.out, ?_, HF.out⟩
  rw [← hlen]
  exact Reads.of_own HO.out
/-- how many pages all files have -/
def total (F : FileL) : Nat := (F.map fun p => p.2.length).sum
theorem fpg_at : ∀ {F : FileL}, (F.map (·.1)).Nodup → ∀ p ∈ F, fpg p.1 F = p.2
  | [], _, p, hp => by cases hp
  | q :: F, hn, p, hp => by
    rw [List.map_cons, List.nodup_cons] at hn
    rcases List.mem_cons.1 hp with rfl | hp
    · simp [fpg]
    · have : ¬ p.1 = q.1 := fun e => hn.1 (by rw [← e]; exact List.mem_map_of_mem hp)
      unfold fpg
      rw [if_neg this]
      exact fpg_at hn.2 p hp
theorem total_names {F : FileL} (hn : (F.map (·.1)).Nodup) {ns : List Name} (hp : ns.Perm (F.map (·.1))) : (ns.map fun n => (fpg n F).length).sum = total F := by
  have h1 := (hp.map fun n => (fpg n F).length).sum_nat
  rw [h1]
  unfold total
  rw [List.map_map]
  congr 1
  apply List.map_congr_left
  intro p hp
  show (fpg p.1 F).length = _
  rw [fpg_at hn p hp]
theorem fpg_le {F : FileL} (hB : FBnd F) (n : Name) : (fpg n F).length ≤ 4096 := by
  have : ∀ F : FileL, (∀ p ∈ F, p.2.length ≤ 4096) → (fpg n F).length ≤ 4096 := by
    intro F
    induction F with
    | nil => intro _; simp [fpg]
    | cons q F ih =>
      intro h
      unfold fpg
      split
      · exact h q (by simp)
      · exact ih (fun p hp => h p (List.mem_cons_of_mem _ hp))
  exact this F hB.pages
theorem take_sum_le (l : List Nat) (h : ∀ x ∈ l, x ≤ 4096) : ∀ k, (l.take k).sum ≤ 4096 * k
  | 0 => by simp
  | k + 1 => by
    by_cases hk : k < l.length
    · rw [List.take_succ_eq_append_getElem hk, List.sum_append]
      have := take_sum_le l h k
      have := h _ (List.getElem_mem hk)
      simp
      omega
    · have e : l.take (k + 1) = l.take k := by rw [List.take_of_length_le (by omega), List.take_of_length_le (by omega)]
      rw [e]
      have := take_sum_le l h k
      omega
theorem fused_ok (h : FSAt w fb X room left F) (hB : FBnd F) : Calls Tryz.prog 33 #[.pointer (some ⟨fb, 0, none⟩)] w fun e w' => e = .returned (.int .i64 ((total F : Nat) : Int)) ∧ Fr (fun _ => False) w w' := by
  have HNM := hide (fnames_ok h hB)
  have HH := hide h
  have HLE := hide (fpg_le hB)
  have hmany := hB.many
  obtain ⟨mb, L, clock, h⟩ := h
  have HTN := hide (fun (ns : List Name) (hp : ns.Perm (F.map (·.1))) => total_names h.nd hp)
  have HC := hide (fun w' (hf : Fr (fun _ => False) w w') => (show w'.cell? ⟨fb, 2, none⟩ = some (.map (some mb)) ∧ ∀ n : Name, ∃ A c, (Instr.lookup 123 (.map (some mb)) (.string ⟨n.toArray⟩) false).run Tryz.prog w' = .ok (.slice A (fpg n F).length c) w' from
    ⟨((h.fr hf (fun _ _ h => h)).blk.cell 2).trans rfl, fun n => by
      obtain ⟨A, c, hl, _⟩ := h.look n
      exact ⟨A, c, hl w' (h.map.fr hf id)⟩⟩))
  clear h
  go_enter Tryz.func33, Tryz.ntmps33
  go_wp2_with fail
  go_at_call 58
  refine HNM.out.mono ?_
  rintro e w1 ⟨A, c, ns, rfl, hp, hr, hf⟩
  have HR := hide hr
  have HF1 := hide hf
  have HP := hide hp
  obtain ⟨q, hq⟩ : ∃ q, F.length = q := ⟨_, rfl⟩
  rw [hq] at HR hmany ⊢
  have hnl : ns.length = q := by have := hr.1; rw [hq] at this; simpa using this
  have HT := hide (HTN.out ns hp)
  have HSL := hide (take_sum_le (ns.map fun n => (fpg n F).length) (fun x hx => by
    obtain ⟨n, _, rfl⟩ := List.mem_map.1 hx
    exact HLE.out n))
  clear hr hf hp hq
  go_wp2_with fail
  go_loopw [3, 9] (fun sv i wr => ∃ k : Nat, k ≤ q ∧ i = .int .i64 (k : Int) ∧ sv = .int .i64 ((((ns.map fun n => (fpg n F).length).take k).sum : Nat) : Int) ∧ wr = w1) (fun _ i _ => q - (intOf i).toNat)
  case atStart => exact ⟨0, by omega, rfl, by simp, rfl⟩
  case round =>
    obtain ⟨k, hk, rfl, rfl, rfl⟩ := hrel
    have hsl := HSL.out k
    by_cases hlt : k < q
    · have lk : k < ns.length := by omega
      have lk2 : k < (ns.map fun n => (fpg n F).length).length := by simpa using lk
      have HS := hide (show ((ns.map fun n => (fpg n F).length).take (k + 1)).sum = ((ns.map fun n => (fpg n F).length).take k).sum + (fpg ns[k] F).length by
        rw [List.take_succ_eq_append_getElem lk2, List.sum_append]; simp)
      obtain ⟨b, o, rfl, hb, hc⟩ := HR.out.2 (by omega)
      have hcc := hc k (strv ns[k]) (by rw [List.getElem?_map, List.getElem?_eq_getElem lk]; rfl)
      unfold strv at hcc
      generalize ns[k]'lk = n at *
      obtain ⟨c2, hlk⟩ := HC.out wr HF1.out
      obtain ⟨A2, c2', hl2⟩ := hlk n
      have hle := HLE.out n
      generalize (fpg n F).length = m at *
      generalize ((ns.map fun n => (fpg n F).length).take k).sum = sm at *
      have b0 : (0 : Int) ≤ (k : Int) := by omega
      have b1 : (k : Int) < (q : Int) := by omega
      clear hlk hc
      go_wp2
      go_roundw
      case rel => exact ⟨k + 1, by omega, by go_num, by rw [HS.out]; go_num, by first | rfl | trivial⟩
      case measure => simp [intOf]; omega
    · obtain rfl : k = q := by omega
      have HE := hide (show ((ns.map fun n => (fpg n F).length).take k).sum = total F by
        rw [List.take_of_length_le (by simp; omega)]; exact HT.out)
      rw [HE.out]
      go_wp2
      go_ret
      exact ⟨rfl, HF1.out⟩
end
end Go.Proofs.YtkhbemmcegmdaaaGreatDoor
