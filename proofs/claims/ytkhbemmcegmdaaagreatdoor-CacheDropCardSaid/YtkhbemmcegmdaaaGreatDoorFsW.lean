/- files' lay, Put, Write, Remove, by contract. -/
import Derived.Test.YtkhbemmcegmdaaaGreatDoorFsU
set_option linter.all false
set_option linter.unusedVariables false
set_option maxRecDepth 100000
namespace Go.Proofs.YtkhbemmcegmdaaaGreatDoor
open Go.RowKit
open Go.ChangeMaps (setBlock)

/-- a file's pages laid anew, or a file more -/
def fput (n : Name) (q : List (List UInt8)) (F : FileL) : FileL := if n ∈ F.map (·.1) then F.map (fun p => if p.1 = n then (p.1, q) else p) else F ++ [(n, q)]
def fdel (n : Name) (F : FileL) : FileL := F.filter fun p => p.1 ≠ n
section
variable {α : Type} [DecidableEq α]
theorem aset_map (k : α) (v : Value) : ∀ {L : List (Ent α)}, (L.map (·.1)).Nodup → aset k v L = L.map fun x => if x.1 = k then (x.1, v, x.2.2) else x
  | [], _ => rfl
  | x :: L, hn => by
    rw [List.map_cons, List.nodup_cons] at hn
    unfold aset
    by_cases h : k = x.1
    · rw [if_pos h, List.map_cons, if_pos h.symm, h]
      congr 1
      rw [List.map_congr_left (g := id)]
      · simp
      · intro y hy
        have : ¬ y.1 = x.1 := fun e => hn.1 (by rw [← e]; exact List.mem_map_of_mem hy)
        rw [if_neg this]; rfl
    · rw [if_neg h, List.map_cons, if_neg (Ne.symm h), aset_map k v hn.2]
theorem adel_filter (k : α) : ∀ {L : List (Ent α)}, (L.map (·.1)).Nodup → adel k L = L.filter fun x => x.1 ≠ k
  | [], _ => rfl
  | x :: L, hn => by
    rw [List.map_cons, List.nodup_cons] at hn
    unfold adel
    by_cases h : k = x.1
    · rw [if_pos h, List.filter_cons_of_neg (by simp [h])]
      symm
      rw [List.filter_eq_self]
      intro y hy
      have : ¬ y.1 = k := fun e => hn.1 (by rw [← h, ← e]; exact List.mem_map_of_mem hy)
      simpa using this
    · rw [if_neg h, List.filter_cons_of_pos (by simpa using Ne.symm h), adel_filter k hn.2]
theorem aget_none_iff (k : α) : ∀ {L : List (Ent α)}, aget k L = none ↔ k ∉ L.map (·.1)
  | [] => by simp [aget]
  | x :: L => by
    unfold aget
    by_cases h : k = x.1
    · rw [if_pos h]; simp [h]
    · rw [if_neg h, aget_none_iff k]
      simp [h]
end
/-- two lists, element by element -/
def Two {α β : Type} (R : α → β → Prop) : List α → List β → Prop
  | [], [] => True
  | x :: L, p :: F => R x p ∧ Two R L F
  | _, _ => False
theorem two_of {α β : Type} {R : α → β → Prop} : ∀ {L : List α} {F : List β}, L.length = F.length → (∀ (i : Nat) (x : α) (p : β), L[i]? = some x → F[i]? = some p → R x p) → Two R L F
  | [], [], _, _ => trivial
  | x :: L, p :: F, hl, h => ⟨h 0 x p rfl rfl, two_of (by simpa using hl) (fun i y q hy hq => h (i + 1) y q (by simpa using hy) (by simpa using hq))⟩
theorem Two.at {α β : Type} {R : α → β → Prop} : ∀ {L : List α} {F : List β}, Two R L F → L.length = F.length ∧ ∀ (i : Nat) (x : α) (p : β), L[i]? = some x → F[i]? = some p → R x p
  | [], [], _ => ⟨rfl, fun i x p hx => by simp at hx⟩
  | x :: L, p :: F, h => by
    obtain ⟨h1, h2⟩ := Two.at h.2
    refine ⟨by simp [h1], fun i y q hy hq => ?_⟩
    cases i with
    | zero =>
      obtain rfl := Option.some.inj hy
      obtain rfl := Option.some.inj hq
      exact h.1
    | succ i => exact h2 i y q (by simpa using hy) (by simpa using hq)
theorem Two.map {α β : Type} {R R' : α → β → Prop} {f : α → α} {g : β → β} : ∀ {L : List α} {F : List β}, Two R L F → (∀ x p, x ∈ L → p ∈ F → R x p → R' (f x) (g p)) → Two R' (L.map f) (F.map g)
  | [], [], _, _ => trivial
  | x :: L, p :: F, h, hr => ⟨hr x p (by simp) (by simp) h.1, Two.map h.2 (fun y q hy hq => hr y q (List.mem_cons_of_mem _ hy) (List.mem_cons_of_mem _ hq))⟩
theorem Two.snoc {α β : Type} {R : α → β → Prop} {x : α} {p : β} : ∀ {L : List α} {F : List β}, Two R L F → R x p → Two R (L ++ [x]) (F ++ [p])
  | [], [], _, hr => ⟨hr, trivial⟩
  | y :: L, q :: F, h, hr => ⟨h.1, Two.snoc h.2 hr⟩
theorem Two.mono {α β : Type} {R R' : α → β → Prop} {L : List α} {F : List β} (h : Two R L F) (hr : ∀ x p, x ∈ L → p ∈ F → R x p → R' x p) : Two R' L F := by
  have := Two.map (f := id) (g := id) h hr
  simpa using this
theorem Two.filter {α β : Type} {R : α → β → Prop} {f : α → Bool} {g : β → Bool} : ∀ {L : List α} {F : List β}, Two R L F → (∀ x p, R x p → f x = g p) → Two R (L.filter f) (F.filter g)
  | [], [], _, _ => trivial
  | x :: L, p :: F, h, hr => by
    have ih := Two.filter h.2 hr
    have e := hr x p h.1
    by_cases hf : f x = true
    · rw [List.filter_cons_of_pos hf, List.filter_cons_of_pos (by rw [← e]; exact hf)]
      exact ⟨h.1, ih⟩
    · rw [List.filter_cons_of_neg hf, List.filter_cons_of_neg (by rw [← e]; exact hf)]
      exact ih
def Dj (u v : Value) : Prop := u.ownBlock = none ∨ u.ownBlock ≠ v.ownBlock
theorem Dj.symm {u v : Value} (h : Dj u v) : Dj v u := by
  unfold Dj at *
  rcases h with h | h
  · cases hv : v.ownBlock with
    | none => exact .inl rfl
    | some b => exact .inr (by rw [h]; simp)
  · exact .inr (Ne.symm h)
theorem dis_pw {L : List (Ent Name)} (h : ∀ (i j : Nat) (x y : Ent Name), i ≠ j → L[i]? = some x → L[j]? = some y → x.2.1.ownBlock = none ∨ x.2.1.ownBlock ≠ y.2.1.ownBlock) : L.Pairwise fun x y => Dj x.2.1 y.2.1 := by
  rw [List.pairwise_iff_getElem]
  intro i j hi hj hij
  exact h i j L[i] L[j] (by omega) (List.getElem?_eq_getElem hi) (List.getElem?_eq_getElem hj)
theorem pw_dis {L : List (Ent Name)} (h : L.Pairwise fun x y => Dj x.2.1 y.2.1) : ∀ (i j : Nat) (x y : Ent Name), i ≠ j → L[i]? = some x → L[j]? = some y → x.2.1.ownBlock = none ∨ x.2.1.ownBlock ≠ y.2.1.ownBlock := by
  rw [List.pairwise_iff_getElem] at h
  intro i j x y hij hx hy
  obtain ⟨hi, rfl⟩ := List.getElem?_eq_some_iff.1 hx
  obtain ⟨hj, rfl⟩ := List.getElem?_eq_some_iff.1 hy
  rcases Nat.lt_or_ge i j with h1 | h1
  · exact h i j hi hj h1
  · exact (h j i hj hi (by omega)).symm
section
variable {w w1 : World} {fb mb clock : Nat} {X S : Nat → Prop} {room left : Int} {F : FileL} {L : List (Ent Name)}
def RowP (w : World) (X : Nat → Prop) (fb mb : Nat) (x : Ent Name) (p : Name × List (List UInt8)) : Prop := x.1 = p.1 ∧ p.2 ≠ [] ∧ w.ownsRow 0 9 1 x.2.1 p.2.length (p.2.map strv) ∧ ∀ b, x.2.1.ownBlock = some b → X b ∧ b ≠ fb ∧ b ≠ mb
theorem FSRep.two (h : FSRep w fb mb X room left F L clock) : Two (RowP w X fb mb) L F := two_of h.len h.row
theorem FSRep.nl (h : FSRep w fb mb X room left F L clock) : (L.map (·.1)).Nodup := by rw [keys_eq h]; exact h.nd
theorem FSRep.mem (h : FSRep w fb mb X room left F L clock) {x : Ent Name} (hx : x ∈ L) : ∃ p ∈ F, RowP w X fb mb x p := by
  obtain ⟨i, hi, rfl⟩ := List.mem_iff_getElem.1 hx
  have hi2 : i < F.length := by rw [← h.len]; exact hi
  exact ⟨F[i], List.getElem_mem hi2, h.row i _ _ (List.getElem?_eq_getElem hi) (List.getElem?_eq_getElem hi2)⟩
theorem aget_mem {n : Name} {v : Value} : ∀ {L : List (Ent Name)}, aget n L = some v → ∃ x ∈ L, x.1 = n ∧ x.2.1 = v
  | [], h => by cases h
  | x :: L, h => by
    unfold aget at h
    split at h
    · next hn => exact ⟨x, by simp, hn.symm, Option.some.inj h⟩
    · obtain ⟨y, hy, h1, h2⟩ := aget_mem h
      exact ⟨y, List.mem_cons_of_mem _ hy, h1, h2⟩
theorem FSRep.dj (h : FSRep w fb mb X room left F L clock) {x y : Ent Name} (hx : x ∈ L) (hy : y ∈ L) (hne : x.1 ≠ y.1) : Dj x.2.1 y.2.1 := by
  obtain ⟨i, hi, rfl⟩ := List.mem_iff_getElem.1 hx
  obtain ⟨j, hj, rfl⟩ := List.mem_iff_getElem.1 hy
  exact h.dis i j _ _ (fun e => hne (by subst e; rfl)) (List.getElem?_eq_getElem hi) (List.getElem?_eq_getElem hj)
theorem FSRep.put (h : FSRep w fb mb X room left F L clock) (hf : Fr S w w1) (n : Name) (v : Value) (q : List (List UInt8)) (hq : q ≠ []) (hS : ∀ k, S k → ∃ v0, aget n L = some v0 ∧ v0.ownBlock = some k)
    (ho : w1.ownsRow 0 9 1 v q.length (q.map strv)) (hb : ∀ k, v.ownBlock = some k → (∃ v0, aget n L = some v0 ∧ v0.ownBlock = some k) ∨ w.heap.size ≤ k) :
    FSRep (setBlock w1 mb (.map ((aput n v L clock).map (ent strk)).toArray (aclk n L clock))) fb mb (fun k => X k ∨ v.ownBlock = some k) room left (fput n q F) (aput n v L clock) (aclk n L clock) := by
  have hkm : n ∈ F.map (·.1) ↔ (aget n L).isSome = true := by
    rw [← keys_eq h]
    cases hg : aget n L with
    | none => have := (aget_none_iff n).1 hg; simp only [this]; simp
    | some v0 =>
      obtain ⟨x, hx, h1, _⟩ := aget_mem hg
      have : n ∈ L.map (·.1) := by rw [← h1]; exact List.mem_map_of_mem hx
      simp only [this]; simp
  have hSX : ∀ k, S k → X k ∧ k ≠ fb ∧ k ≠ mb := fun k hk => by
    obtain ⟨v0, hg, hv⟩ := hS k hk
    obtain ⟨x, hx, _, rfl⟩ := aget_mem hg
    obtain ⟨p, _, hr⟩ := h.mem hx
    exact hr.2.2.2 k hv
  have hbx : ∀ k, v.ownBlock = some k → k ≠ fb ∧ k ≠ mb := fun k hk => by
    rcases hb k hk with ⟨v0, hg, hv⟩ | hge
    · obtain ⟨x, hx, _, rfl⟩ := aget_mem hg
      obtain ⟨p, _, hr⟩ := h.mem hx
      exact (hr.2.2.2 k hv).2
    · have h1 := h.lt _ h.xf
      have h2 := h.lt _ h.xm
      omega
  have hbn : fb ∉ [] := by simp
  have hfb : ¬ S fb := fun hs => (hSX fb hs).2.1 rfl
  have hmb : ¬ S mb := fun hs => (hSX mb hs).2.2 rfl
  have hm1 := h.map.fr hf hmb
  have hfs := fr_setBlock w1 mb (.map ((aput n v L clock).map (ent strk)).toArray (aclk n L clock))
  have ho2 : (setBlock w1 mb (.map ((aput n v L clock).map (ent strk)).toArray (aclk n L clock))).ownsRow 0 9 1 v q.length (q.map strv) := own_fr ho hfs (fun k hk e => (hbx k hk).2 e)
  have hnew : ∀ y ∈ L, y.1 ≠ n → Dj v y.2.1 := fun y hy hne => by
    cases hvb : v.ownBlock with
    | none => exact .inl hvb
    | some k =>
      refine .inr fun e => ?_
      rcases hb k hvb with ⟨v0, hg, hv⟩ | hge
      · obtain ⟨x, hx, hx1, rfl⟩ := aget_mem hg
        rcases h.dj hx hy (by rw [hx1]; exact Ne.symm hne) with h1 | h1
        · rw [h1] at hv; cases hv
        · exact h1 (by rw [hv, ← hvb]; exact e)
      · obtain ⟨p, _, hr⟩ := h.mem hy
        have := h.lt k (hr.2.2.2 k (by rw [← e]; exact hvb)).1
        omega
  have hold : ∀ y ∈ L, ∀ p : Name × List (List UInt8), y.1 ≠ n → RowP w X fb mb y p → RowP (setBlock w1 mb (.map ((aput n v L clock).map (ent strk)).toArray (aclk n L clock))) (fun k => X k ∨ v.ownBlock = some k) fb mb y p := fun y hy p hne hr => by
    obtain ⟨h1, h2, h3, h4⟩ := hr
    refine ⟨h1, h2, own_fr (own_fr h3 hf (fun k hk hs => ?_)) hfs (fun k hk e => (h4 k hk).2.2 e), fun b hb' => ⟨.inl (h4 b hb').1, (h4 b hb').2⟩⟩
    obtain ⟨v0, hg, hv⟩ := hS k hs
    obtain ⟨x, hx, hx1, rfl⟩ := aget_mem hg
    rcases h.dj hx hy (by rw [hx1]; exact Ne.symm hne) with h1 | h1
    · rw [h1] at hv; cases hv
    · exact h1 (by rw [hv, hk])
  have hpw := dis_pw h.dis
  by_cases hin : (aget n L).isSome = true
  · have e1 : aput n v L clock = L.map fun x => if x.1 = n then (x.1, v, x.2.2) else x := by unfold aput; rw [if_pos hin, aset_map n v h.nl]
    have e2 : aclk n L clock = clock := by unfold aclk; rw [if_pos hin]
    have e3 : fput n q F = F.map fun p => if p.1 = n then (p.1, q) else p := by unfold fput; rw [if_pos (hkm.2 hin)]
    have htwo : Two (RowP (setBlock w1 mb (.map ((aput n v L clock).map (ent strk)).toArray (aclk n L clock))) (fun k => X k ∨ v.ownBlock = some k) fb mb) (aput n v L clock) (fput n q F) := by
      rw [e3]
      conv => arg 2; rw [e1]
      refine Two.map h.two (fun x p hx hp hr => ?_)
      by_cases hxn : x.1 = n
      · rw [if_pos hxn, if_pos (by rw [← hr.1]; exact hxn)]
        exact ⟨hr.1, hq, ho2, fun b hb' => ⟨.inr hb', hbx b hb'⟩⟩
      · rw [if_neg hxn, if_neg (by rw [← hr.1]; exact hxn)]
        exact hold x hx p hxn hr
    obtain ⟨t1, t2⟩ := htwo.at
    refine ⟨fun k hk => ?_, .inl h.xf, .inl h.xm, h.ne, (h.blk.fr hf hfb).fr hfs h.ne, hm1.set _ _, ?_, ?_, ?_, t1, t2, pw_dis ?_⟩
    · have := hfs.size
      have := hf.size
      rcases hk with hk | hk
      · have := h.lt k hk; omega
      · have := (ho.lt k hk).2; omega
    · rw [e3, List.map_map]
      have : ((fun p : Name × List (List UInt8) => p.1) ∘ fun p => if p.1 = n then (p.1, q) else p) = fun p => p.1 := by
        funext p
        simp only [Function.comp]
        split <;> rfl
      rw [this]
      exact h.nd
    · rw [e1, List.map_map]
      have : ((fun x : Ent Name => x.2.2) ∘ fun x => if x.1 = n then (x.1, v, x.2.2) else x) = fun x => x.2.2 := by
        funext x
        simp only [Function.comp]
        split <;> rfl
      rw [this]
      exact h.bnd
    · rw [e1, e2]
      intro x hx
      obtain ⟨y, hy, rfl⟩ := List.mem_map.1 hx
      have := h.bclk y hy
      split <;> exact this
    · rw [e1]
      refine List.pairwise_map.2 ((List.pairwise_and_iff.2 ⟨hpw, List.pairwise_map.1 h.nl⟩).imp_of_mem fun {x y} hx hy hxy => ?_)
      obtain ⟨hd, hne⟩ := hxy
      by_cases hxn : x.1 = n
      · have hyn : ¬ y.1 = n := fun e => hne (hxn.trans e.symm)
        rw [if_pos hxn, if_neg hyn]
        exact hnew y hy hyn
      · rw [if_neg hxn]
        by_cases hyn : y.1 = n
        · rw [if_pos hyn]; exact (hnew x hx hxn).symm
        · rw [if_neg hyn]; exact hd
  · have hnone : aget n L = none := by simpa using hin
    have hnl : n ∉ L.map (·.1) := (aget_none_iff n).1 hnone
    have e1 : aput n v L clock = L ++ [(n, v, clock)] := by unfold aput; rw [if_neg hin]
    have e2 : aclk n L clock = clock + 1 := by unfold aclk; rw [if_neg hin]
    have e3 : fput n q F = F ++ [(n, q)] := by unfold fput; rw [if_neg (fun hm => hin (hkm.1 hm))]
    have hyn : ∀ y ∈ L, y.1 ≠ n := fun y hy e => hnl (by rw [← e]; exact List.mem_map_of_mem hy)
    have htwo : Two (RowP (setBlock w1 mb (.map ((aput n v L clock).map (ent strk)).toArray (aclk n L clock))) (fun k => X k ∨ v.ownBlock = some k) fb mb) (aput n v L clock) (fput n q F) := by
      rw [e3]
      conv => arg 2; rw [e1]
      exact Two.snoc (Two.mono h.two (fun x p hx hp hr => hold x hx p (hyn x hx) hr)) ⟨rfl, hq, ho2, fun b hb' => ⟨.inr hb', hbx b hb'⟩⟩
    obtain ⟨t1, t2⟩ := htwo.at
    refine ⟨fun k hk => ?_, .inl h.xf, .inl h.xm, h.ne, (h.blk.fr hf hfb).fr hfs h.ne, hm1.set _ _, ?_, ?_, ?_, t1, t2, pw_dis ?_⟩
    · have := hfs.size
      have := hf.size
      rcases hk with hk | hk
      · have := h.lt k hk; omega
      · have := (ho.lt k hk).2; omega
    · rw [e3, List.map_append]
      refine List.nodup_append.2 ⟨h.nd, by simp, fun a ha b hb e => ?_⟩
      simp at hb
      exact hnl (by rw [keys_eq h, ← hb, ← e]; exact ha)
    · rw [e1, List.map_append]
      refine List.nodup_append.2 ⟨h.bnd, by simp, fun a ha b hb e => ?_⟩
      simp at hb
      obtain ⟨y, hy, rfl⟩ := List.mem_map.1 ha
      have := h.bclk y hy
      omega
    · rw [e1, e2]
      intro x hx
      rcases List.mem_append.1 hx with hx | hx
      · have := h.bclk x hx; omega
      · rw [List.mem_singleton] at hx; subst hx; exact Nat.lt_succ_self _
    · rw [e1]
      refine List.pairwise_append.2 ⟨hpw, List.pairwise_singleton _ _, fun x hx y hy => ?_⟩
      rw [List.mem_singleton] at hy
      subst hy
      exact (hnew x hx (hyn x hx)).symm
theorem FSRep.del (h : FSRep w fb mb X room left F L clock) (n : Name) : FSRep (setBlock w mb (.map ((adel n L).map (ent strk)).toArray clock)) fb mb X room left (fdel n F) (adel n L) clock := by
  have hfs := fr_setBlock w mb (.map ((adel n L).map (ent strk)).toArray clock)
  have e1 := adel_filter n h.nl
  have htwo : Two (RowP (setBlock w mb (.map ((adel n L).map (ent strk)).toArray clock)) X fb mb) (adel n L) (fdel n F) := by
    unfold fdel
    conv => arg 2; rw [e1]
    refine Two.filter (Two.mono h.two (fun x p hx hp hr => ?_)) (fun x p hr => by rw [hr.1])
    obtain ⟨h1, h2, h3, h4⟩ := hr
    exact ⟨h1, h2, own_fr h3 hfs (fun k hk e => (h4 k hk).2.2 e), h4⟩
  obtain ⟨t1, t2⟩ := htwo.at
  refine ⟨fun k hk => Nat.lt_of_lt_of_le (h.lt k hk) hfs.size, h.xf, h.xm, h.ne, h.blk.fr hfs h.ne, h.map.set _ _, ?_, ?_, ?_, t1, t2, pw_dis ?_⟩
  · exact (h.nd.sublist (List.Sublist.map _ List.filter_sublist))
  · rw [e1]; exact (h.bnd.sublist (List.Sublist.map _ List.filter_sublist))
  · rw [e1]; intro x hx; exact h.bclk x (List.mem_filter.1 hx).1
  · rw [e1]; exact (dis_pw h.dis).sublist List.filter_sublist
end
end Go.Proofs.YtkhbemmcegmdaaaGreatDoor
