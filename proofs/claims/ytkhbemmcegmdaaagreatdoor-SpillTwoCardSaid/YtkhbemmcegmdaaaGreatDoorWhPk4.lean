/- Parts of the proof of several laws: no conditions of their own. -/
import Derived.Test.YtkhbemmcegmdaaaGreatDoorWhPk3
section
set_option linter.all false
set_option linter.unusedVariables false
set_option maxRecDepth 100000
namespace Go.Proofs.YtkhbemmcegmdaaaGreatDoor
open Go.RowKit
open Go.ChangeMaps (setBlock)

/-- a file's pages laid anew, or a file more -/
def fput (n : Name) (q : List (List UInt8)) (F : FileL) : FileL := if n ∈ F.map (·.1) then F.map (fun p => if p.1 = n then (p.1, q) else p) else F ++ [(n, q)]
def fdel (n : Name) (F : FileL) : FileL := F.filter fun p => p.1 ≠ n
section
variable {α : Type} [DecidableEq α]
theorem aset_map (k : α) (v : Value) : ∀ {L : List (Ent α)}, (L.map (·.1)).Nodup → aset k v L = L.map fun x => if x.1 = k then (x.1, v, x.2.2) else x
  | [], _ => rfl
  | x :: L, hn => by
    rw [List.map_cons, List.nodup_cons] at hn
    unfold aset
    by_cases h : k = x.1
    · rw [if_pos h, List.map_cons, if_pos h.symm, h]
      congr 1
      rw [List.map_congr_left (g := id)]
      · simp
      · intro y hy
        have : ¬ y.1 = x.1 := fun e => hn.1 (by rw [← e]; exact List.mem_map_of_mem hy)
        rw [if_neg this]; rfl
    · rw [if_neg h, List.map_cons, if_neg (Ne.symm h), aset_map k v hn.2]
theorem adel_filter (k : α) : ∀ {L : List (Ent α)}, (L.map (·.1)).Nodup → adel k L = L.filter fun x => x.1 ≠ k
  | [], _ => rfl
  | x :: L, hn => by
    rw [List.map_cons, List.nodup_cons] at hn
    unfold adel
    by_cases h : k = x.1
    · rw [if_pos h, List.filter_cons_of_neg (by simp [h])]
      symm
      rw [List.filter_eq_self]
      intro y hy
      have : ¬ y.1 = k := fun e => hn.1 (by rw [← h, ← e]; exact List.mem_map_of_mem hy)
      simpa using this
    · rw [if_neg h, List.filter_cons_of_pos (by simpa using Ne.symm h), adel_filter k hn.2]
theorem aget_none_iff (k : α) : ∀ {L : List (Ent α)}, aget k L = none ↔ k ∉ L.map (·.1)
  | [] => by simp [aget]
  | x :: L => by
    unfold aget
    by_cases h : k = x.1
    · rw [if_pos h]; simp [h]
    · rw [if_neg h, aget_none_iff k]
      simp [h]
end
/-- two lists, element by element -/
def Two {α β : Type} (R : α → β → Prop) : List α → List β → Prop
  | [], [] => True
  | x :: L, p :: F => R x p ∧ Two R L F
  | _, _ => False
theorem two_of {α β : Type} {R : α → β → Prop} : ∀ {L : List α} {F : List β}, L.length = F.length → (∀ (i : Nat) (x : α) (p : β), L[i]? = some x → F[i]? = some p → R x p) → Two R L F
  | [], [], _, _ => trivial
  | x :: L, p :: F, hl, h => ⟨h 0 x p rfl rfl, two_of (by simpa using hl) (fun i y q hy hq => h (i + 1) y q (by simpa using hy) (by simpa using hq))⟩
theorem Two.at {α β : Type} {R : α → β → Prop} : ∀ {L : List α} {F : List β}, Two R L F → L.length = F.length ∧ ∀ (i : Nat) (x : α) (p : β), L[i]? = some x → F[i]? = some p → R x p
  | [], [], _ => ⟨rfl, fun i x p hx => by simp at hx⟩
  | x :: L, p :: F, h => by
    obtain ⟨h1, h2⟩ := Two.at h.2
    refine ⟨by simp [h1], fun i y q hy hq => ?_⟩
    cases i with
    | zero =>
      obtain rfl := Option.some.inj hy
      obtain rfl := Option.some.inj hq
      exact h.1
    | succ i => exact h2 i y q (by simpa using hy) (by simpa using hq)
theorem Two.map {α β : Type} {R R' : α → β → Prop} {f : α → α} {g : β → β} : ∀ {L : List α} {F : List β}, Two R L F → (∀ x p, x ∈ L → p ∈ F → R x p → R' (f x) (g p)) → Two R' (L.map f) (F.map g)
  | [], [], _, _ => trivial
  | x :: L, p :: F, h, hr => ⟨hr x p (by simp) (by simp) h.1, Two.map h.2 (fun y q hy hq => hr y q (List.mem_cons_of_mem _ hy) (List.mem_cons_of_mem _ hq))⟩
theorem Two.snoc {α β : Type} {R : α → β → Prop} {x : α} {p : β} : ∀ {L : List α} {F : List β}, Two R L F → R x p → Two R (L ++ [x]) (F ++ [p])
  | [], [], _, hr => ⟨hr, trivial⟩
  | y :: L, q :: F, h, hr => ⟨h.1, Two.snoc h.2 hr⟩
theorem Two.mono {α β : Type} {R R' : α → β → Prop} {L : List α} {F : List β} (h : Two R L F) (hr : ∀ x p, x ∈ L → p ∈ F → R x p → R' x p) : Two R' L F := by
  have := Two.map (f := id) (g := id) h hr
  simpa using this
theorem Two.filter {α β : Type} {R : α → β → Prop} {f : α → Bool} {g : β → Bool} : ∀ {L : List α} {F : List β}, Two R L F → (∀ x p, R x p → f x = g p) → Two R (L.filter f) (F.filter g)
  | [], [], _, _ => trivial
  | x :: L, p :: F, h, hr => by
    have ih := Two.filter h.2 hr
    have e := hr x p h.1
    by_cases hf : f x = true
    · rw [List.filter_cons_of_pos hf, List.filter_cons_of_pos (by rw [← e]; exact hf)]
      exact ⟨h.1, ih⟩
    · rw [List.filter_cons_of_neg hf, List.filter_cons_of_neg (by rw [← e]; exact hf)]
      exact ih
def Dj (u v : Value) : Prop := u.ownBlock = none ∨ u.ownBlock ≠ v.ownBlock
theorem Dj.symm {u v : Value} (h : Dj u v) : Dj v u := by
  unfold Dj at *
  rcases h with h | h
  · cases hv : v.ownBlock with
    | none => exact .inl rfl
    | some b => exact .inr (by rw [h]; simp)
  · exact .inr (Ne.symm h)
theorem dis_pw {L : List (Ent Name)} (h : ∀ (i j : Nat) (x y : Ent Name), i ≠ j → L[i]? = some x → L[j]? = some y → x.2.1.ownBlock = none ∨ x.2.1.ownBlock ≠ y.2.1.ownBlock) : L.Pairwise fun x y => Dj x.2.1 y.2.1 := by
  rw [List.pairwise_iff_getElem]
  intro i j hi hj hij
  exact h i j L[i] L[j] (by omega) (List.getElem?_eq_getElem hi) (List.getElem?_eq_getElem hj)
theorem pw_dis {L : List (Ent Name)} (h : L.Pairwise fun x y => Dj x.2.1 y.2.1) : ∀ (i j : Nat) (x y : Ent Name), i ≠ j → L[i]? = some x → L[j]? = some y → x.2.1.ownBlock = none ∨ x.2.1.ownBlock ≠ y.2.1.ownBlock := by
  rw [List.pairwise_iff_getElem] at h
  intro i j x y hij hx hy
  obtain ⟨hi, rfl⟩ := List.getElem?_eq_some_iff.1 hx
  obtain ⟨hj, rfl⟩ := List.getElem?_eq_some_iff.1 hy
  rcases Nat.lt_or_ge i j with h1 | h1
  · exact h i j hi hj h1
  · exact (h j i hj hi (by omega)).symm
section
variable {w w1 : World} {fb mb clock : Nat} {X S : Nat → Prop} {room left : Int} {F : FileL} {L : List (Ent Name)}
def RowP (w : World) (X : Nat → Prop) (fb mb : Nat) (x : Ent Name) (p : Name × List (List UInt8)) : Prop := x.1 = p.1 ∧ p.2 ≠ [] ∧ w.ownsRow 0 9 1 x.2.1 p.2.length (p.2.map strv) ∧ ∀ b, x.2.1.ownBlock = some b → X b ∧ b ≠ fb ∧ b ≠ mb
theorem FSRep.two (h : FSRep w fb mb X room left F L clock) : Two (RowP w X fb mb) L F := two_of h.len h.row
theorem FSRep.nl (h : FSRep w fb mb X room left F L clock) : (L.map (·.1)).Nodup := by rw [keys_eq h]; exact h.nd
theorem FSRep.mem (h : FSRep w fb mb X room left F L clock) {x : Ent Name} (hx : x ∈ L) : ∃ p ∈ F, RowP w X fb mb x p := by
  obtain ⟨i, hi, rfl⟩ := List.mem_iff_getElem.1 hx
  have hi2 : i < F.length := by rw [← h.len]; exact hi
  exact ⟨F[i], List.getElem_mem hi2, h.row i _ _ (List.getElem?_eq_getElem hi) (List.getElem?_eq_getElem hi2)⟩
theorem aget_mem {n : Name} {v : Value} : ∀ {L : List (Ent Name)}, aget n L = some v → ∃ x ∈ L, x.1 = n ∧ x.2.1 = v
  | [], h => by cases h
  | x :: L, h => by
    unfold aget at h
    split at h
    · next hn => exact ⟨x, by simp, hn.symm, Option.some.inj h⟩
    · obtain ⟨y, hy, h1, h2⟩ := aget_mem h
      exact ⟨y, List.mem_cons_of_mem _ hy, h1, h2⟩
theorem FSRep.dj (h : FSRep w fb mb X room left F L clock) {x y : Ent Name} (hx : x ∈ L) (hy : y ∈ L) (hne : x.1 ≠ y.1) : Dj x.2.1 y.2.1 := by
  obtain ⟨i, hi, rfl⟩ := List.mem_iff_getElem.1 hx
  obtain ⟨j, hj, rfl⟩ := List.mem_iff_getElem.1 hy
  exact h.dis i j _ _ (fun e => hne (by subst e; rfl)) (List.getElem?_eq_getElem hi) (List.getElem?_eq_getElem hj)
theorem FSRep.put (h : FSRep w fb mb X room left F L clock) (hf : Fr S w w1) (n : Name) (v : Value) (q : List (List UInt8)) (hq : q ≠ []) (hS : ∀ k, S k → ∃ v0, aget n L = some v0 ∧ v0.ownBlock = some k)
    (ho : w1.ownsRow 0 9 1 v q.length (q.map strv)) (hb : ∀ k, v.ownBlock = some k → (∃ v0, aget n L = some v0 ∧ v0.ownBlock = some k) ∨ w.heap.size ≤ k) :
    FSRep (setBlock w1 mb (.map ((aput n v L clock).map (ent strk)).toArray (aclk n L clock))) fb mb (fun k => X k ∨ v.ownBlock = some k) room left (fput n q F) (aput n v L clock) (aclk n L clock) := by
  have hkm : n ∈ F.map (·.1) ↔ (aget n L).isSome = true := by
    rw [← keys_eq h]
    cases hg : aget n L with
    | none => have := (aget_none_iff n).1 hg; simp only [this]; simp
    | some v0 =>
      obtain ⟨x, hx, h1, _⟩ := aget_mem hg
      have : n ∈ L.map (·.1) := by rw [← h1]; exact List.mem_map_of_mem hx
      simp only [this]; simp
  have hSX : ∀ k, S k → X k ∧ k ≠ fb ∧ k ≠ mb := fun k hk => by
    obtain ⟨v0, hg, hv⟩ := hS k hk
    obtain ⟨x, hx, _, rfl⟩ := aget_mem hg
    obtain ⟨p, _, hr⟩ := h.mem hx
    exact hr.2.2.2 k hv
  have hbx : ∀ k, v.ownBlock = some k → k ≠ fb ∧ k ≠ mb := fun k hk => by
    rcases hb k hk with ⟨v0, hg, hv⟩ | hge
    · obtain ⟨x, hx, _, rfl⟩ := aget_mem hg
      obtain ⟨p, _, hr⟩ := h.mem hx
      exact (hr.2.2.2 k hv).2
    · have h1 := h.lt _ h.xf
      have h2 := h.lt _ h.xm
      omega
  have hbn : fb ∉ [] := by simp
  have hfb : ¬ S fb := fun hs => (hSX fb hs).2.1 rfl
  have hmb : ¬ S mb := fun hs => (hSX mb hs).2.2 rfl
  have hm1 := h.map.fr hf hmb
  have hfs := fr_setBlock w1 mb (.map ((aput n v L clock).map (ent strk)).toArray (aclk n L clock))
  have ho2 : (setBlock w1 mb (.map ((aput n v L clock).map (ent strk)).toArray (aclk n L clock))).ownsRow 0 9 1 v q.length (q.map strv) := own_fr ho hfs (fun k hk e => (hbx k hk).2 e)
  have hnew : ∀ y ∈ L, y.1 ≠ n → Dj v y.2.1 := fun y hy hne => by
    cases hvb : v.ownBlock with
    | none => exact .inl hvb
    | some k =>
      refine .inr fun e => ?_
      rcases hb k hvb with ⟨v0, hg, hv⟩ | hge
      · obtain ⟨x, hx, hx1, rfl⟩ := aget_mem hg
        rcases h.dj hx hy (by rw [hx1]; exact Ne.symm hne) with h1 | h1
        · rw [h1] at hv; cases hv
        · exact h1 (by rw [hv, ← hvb]; exact e)
      · obtain ⟨p, _, hr⟩ := h.mem hy
        have := h.lt k (hr.2.2.2 k (by rw [← e]; exact hvb)).1
        omega
  have hold : ∀ y ∈ L, ∀ p : Name × List (List UInt8), y.1 ≠ n → RowP w X fb mb y p → RowP (setBlock w1 mb (.map ((aput n v L clock).map (ent strk)).toArray (aclk n L clock))) (fun k => X k ∨ v.ownBlock = some k) fb mb y p := fun y hy p hne hr => by
    obtain ⟨h1, h2, h3, h4⟩ := hr
    refine ⟨h1, h2, own_fr (own_fr h3 hf (fun k hk hs => ?_)) hfs (fun k hk e => (h4 k hk).2.2 e), fun b hb' => ⟨.inl (h4 b hb').1, (h4 b hb').2⟩⟩
    obtain ⟨v0, hg, hv⟩ := hS k hs
    obtain ⟨x, hx, hx1, rfl⟩ := aget_mem hg
    rcases h.dj hx hy (by rw [hx1]; exact Ne.symm hne) with h1 | h1
    · rw [h1] at hv; cases hv
    · exact h1 (by rw [hv, hk])
  have hpw := dis_pw h.dis
  by_cases hin : (aget n L).isSome = true
  · have e1 : aput n v L clock = L.map fun x => if x.1 = n then (x.1, v, x.2.2) else x := by unfold aput; rw [if_pos hin, aset_map n v h.nl]
    have e2 : aclk n L clock = clock := by unfold aclk; rw [if_pos hin]
    have e3 : fput n q F = F.map fun p => if p.1 = n then (p.1, q) else p := by unfold fput; rw [if_pos (hkm.2 hin)]
    have htwo : Two (RowP (setBlock w1 mb (.map ((aput n v L clock).map (ent strk)).toArray (aclk n L clock))) (fun k => X k ∨ v.ownBlock = some k) fb mb) (aput n v L clock) (fput n q F) := by
      rw [e3]
      conv => arg 2; rw [e1]
      refine Two.map h.two (fun x p hx hp hr => ?_)
      by_cases hxn : x.1 = n
      · rw [if_pos hxn, if_pos (by rw [← hr.1]; exact hxn)]
        exact ⟨hr.1, hq, ho2, fun b hb' => ⟨.inr hb', hbx b hb'⟩⟩
      · rw [if_neg hxn, if_neg (by rw [← hr.1]; exact hxn)]
        exact hold x hx p hxn hr
    obtain ⟨t1, t2⟩ := htwo.at
    refine ⟨fun k hk => ?_, .inl h.xf, .inl h.xm, h.ne, (h.blk.fr hf hfb).fr hfs h.ne, hm1.set _ _, ?_, ?_, ?_, t1, t2, pw_dis ?_⟩
    · have := hfs.size
      have := hf.size
      rcases hk with hk | hk
      · have := h.lt k hk; omega
      · have := (ho.lt k hk).2; omega
    · rw [e3, List.map_map]
      have : ((fun p : Name × List (List UInt8) => p.1) ∘ fun p => if p.1 = n then (p.1, q) else p) = fun p => p.1 := by
        funext p
        simp only [Function.comp]
        split <;> rfl
      rw [this]
      exact h.nd
    · rw [e1, List.map_map]
      have : ((fun x : Ent Name => x.2.2) ∘ fun x => if x.1 = n then (x.1, v, x.2.2) else x) = fun x => x.2.2 := by
        funext x
        simp only [Function.comp]
        split <;> rfl
      rw [this]
      exact h.bnd
    · rw [e1, e2]
      intro x hx
      obtain ⟨y, hy, rfl⟩ := List.mem_map.1 hx
      have := h.bclk y hy
      split <;> exact this
    · rw [e1]
      refine List.pairwise_map.2 ((List.pairwise_and_iff.2 ⟨hpw, List.pairwise_map.1 h.nl⟩).imp_of_mem fun {x y} hx hy hxy => ?_)
      obtain ⟨hd, hne⟩ := hxy
      by_cases hxn : x.1 = n
      · have hyn : ¬ y.1 = n := fun e => hne (hxn.trans e.symm)
        rw [if_pos hxn, if_neg hyn]
        exact hnew y hy hyn
      · rw [if_neg hxn]
        by_cases hyn : y.1 = n
        · rw [if_pos hyn]; exact (hnew x hx hxn).symm
        · rw [if_neg hyn]; exact hd
  · have hnone : aget n L = none := by simpa using hin
    have hnl : n ∉ L.map (·.1) := (aget_none_iff n).1 hnone
    have e1 : aput n v L clock = L ++ [(n, v, clock)] := by unfold aput; rw [if_neg hin]
    have e2 : aclk n L clock = clock + 1 := by unfold aclk; rw [if_neg hin]
    have e3 : fput n q F = F ++ [(n, q)] := by unfold fput; rw [if_neg (fun hm => hin (hkm.1 hm))]
    have hyn : ∀ y ∈ L, y.1 ≠ n := fun y hy e => hnl (by rw [← e]; exact List.mem_map_of_mem hy)
    have htwo : Two (RowP (setBlock w1 mb (.map ((aput n v L clock).map (ent strk)).toArray (aclk n L clock))) (fun k => X k ∨ v.ownBlock = some k) fb mb) (aput n v L clock) (fput n q F) := by
      rw [e3]
      conv => arg 2; rw [e1]
      exact Two.snoc (Two.mono h.two (fun x p hx hp hr => hold x hx p (hyn x hx) hr)) ⟨rfl, hq, ho2, fun b hb' => ⟨.inr hb', hbx b hb'⟩⟩
    obtain ⟨t1, t2⟩ := htwo.at
    refine ⟨fun k hk => ?_, .inl h.xf, .inl h.xm, h.ne, (h.blk.fr hf hfb).fr hfs h.ne, hm1.set _ _, ?_, ?_, ?_, t1, t2, pw_dis ?_⟩
    · have := hfs.size
      have := hf.size
      rcases hk with hk | hk
      · have := h.lt k hk; omega
      · have := (ho.lt k hk).2; omega
    · rw [e3, List.map_append]
      refine List.nodup_append.2 ⟨h.nd, by simp, fun a ha b hb e => ?_⟩
      simp at hb
      exact hnl (by rw [keys_eq h, ← hb, ← e]; exact ha)
    · rw [e1, List.map_append]
      refine List.nodup_append.2 ⟨h.bnd, by simp, fun a ha b hb e => ?_⟩
      simp at hb
      obtain ⟨y, hy, rfl⟩ := List.mem_map.1 ha
      have := h.bclk y hy
      omega
    · rw [e1, e2]
      intro x hx
      rcases List.mem_append.1 hx with hx | hx
      · have := h.bclk x hx; omega
      · rw [List.mem_singleton] at hx; subst hx; exact Nat.lt_succ_self _
    · rw [e1]
      refine List.pairwise_append.2 ⟨hpw, List.pairwise_singleton _ _, fun x hx y hy => ?_⟩
      rw [List.mem_singleton] at hy
      subst hy
      exact (hnew x hx (hyn x hx)).symm
theorem FSRep.del (h : FSRep w fb mb X room left F L clock) (n : Name) : FSRep (setBlock w mb (.map ((adel n L).map (ent strk)).toArray clock)) fb mb X room left (fdel n F) (adel n L) clock := by
  have hfs := fr_setBlock w mb (.map ((adel n L).map (ent strk)).toArray clock)
  have e1 := adel_filter n h.nl
  have htwo : Two (RowP (setBlock w mb (.map ((adel n L).map (ent strk)).toArray clock)) X fb mb) (adel n L) (fdel n F) := by
    unfold fdel
    conv => arg 2; rw [e1]
    refine Two.filter (Two.mono h.two (fun x p hx hp hr => ?_)) (fun x p hr => by rw [hr.1])
    obtain ⟨h1, h2, h3, h4⟩ := hr
    exact ⟨h1, h2, own_fr h3 hfs (fun k hk e => (h4 k hk).2.2 e), h4⟩
  obtain ⟨t1, t2⟩ := htwo.at
  refine ⟨fun k hk => Nat.lt_of_lt_of_le (h.lt k hk) hfs.size, h.xf, h.xm, h.ne, h.blk.fr hfs h.ne, h.map.set _ _, ?_, ?_, ?_, t1, t2, pw_dis ?_⟩
  · exact (h.nd.sublist (List.Sublist.map _ List.filter_sublist))
  · rw [e1]; exact (h.bnd.sublist (List.Sublist.map _ List.filter_sublist))
  · rw [e1]; intro x hx; exact h.bclk x (List.mem_filter.1 hx).1
  · rw [e1]; exact (dis_pw h.dis).sublist List.filter_sublist
end
end Go.Proofs.YtkhbemmcegmdaaaGreatDoor
end
section
set_option linter.all false
set_option linter.unusedVariables false
set_option maxRecDepth 100000
namespace Go.Proofs.YtkhbemmcegmdaaaGreatDoor
open Go.RowKit

section
variable {room : Int} {F : FileL}
/-- what holds of every file system of these -/
structure FInv (room : Int) (F : FileL) : Prop where
  tot : ((total F : Nat) : Int) ≤ room
  rm : room ≤ 4096
  nam : ∀ p ∈ F, nameB p.1 = true
  pg : ∀ p ∈ F, p.2 ≠ [] ∧ ∀ s ∈ p.2, s.length = 128
theorem nameB_len {n : Name} (h : nameB n = true) : n.length ≤ 8 := by
  unfold nameB at h
  simp only [Bool.and_eq_true, decide_eq_true_eq] at h
  exact h.1.2
theorem total_cons (p : Name × List (List UInt8)) (F : FileL) : total (p :: F) = p.2.length + total F := by simp [total]
theorem FInv.bnd (h : FInv room F) : FBnd F := by
  have h1 : total F ≤ 4096 := by have := h.tot; have := h.rm; omega
  have h2 : ∀ F : FileL, (∀ p ∈ F, p.2 ≠ []) → F.length ≤ total F ∧ ∀ p ∈ F, p.2.length ≤ total F := by
    intro F
    induction F with
    | nil => intro _; simp [total]
    | cons p F ih =>
      intro hp
      obtain ⟨i1, i2⟩ := ih (fun q hq => hp q (List.mem_cons_of_mem _ hq))
      have h0 : 0 < p.2.length := List.length_pos_iff.2 (hp p (by simp))
      rw [total_cons]
      refine ⟨by simp; omega, fun q hq => ?_⟩
      rcases List.mem_cons.1 hq with rfl | hq
      · omega
      · have := i2 q hq; omega
  obtain ⟨h3, h4⟩ := h2 F (fun p hp => (h.pg p hp).1)
  exact ⟨by omega, fun p hp => by have := nameB_len (h.nam p hp); omega, fun p hp => by have := h4 p hp; omega⟩
end
end Go.Proofs.YtkhbemmcegmdaaaGreatDoor
end
section
set_option linter.all false
set_option linter.unusedVariables false
set_option maxRecDepth 100000
namespace Go.Proofs.YtkhbemmcegmdaaaGreatDoor
open Go.RowKit
open Go.ChangeMaps (setBlock)

abbrev CKey := Name × Int
def ckey (k : CKey) : Value := .agg #[strk k.1, .int .i64 k.2]
theorem ckey_inj {a b : CKey} (h : ckey a = ckey b) : a = b := by
  unfold ckey at h
  injection h with h
  have h1 := congrArg (fun x : Array Value => x[0]?) h
  have h2 := congrArg (fun x : Array Value => x[1]?) h
  simp at h1 h2
  exact Prod.ext (strk_inj h1) h2
structure CF where
  key : CKey
  data : List UInt8
  pins : Nat
  used : Int
  blk : Nat
  born : Nat
def CF.ent (x : CF) : Ent CKey := (x.key, ptr x.blk, x.born)
def CF.cells (x : CF) : Array Value := #[strv x.data, .int .i64 (x.pins : Int), .int .i64 x.used]
def ccells (fb : Nat) (most : Int) (tb : Nat) (clk : Int) : Array Value := #[ptr fb, .int .i64 most, .map (some tb), .int .i64 clk]
structure CRep (w : World) (cb fb tb : Nat) (X XF : Nat → Prop) (room left : Int) (F : FileL) (most : Int) (ME : List (Ent CKey)) (Q : List CF) (clk : Int) (clock : Nat) : Prop where
  lt : ∀ k, X k → k < w.heap.size
  xc : X cb
  xt : X tb
  ne : cb ≠ tb
  dj : ∀ k, X k → ¬ XF k
  blk : Blk w cb 66 (ccells fb most tb clk)
  fs : FSAt w fb XF room left F
  map : MBlk w tb ckey ME clock
  pm : ME.Perm (Q.map CF.ent)
  nd : (Q.map (·.key)).Nodup
  bnd : (Q.map (·.born)).Nodup
  bclk : ∀ x ∈ Q, x.born < clock
  frm : ∀ x ∈ Q, Blk w x.blk 132 x.cells ∧ X x.blk ∧ x.blk ≠ cb ∧ x.blk ≠ tb
  bn : (Q.map (·.blk)).Nodup
theorem nodup_inj {α β : Type} {f : α → β} {L : List α} (h : (L.map f).Nodup) {x y : α} (hx : x ∈ L) (hy : y ∈ L) (he : f x = f y) : x = y := by
  induction L with
  | nil => cases hx
  | cons z L ih =>
    rw [List.map_cons, List.nodup_cons] at h
    rcases List.mem_cons.1 hx with h1 | h1
    · rcases List.mem_cons.1 hy with h2 | h2
      · rw [h1, h2]
      · exact absurd (by rw [← h1, he]; exact List.mem_map_of_mem h2) h.1
    · rcases List.mem_cons.1 hy with h2 | h2
      · exact absurd (by rw [← h2, ← he]; exact List.mem_map_of_mem h1) h.1
      · exact ih h.2 h1 h2
section
variable {α : Type} [DecidableEq α]
theorem aget_of_mem {x : Ent α} : ∀ {L : List (Ent α)}, (L.map (·.1)).Nodup → x ∈ L → aget x.1 L = some x.2.1
  | [], _, h => by cases h
  | y :: L, hn, h => by
    rw [List.map_cons, List.nodup_cons] at hn
    unfold aget
    rcases List.mem_cons.1 h with rfl | h
    · rw [if_pos rfl]
    · have : ¬ x.1 = y.1 := fun e => hn.1 (by rw [← e]; exact List.mem_map_of_mem h)
      rw [if_neg this]
      exact aget_of_mem hn.2 h
end
section
variable {w w' w1 : World} {cb fb tb clock : Nat} {X XF S : Nat → Prop} {room left most clk : Int} {F : FileL} {ME : List (Ent CKey)} {Q : List CF}
theorem CRep.kn (h : CRep w cb fb tb X XF room left F most ME Q clk clock) : (ME.map (·.1)).Nodup := by
  have := (h.pm.map (·.1)).nodup_iff
  rw [this, List.map_map]
  exact h.nd
theorem CRep.get_some (h : CRep w cb fb tb X XF room left F most ME Q clk clock) {x : CF} (hx : x ∈ Q) : aget x.key ME = some (ptr x.blk) := by
  have hm : x.ent ∈ ME := h.pm.symm.subset (List.mem_map_of_mem hx)
  exact aget_of_mem h.kn hm
theorem CRep.get_none (h : CRep w cb fb tb X XF room left F most ME Q clk clock) {k : CKey} (hk : ∀ x ∈ Q, x.key ≠ k) : aget k ME = none := by
  rw [aget_none_iff]
  intro hm
  have : k ∈ (Q.map CF.ent).map (·.1) := (h.pm.map (·.1)).subset hm
  rw [List.map_map] at this
  obtain ⟨x, hx, he⟩ := List.mem_map.1 this
  exact hk x hx he
theorem CRep.len (h : CRep w cb fb tb X XF room left F most ME Q clk clock) : ME.length = Q.length := by rw [h.pm.length_eq, List.length_map]
theorem CRep.keep (h : CRep w cb fb tb X XF room left F most ME Q clk clock) (hf : Fr S w w') (hs : ∀ k, X k ∨ XF k → ¬ S k) : CRep w' cb fb tb X XF room left F most ME Q clk clock :=
  { h with
    lt := fun k hk => Nat.lt_of_lt_of_le (h.lt k hk) hf.size
    blk := h.blk.fr hf (hs _ (.inl h.xc))
    fs := h.fs.fr hf (fun k hk => hs k (.inr hk))
    map := h.map.fr hf (hs _ (.inl h.xt))
    frm := fun x hx => by
      obtain ⟨h1, h2, h3⟩ := h.frm x hx
      exact ⟨h1.fr hf (hs _ (.inl h2)), h2, h3⟩ }
theorem CRep.fsop (h : CRep w cb fb tb X XF room left F most ME Q clk clock) (hf : Fr S w w') (hs : ∀ k, S k → XF k) {XF' : Nat → Prop} {left' : Int} {F' : FileL} (h2 : FSAt w' fb XF' room left' F') (hx : ∀ k, XF' k → XF k ∨ w.heap.size ≤ k) : CRep w' cb fb tb X XF' room left' F' most ME Q clk clock :=
  have hn : ∀ k, X k → ¬ S k := fun k hk h' => h.dj k hk (hs k h')
  { h with
    lt := fun k hk => Nat.lt_of_lt_of_le (h.lt k hk) hf.size
    dj := fun k hk hk2 => by
      rcases hx k hk2 with h3 | h3
      · exact h.dj k hk h3
      · have := h.lt k hk; omega
    blk := h.blk.fr hf (hn _ h.xc)
    fs := h2
    map := h.map.fr hf (hn _ h.xt)
    frm := fun x hx => by
      obtain ⟨h1, h2, h3⟩ := h.frm x hx
      exact ⟨h1.fr hf (hn _ h2), h2, h3⟩ }
theorem CRep.perm (h : CRep w cb fb tb X XF room left F most ME Q clk clock) {Q' : List CF} (hp : Q.Perm Q') : CRep w cb fb tb X XF room left F most ME Q' clk clock :=
  { h with
    pm := h.pm.trans (hp.map _)
    nd := (hp.map _).nodup_iff.1 h.nd
    bnd := (hp.map _).nodup_iff.1 h.bnd
    bclk := fun x hx => h.bclk x (hp.symm.subset hx)
    frm := fun x hx => h.frm x (hp.symm.subset hx)
    bn := (hp.map _).nodup_iff.1 h.bn }
theorem CRep.setClk (h : CRep w cb fb tb X XF room left F most ME Q clk clock) (z : Int) : CRep (w.setCell ⟨cb, 3, none⟩ (.int .i64 z)) cb fb tb X XF room left F most ME Q z clock := by
  have hf := Fr.one w cb 3 (.int .i64 z)
  exact { h with
    lt := fun k hk => Nat.lt_of_lt_of_le (h.lt k hk) hf.size
    blk := h.blk.set_ 3 _
    fs := h.fs.fr hf (fun k hk e => h.dj cb h.xc (by rw [← e]; exact hk))
    map := h.map.fr hf (Ne.symm h.ne)
    frm := fun x hx => by
      obtain ⟨h1, h2, h3⟩ := h.frm x hx
      exact ⟨h1.fr hf h3.1, h2, h3⟩ }
/-- a frame's cell turned -/
theorem CRep.turn (h : CRep w cb fb tb X XF room left F most ME Q clk clock) {x : CF} (hx : x ∈ Q) (x' : CF) (j : Nat) (v : Value) (h1 : x'.key = x.key) (h2 : x'.blk = x.blk) (h3 : x'.born = x.born) (hc : x.cells.setIfInBounds j v = x'.cells) :
    CRep (w.setCell ⟨x.blk, j, none⟩ v) cb fb tb X XF room left F most ME (Q.map fun y => if y.key = x.key then x' else y) clk clock := by
  have hf := Fr.one w x.blk j v
  obtain ⟨b1, b2, b3, b4⟩ := h.frm x hx
  have hsame : ∀ y ∈ Q, y.key = x.key → y = x := fun y hy e => nodup_inj h.nd hy hx e
  have hmap : ∀ (β : Type) (f : CF → β), f x' = f x → (Q.map fun y => if y.key = x.key then x' else y).map f = Q.map f := fun β f e => by
    rw [List.map_map]
    refine List.map_congr_left fun y hy => ?_
    simp only [Function.comp]
    split
    · next e2 => rw [e, hsame y hy e2]
    · rfl
  have hmem : ∀ y' ∈ (Q.map fun y => if y.key = x.key then x' else y), ∃ y ∈ Q, (y = x ∧ y' = x') ∨ (y ≠ x ∧ y' = y) := fun y' hy' => by
    obtain ⟨y, hy, rfl⟩ := List.mem_map.1 hy'
    refine ⟨y, hy, ?_⟩
    split
    · next e => exact .inl ⟨hsame y hy e, rfl⟩
    · next e => exact .inr ⟨fun e2 => e (by rw [e2]), rfl⟩
  exact { h with
    lt := fun k hk => Nat.lt_of_lt_of_le (h.lt k hk) hf.size
    blk := h.blk.fr hf (Ne.symm b3)
    fs := h.fs.fr hf (fun k hk e => h.dj _ b2 (by rw [← e]; exact hk))
    map := h.map.fr hf (Ne.symm b4)
    pm := by rw [hmap _ CF.ent (by unfold CF.ent; rw [h1, h2, h3])]; exact h.pm
    nd := by rw [hmap _ (·.key) h1]; exact h.nd
    bnd := by rw [hmap _ (·.born) h3]; exact h.bnd
    bclk := fun y' hy' => by
      obtain ⟨y, hy, ⟨rfl, rfl⟩ | ⟨_, rfl⟩⟩ := hmem y' hy'
      · rw [h3]; exact h.bclk y hy
      · exact h.bclk y' hy
    frm := fun y' hy' => by
      obtain ⟨y, hy, ⟨rfl, rfl⟩ | ⟨hne, rfl⟩⟩ := hmem y' hy'
      · rw [h2, ← hc]
        exact ⟨b1.set_ j v, b2, b3, b4⟩
      · obtain ⟨c1, c2, c3⟩ := h.frm y' hy
        exact ⟨c1.fr hf (fun e => hne (nodup_inj h.bn hy hx e)), c2, c3⟩
    bn := by rw [hmap _ (·.blk) h2]; exact h.bn }
/-- a page less -/
theorem CRep.del (h : CRep w cb fb tb X XF room left F most ME Q clk clock) (k : CKey) : CRep (setBlock w tb (.map ((adel k ME).map (ent ckey)).toArray clock)) cb fb tb X XF room left F most (adel k ME) (Q.filter fun x => x.key ≠ k) clk clock := by
  have hf := fr_setBlock w tb (.map ((adel k ME).map (ent ckey)).toArray clock)
  have e1 := adel_filter k h.kn
  exact { h with
    lt := fun k hk => Nat.lt_of_lt_of_le (h.lt k hk) hf.size
    blk := h.blk.fr hf h.ne
    fs := h.fs.fr hf (fun k hk e => h.dj tb h.xt (by rw [← e]; exact hk))
    map := h.map.set _ _
    pm := by
      rw [e1]
      have := h.pm.filter (fun x : Ent CKey => x.1 ≠ k)
      rw [List.filter_map] at this
      exact this
    nd := h.nd.sublist (List.Sublist.map _ List.filter_sublist)
    bnd := h.bnd.sublist (List.Sublist.map _ List.filter_sublist)
    bclk := fun x hx => h.bclk x (List.mem_filter.1 hx).1
    frm := fun x hx => by
      obtain ⟨h1, h2, h3⟩ := h.frm x (List.mem_filter.1 hx).1
      exact ⟨h1.fr hf h3.2, h2, h3⟩
    bn := h.bn.sublist (List.Sublist.map _ List.filter_sublist) }
/-- a page more -/
theorem CRep.add (h : CRep w cb fb tb X XF room left F most ME Q clk clock) (hf : Fr (fun _ => False) w w1) {g : Nat} (x : CF) (hg : x.blk = g) (hbo : x.born = clock) (hge : w.heap.size ≤ g) (hb : Blk w1 g 132 x.cells) (hk : ∀ y ∈ Q, y.key ≠ x.key) :
    CRep (setBlock w1 tb (.map ((aput x.key (ptr g) ME clock).map (ent ckey)).toArray (aclk x.key ME clock))) cb fb tb (fun k => X k ∨ k = g) XF room left F most (aput x.key (ptr g) ME clock) (Q ++ [x]) clk (aclk x.key ME clock) := by
  have hn := h.get_none hk
  have e1 : aput x.key (ptr g) ME clock = ME ++ [(x.key, ptr g, clock)] := by unfold aput; rw [hn]; rfl
  have e2 : aclk x.key ME clock = clock + 1 := by unfold aclk; rw [hn]; rfl
  have hfs := fr_setBlock w1 tb (.map ((aput x.key (ptr g) ME clock).map (ent ckey)).toArray (aclk x.key ME clock))
  have h1 := h.keep hf (fun _ _ h => h)
  have hgt := h.lt tb h.xt
  have hgc := h.lt cb h.xc
  have hxf := h.fs.lt
  exact { h with
    lt := fun k hk => by
      have := hfs.size
      rcases hk with hk | rfl
      · have := h1.lt k hk; omega
      · have := hb.lt; omega
    xc := .inl h.xc
    xt := .inl h.xt
    dj := fun k hk hk2 => by
      rcases hk with hk | rfl
      · exact h.dj k hk hk2
      · have := hxf _ hk2; omega
    blk := h1.blk.fr hfs h.ne
    fs := h1.fs.fr hfs (fun k hk e => h.dj tb h.xt (by rw [← e]; exact hk))
    map := h1.map.set _ _
    pm := by
      rw [e1, List.map_append]
      refine List.Perm.append h.pm ?_
      rw [List.map_cons, List.map_nil, show x.ent = (x.key, ptr g, clock) by unfold CF.ent; rw [hg, hbo]]
    nd := by
      rw [List.map_append]
      refine List.nodup_append.2 ⟨h.nd, by simp, fun a ha b hb e => ?_⟩
      simp at hb
      obtain ⟨y, hy, rfl⟩ := List.mem_map.1 ha
      exact hk y hy (e.trans hb)
    bnd := by
      rw [List.map_append]
      refine List.nodup_append.2 ⟨h.bnd, by simp, fun a ha b hb e => ?_⟩
      simp at hb
      obtain ⟨y, hy, rfl⟩ := List.mem_map.1 ha
      have := h.bclk y hy
      omega
    bclk := fun y hy => by
      rw [e2]
      rcases List.mem_append.1 hy with hy | hy
      · have := h.bclk y hy; omega
      · simp at hy; subst hy; omega
    frm := fun y hy => by
      rcases List.mem_append.1 hy with hy | hy
      · obtain ⟨c1, c2, c3⟩ := h1.frm y hy
        exact ⟨c1.fr hfs c3.2, .inl c2, c3⟩
      · simp at hy
        subst hy
        rw [hg]
        exact ⟨hb.fr hfs (by omega), .inr rfl, by omega, by omega⟩
    bn := by
      rw [List.map_append]
      refine List.nodup_append.2 ⟨h.bn, by simp, fun a ha b hb e => ?_⟩
      simp at hb
      obtain ⟨y, hy, rfl⟩ := List.mem_map.1 ha
      have := h.lt _ (h.frm y hy).2.1
      omega }
end
end Go.Proofs.YtkhbemmcegmdaaaGreatDoor
end
