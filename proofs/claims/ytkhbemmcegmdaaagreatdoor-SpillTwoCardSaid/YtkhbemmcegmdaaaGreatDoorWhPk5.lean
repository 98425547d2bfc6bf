/- Parts of the proof of several laws: no conditions of their own. -/
import Derived.Test.YtkhbemmcegmdaaaGreatDoorWhPk2
import Derived.Test.YtkhbemmcegmdaaaGreatDoorWhPk4
section
set_option linter.all false
set_option linter.unusedVariables false
namespace Go.Proofs.YtkhbemmcegmdaaaGreatDoor
theorem encB_len {d : List UInt8} (h : d.length ≤ 122) : (encB d).length = 128 := by
  unfold encB
  rw [List.length_append, bodyB_len h, sumB_len]
theorem many_enc {d : List UInt8} (h : d.length ≤ 122) : manyB (encB d) = d.length := by
  show 256 * (UInt8.ofNat (d.length / 256)).toNat + (UInt8.ofNat d.length).toNat = _
  simp
  omega
theorem dat_enc {d : List UInt8} (h : d.length ≤ 122) : datB (encB d) = d := by
  unfold datB
  rw [many_enc h]
  show ((d ++ List.replicate (122 - d.length) 0) ++ sumB (bodyB d)).take d.length = d
  rw [List.append_assoc, List.take_left]
theorem page_enc {d : List UInt8} (h : d.length ≤ 122) : pageB (encB d) = true := by
  rw [pageB_iff]
  exact ⟨encB_len h, by rw [many_enc h]; exact h, by rw [dat_enc h]⟩

end Go.Proofs.YtkhbemmcegmdaaaGreatDoor
end
section
set_option linter.all false
set_option linter.unusedVariables false
set_option maxRecDepth 100000
namespace Go.Proofs.YtkhbemmcegmdaaaGreatDoor
open Go.RowKit
open Go.ChangeMaps (setBlock)

structure CE where
  key : CKey
  data : List UInt8
  pins : Nat
/-- a cache, and its file system: reads ahead of one that fails; files; pages that are there, the one that was used last at the end; how often pages were used -/
structure CSt where
  left : Int
  F : FileL
  L : List CE
  clk : Nat
def CF.abs (x : CF) : CE := ⟨x.key, x.data, x.pins⟩
def lget (k : CKey) (L : List CE) : Option CE := L.find? (fun x => decide (x.key = k))
def lold (L : List CE) : Option CE := L.find? (fun x => decide (x.pins = 0))
def lfull (most : Nat) (L : List CE) : Bool := decide (most ≤ L.length) && (lold L).isNone
def lwo (k : CKey) (L : List CE) : List CE := L.filter fun x => decide (x.key ≠ k)
def lroom (most : Nat) (L : List CE) : List CE := if most ≤ L.length then (match lold L with | some o => lwo o.key L | none => L) else L
def luse (k : CKey) (f : CE → CE) (L : List CE) : List CE := lwo k L ++ (L.filter fun x => decide (x.key = k)).map f
def lmap (k : CKey) (f : CE → CE) (L : List CE) : List CE := L.map fun x => if x.key = k then f x else x
def frd (left : Int) (F : FileL) (n : Name) (i : Int) : Int × List UInt8 × Int :=
  if 0 ≤ i ∧ i < ((fpg n F).length : Int) then if left = 0 then (60, [], -1) else (0, (fpg n F).getD i.toNat [], rdLeft left) else (4, [], left)
def cfind (most : Nat) (k : CKey) (s : CSt) : Int × CSt :=
  if (lget k s.L).isSome then (0, { s with L := luse k id s.L, clk := s.clk + 1 })
  else if lfull most s.L then (70, s)
  else if (frd s.left s.F k.1 k.2).1 ≠ 0 then ((frd s.left s.F k.1 k.2).1, { s with left := (frd s.left s.F k.1 k.2).2.2 })
  else if pageB (frd s.left s.F k.1 k.2).2.1 then (0, { s with left := (frd s.left s.F k.1 k.2).2.2, L := lroom most s.L ++ [⟨k, datB (frd s.left s.F k.1 k.2).2.1, 0⟩], clk := s.clk + 1 })
  else (50, { s with left := (frd s.left s.F k.1 k.2).2.2 })
def ldata (k : CKey) (L : List CE) : List UInt8 := ((lget k L).map (·.data)).getD []
def cget (most : Nat) (k : CKey) (s : CSt) : List UInt8 × Int × CSt := if (cfind most k s).1 = 0 then (ldata k (cfind most k s).2.L, 0, (cfind most k s).2) else ([], (cfind most k s).1, (cfind most k s).2)
def cpin (most : Nat) (k : CKey) (s : CSt) : List UInt8 × Int × CSt :=
  if (cfind most k s).1 = 0 then (ldata k (cfind most k s).2.L, 0, { (cfind most k s).2 with L := lmap k (fun x => { x with pins := x.pins + 1 }) (cfind most k s).2.L }) else ([], (cfind most k s).1, (cfind most k s).2)
def cunpin (k : CKey) (s : CSt) : Int × CSt :=
  match lget k s.L with
  | some x => if x.pins = 0 then (4, s) else (0, { s with L := lmap k (fun x => { x with pins := x.pins - 1 }) s.L })
  | none => (4, s)
/-- a page laid, or one page more -/
def fsput (room : Int) (F : FileL) (n : Name) (i : Int) (p : List UInt8) : Int × FileL :=
  if nameB n = false ∨ i < 0 ∨ ((fpg n F).length : Int) < i ∨ p.length ≠ 128 then (2, F)
  else if i < ((fpg n F).length : Int) then (0, fput n ((fpg n F).set i.toNat p) F)
  else if ((total F : Nat) : Int) = room then (61, F)
  else (0, fput n (fpg n F ++ [p]) F)
def cput (room : Int) (most : Nat) (k : CKey) (d : List UInt8) (s : CSt) : Int × CSt :=
  if 122 < d.length then (3, s)
  else if !(lget k s.L).isSome && lfull most s.L then (70, s)
  else if (fsput room s.F k.1 k.2 (encB d)).1 ≠ 0 then ((fsput room s.F k.1 k.2 (encB d)).1, s)
  else (0, { s with F := (fsput room s.F k.1 k.2 (encB d)).2, L := if (lget k s.L).isSome then luse k (fun x => { x with data := d }) s.L else lroom most s.L ++ [⟨k, d, 0⟩], clk := s.clk + 1 })
def cdrop (n : Name) (s : CSt) : CSt := { s with L := s.L.filter fun x => decide (x.key.1 ≠ n) }

/-- frames in the order of their use -/
structure COrd (Q : List CF) (clk : Int) : Prop where
  pw : Q.Pairwise fun x y => x.used < y.used
  le : ∀ x ∈ Q, x.used ≤ clk
theorem COrd.wo {Q : List CF} {clk : Int} (h : COrd Q clk) (p : CF → Bool) : COrd (Q.filter p) clk := ⟨h.pw.sublist List.filter_sublist, fun x hx => h.le x (List.mem_filter.1 hx).1⟩
theorem COrd.snoc {Q : List CF} {clk : Int} (h : COrd Q clk) (x : CF) (hx : x.used = clk + 1) : COrd (Q ++ [x]) (clk + 1) :=
  ⟨List.pairwise_append.2 ⟨h.pw, List.pairwise_singleton _ _, fun y hy z hz => by simp at hz; subst hz; have := h.le y hy; omega⟩, fun y hy => by
    rcases List.mem_append.1 hy with hy | hy
    · have := h.le y hy; omega
    · simp at hy; subst hy; omega⟩
theorem COrd.keepUsed {Q Q' : List CF} {clk : Int} (h : COrd Q clk) (he : Q'.map (·.used) = Q.map (·.used)) : COrd Q' clk := by
  have h1 : (Q.map (·.used)).Pairwise (· < ·) := List.pairwise_map.2 h.pw
  rw [← he] at h1
  refine ⟨List.pairwise_map.1 h1, fun x hx => ?_⟩
  have h2 : x.used ∈ Q.map (·.used) := by rw [← he]; exact List.mem_map_of_mem hx
  obtain ⟨y, hy, e⟩ := List.mem_map.1 h2
  have := h.le y hy
  omega
/-- of those without pins the first one was used least -/
theorem COrd.old {r : CF} : ∀ {Q : List CF} {clk : Int}, COrd Q clk → r ∈ Q → r.pins = 0 → (∀ y ∈ Q, y.pins = 0 → r.used ≤ y.used) → Q.find? (fun x => decide (x.pins = 0)) = some r
  | [], _, _, h, _, _ => by cases h
  | x :: Q, clk, ho, h, hp, hm => by
    by_cases h0 : x.pins = 0
    · rw [List.find?_cons_of_pos (by simpa using h0)]
      rcases List.mem_cons.1 h with rfl | h
      · rfl
      · have h1 := (List.pairwise_cons.1 ho.pw).1 r h
        have h2 := hm x (by simp) h0
        omega
    · rw [List.find?_cons_of_neg (by simpa using h0)]
      rcases List.mem_cons.1 h with rfl | h
      · exact absurd hp h0
      · exact COrd.old (clk := clk) ⟨(List.pairwise_cons.1 ho.pw).2, fun y hy => ho.le y (List.mem_cons_of_mem _ hy)⟩ h hp (fun y hy => hm y (List.mem_cons_of_mem _ hy))
theorem turn_perm {x x' : CF} : ∀ {Q : List CF}, (Q.map (·.key)).Nodup → x ∈ Q → (Q.map fun y => if y.key = x.key then x' else y).Perm ((Q.filter fun y => decide (y.key ≠ x.key)) ++ [x'])
  | [], _, h => by cases h
  | y :: Q, hn, h => by
    rw [List.map_cons, List.nodup_cons] at hn
    by_cases he : y.key = x.key
    · have hno : ∀ z ∈ Q, ¬ z.key = x.key := fun z hz e => hn.1 (by rw [he, ← e]; exact List.mem_map_of_mem hz)
      rw [List.map_cons, if_pos he, List.filter_cons_of_neg (by simpa using he)]
      have e1 : (Q.map fun y => if y.key = x.key then x' else y) = Q := by
        conv => rhs; rw [← List.map_id Q]
        exact List.map_congr_left fun z hz => by rw [if_neg (hno z hz)]; rfl
      have e2 : (Q.filter fun y => decide (y.key ≠ x.key)) = Q := List.filter_eq_self.2 fun z hz => by simpa using hno z hz
      rw [e1, e2]
      exact (List.perm_append_singleton x' Q).symm
    · rw [List.map_cons, if_neg he, List.filter_cons_of_pos (by simpa using he), List.cons_append]
      have hx : x ∈ Q := by
        rcases List.mem_cons.1 h with rfl | h
        · exact absurd rfl he
        · exact h
      exact (turn_perm hn.2 hx).cons y
theorem abs_find (Q : List CF) (k : CKey) : lget k (Q.map CF.abs) = (Q.find? fun x => decide (x.key = k)).map CF.abs := by
  unfold lget
  rw [List.find?_map]
  rfl
theorem abs_old (Q : List CF) : lold (Q.map CF.abs) = (Q.find? fun x => decide (x.pins = 0)).map CF.abs := by
  unfold lold
  rw [List.find?_map]
  rfl
theorem abs_wo (Q : List CF) (k : CKey) : lwo k (Q.map CF.abs) = (Q.filter fun x => decide (x.key ≠ k)).map CF.abs := by
  unfold lwo
  rw [List.filter_map]
  rfl
theorem filter_one {x : CF} : ∀ {Q : List CF}, (Q.map (·.key)).Nodup → x ∈ Q → (Q.filter fun y => decide (y.key = x.key)) = [x]
  | [], _, h => by cases h
  | y :: Q, hn, h => by
    rw [List.map_cons, List.nodup_cons] at hn
    by_cases he : y.key = x.key
    · have hno : ∀ z ∈ Q, ¬ z.key = x.key := fun z hz e => hn.1 (by rw [he, ← e]; exact List.mem_map_of_mem hz)
      rw [List.filter_cons_of_pos (by simpa using he), List.filter_eq_nil_iff.2 (fun z hz => by simpa using hno z hz)]
      rcases List.mem_cons.1 h with rfl | h
      · rfl
      · exact absurd rfl (hno x h)
    · rw [List.filter_cons_of_neg (by simpa using he)]
      rcases List.mem_cons.1 h with rfl | h
      · exact absurd rfl he
      · exact filter_one hn.2 h
theorem abs_use {Q : List CF} {x x' : CF} (hn : (Q.map (·.key)).Nodup) (hx : x ∈ Q) (f : CE → CE) (hf : x'.abs = f x.abs) : ((Q.filter fun y => decide (y.key ≠ x.key)) ++ [x']).map CF.abs = luse x.key f (Q.map CF.abs) := by
  unfold luse
  rw [List.map_append, abs_wo, List.filter_map]
  have : (Q.filter ((fun y : CE => decide (y.key = x.key)) ∘ CF.abs)) = [x] := filter_one hn hx
  rw [this, List.map_cons, List.map_nil, List.map_cons, List.map_nil, hf, List.map_cons, List.map_nil]
theorem abs_map {Q : List CF} {x x' : CF} (hn : (Q.map (·.key)).Nodup) (hx : x ∈ Q) (f : CE → CE) (hf : x'.abs = f x.abs) : (Q.map fun y => if y.key = x.key then x' else y).map CF.abs = lmap x.key f (Q.map CF.abs) := by
  unfold lmap
  rw [List.map_map, List.map_map]
  refine List.map_congr_left fun y hy => ?_
  simp only [Function.comp]
  by_cases he : y.key = x.key
  · obtain rfl : y = x := nodup_inj hn hy hx he
    rw [if_pos rfl, hf, if_pos (show y.abs.key = y.key from rfl)]
  · rw [if_neg he, if_neg (show ¬ y.abs.key = x.key from he)]
theorem find_key {Q : List CF} {x : CF} (hn : (Q.map (·.key)).Nodup) (hx : x ∈ Q) : (Q.find? fun y => decide (y.key = x.key)) = some x := by
  cases h : Q.find? fun y => decide (y.key = x.key) with
  | none =>
    have := List.find?_eq_none.1 h x hx
    simp at this
  | some y =>
    have h1 := List.find?_some h
    rw [nodup_inj hn (List.mem_of_find?_eq_some h) hx (by simpa using h1)]
theorem key_cases (Q : List CF) (k : CKey) : (∃ x ∈ Q, x.key = k) ∨ (∀ x ∈ Q, x.key ≠ k) := by
  by_cases h : ∃ x ∈ Q, x.key = k
  · exact .inl h
  · exact .inr fun x hx e => h ⟨x, hx, e⟩
/-- a cache in block cb, over a file system in block fb; X: the blocks that both take -/
def CAt (w : World) (cb fb : Nat) (X : Nat → Prop) (room : Int) (most : Nat) (s : CSt) : Prop :=
  ∃ tb X1 XF ME Q clock, CRep w cb fb tb X1 XF room s.left s.F (most : Int) ME Q (s.clk : Int) clock ∧ COrd Q (s.clk : Int) ∧ Q.map CF.abs = s.L ∧ (∀ k, X1 k → X k) ∧ (∀ k, XF k → X k) ∧ ∀ k, X k → X1 k ∨ XF k
section
variable {w w' : World} {cb fb most : Nat} {X S : Nat → Prop} {room : Int} {s : CSt}
theorem CAt.keep (h : CAt w cb fb X room most s) (hf : Fr S w w') (hs : ∀ k, X k → ¬ S k) : CAt w' cb fb X room most s := by
  obtain ⟨tb, X1, XF, ME, Q, clock, h, ho, ha, h1, h2, h3⟩ := h
  exact ⟨tb, X1, XF, ME, Q, clock, h.keep hf (fun k hk => hk.elim (fun hk => hs k (h1 k hk)) (fun hk => hs k (h2 k hk))), ho, ha, h1, h2, h3⟩
theorem CAt.up (h : CAt w cb fb X room most s) (hf : Fr (fun _ => False) w w') : CAt w' cb fb X room most s := h.keep hf (fun _ _ h => h)
theorem CAt.lt (h : CAt w cb fb X room most s) : ∀ k, X k → k < w.heap.size := by
  obtain ⟨tb, X1, XF, ME, Q, clock, h, ho, ha, h1, h2, h3⟩ := h
  intro k hk
  rcases h3 k hk with hk | hk
  · exact h.lt k hk
  · exact h.fs.lt k hk
/-- its file system alone -/
theorem CAt.fs (h : CAt w cb fb X room most s) : ∃ XF, FSAt w fb XF room s.left s.F ∧ (∀ k, XF k → X k) ∧ ∀ (w' : World) (S XF' : Nat → Prop) (left' : Int) (F' : FileL), Fr S w w' → (∀ k, S k → XF k) → FSAt w' fb XF' room left' F' → (∀ k, XF' k → XF k ∨ w.heap.size ≤ k) →
    ∃ X', CAt w' cb fb X' room most { s with left := left', F := F' } ∧ ∀ k, X' k → X k ∨ w.heap.size ≤ k := by
  obtain ⟨tb, X1, XF, ME, Q, clock, h, ho, ha, h1, h2, h3⟩ := h
  refine ⟨XF, h.fs, h2, fun w' S XF' left' F' hf hs hat hx => ⟨fun k => X1 k ∨ XF' k, ⟨tb, X1, XF', ME, Q, clock, h.fsop hf hs hat hx, ho, ha, fun k hk => .inl hk, fun k hk => .inr hk, fun k hk => hk⟩, fun k hk => ?_⟩⟩
  rcases hk with hk | hk
  · exact .inl (h1 k hk)
  · rcases hx k hk with hk | hk
    · exact .inl (h2 k hk)
    · exact .inr hk
end
end Go.Proofs.YtkhbemmcegmdaaaGreatDoor
end
section
set_option linter.all false
set_option linter.unusedVariables false
set_option maxRecDepth 100000
namespace Go.Proofs.YtkhbemmcegmdaaaGreatDoor
theorem fpg_none {n : Name} : ∀ {F : FileL}, n ∉ F.map (·.1) → fpg n F = []
  | [], _ => rfl
  | p :: F, h => by
    simp only [List.map_cons, List.mem_cons, not_or] at h
    unfold fpg
    rw [if_neg h.1, fpg_none h.2]
theorem fpg_mem {n : Name} : ∀ {F : FileL}, fpg n F ≠ [] → ∃ p ∈ F, p.1 = n ∧ p.2 = fpg n F
  | [], h => absurd rfl h
  | p :: F, h => by
    unfold fpg at h ⊢
    by_cases e : n = p.1
    · rw [if_pos e]; exact ⟨p, by simp, e.symm, rfl⟩
    · rw [if_neg e] at h ⊢
      obtain ⟨q, h1, h2, h3⟩ := fpg_mem h
      exact ⟨q, List.mem_cons_of_mem _ h1, h2, h3⟩
theorem fpg_append {n m : Name} {q : List (List UInt8)} : ∀ {F : FileL}, m ∉ F.map (·.1) → fpg n (F ++ [(m, q)]) = if n = m then q else fpg n F
  | [], _ => by simp [fpg]
  | p :: F, h => by
    simp only [List.map_cons, List.mem_cons, not_or] at h
    rw [List.cons_append]
    unfold fpg
    by_cases e : n = p.1
    · rw [if_pos e, if_neg (by rw [e]; exact Ne.symm h.1), if_pos e]
    · rw [if_neg e, if_neg e]; exact fpg_append h.2
theorem fpg_set {n m : Name} {q : List (List UInt8)} : ∀ {F : FileL}, m ∈ F.map (·.1) → fpg n (F.map fun p => if p.1 = m then (p.1, q) else p) = if n = m then q else fpg n F
  | [], h => by simp at h
  | p :: F, h => by
    rw [List.map_cons]
    by_cases e : p.1 = m
    · rw [if_pos e]
      unfold fpg
      by_cases e2 : n = p.1
      · rw [if_pos e2, if_pos (e2.trans e)]
      · rw [if_neg e2, if_neg (fun h => e2 (h.trans e.symm)), if_neg e2]
        by_cases h2 : m ∈ F.map (·.1)
        · rw [fpg_set h2, if_neg (fun h => e2 (h.trans e.symm))]
        · congr 1
          conv => rhs; rw [← List.map_id F]
          refine List.map_congr_left fun z hz => ?_
          rw [if_neg (fun e3 => h2 (by rw [← e3]; exact List.mem_map_of_mem hz))]; rfl
    · rw [if_neg e]
      have h2 : m ∈ F.map (·.1) := by
        simp only [List.map_cons, List.mem_cons] at h
        exact h.resolve_left (Ne.symm e)
      unfold fpg
      by_cases e2 : n = p.1
      · rw [if_pos e2, if_neg (fun h => e (e2.symm.trans h)), if_pos e2]
      · rw [if_neg e2, if_neg e2, fpg_set h2]
theorem fpg_put (n m : Name) (q : List (List UInt8)) (F : FileL) : fpg n (fput m q F) = if n = m then q else fpg n F := by
  unfold fput
  split
  · next h => exact fpg_set h
  · next h => exact fpg_append h
theorem fput_keys {m : Name} {q : List (List UInt8)} {F : FileL} (h : (F.map (·.1)).Nodup) : ((fput m q F).map (·.1)).Nodup := by
  unfold fput
  split
  · rw [List.map_map]
    have : ((fun p : Name × List (List UInt8) => p.1) ∘ fun p => if p.1 = m then (p.1, q) else p) = fun p => p.1 := by
      funext p
      simp only [Function.comp]
      split <;> rfl
    rw [this]
    exact h
  · next hn =>
    rw [List.map_append]
    refine List.nodup_append.2 ⟨h, by simp, fun a ha b hb e => ?_⟩
    simp at hb
    exact hn (by rw [← hb, ← e]; exact ha)
theorem total_set {m : Name} {q : List (List UInt8)} : ∀ {F : FileL}, (F.map (·.1)).Nodup → m ∈ F.map (·.1) → total (F.map fun p => if p.1 = m then (p.1, q) else p) + (fpg m F).length = total F + q.length
  | [], _, h => by simp at h
  | p :: F, hn, h => by
    rw [List.map_cons, List.nodup_cons] at hn
    rw [List.map_cons, total_cons, total_cons]
    by_cases e : p.1 = m
    · have h2 : m ∉ F.map (·.1) := by rw [← e]; exact hn.1
      have e1 : (F.map fun p => if p.1 = m then (p.1, q) else p) = F := by
        conv => rhs; rw [← List.map_id F]
        refine List.map_congr_left fun z hz => ?_
        rw [if_neg (fun e3 => h2 (by rw [← e3]; exact List.mem_map_of_mem hz))]; rfl
      rw [if_pos e, e1]
      unfold fpg
      rw [if_pos e.symm]
      simp only
      omega
    · have h2 : m ∈ F.map (·.1) := by
        simp only [List.map_cons, List.mem_cons] at h
        exact h.resolve_left (Ne.symm e)
      have := total_set (q := q) hn.2 h2
      rw [if_neg e]
      unfold fpg
      rw [if_neg (Ne.symm e)]
      omega
theorem total_put {m : Name} {q : List (List UInt8)} {F : FileL} (h : (F.map (·.1)).Nodup) : total (fput m q F) + (fpg m F).length = total F + q.length := by
  unfold fput
  split
  · next hm => exact total_set h hm
  · next hm => rw [fpg_none hm]; simp [total]
theorem fput_mem {m : Name} {q : List (List UInt8)} {F : FileL} {p : Name × List (List UInt8)} (hp : p ∈ fput m q F) : p = (m, q) ∨ p ∈ F := by
  unfold fput at hp
  split at hp
  · obtain ⟨y, hy, rfl⟩ := List.mem_map.1 hp
    split
    · next e => left; rw [e]
    · exact .inr hy
  · rcases List.mem_append.1 hp with hp | hp
    · exact .inr hp
    · simp at hp; exact .inl hp
theorem FInv.put {room : Int} {F : FileL} (h : FInv room F) (hn : (F.map (·.1)).Nodup) {m : Name} {q : List (List UInt8)} (hm : nameB m = true) (hq : q ≠ []) (hl : ∀ s ∈ q, s.length = 128) (ht : ((total F + q.length : Nat) : Int) ≤ room + (fpg m F).length) : FInv room (fput m q F) := by
  have := total_put (m := m) (q := q) hn
  refine ⟨by omega, h.rm, fun p hp => ?_, fun p hp => ?_⟩
  · rcases fput_mem hp with rfl | hp
    · exact hm
    · exact h.nam p hp
  · rcases fput_mem hp with rfl | hp
    · exact ⟨hq, hl⟩
    · exact h.pg p hp
theorem fpg_del (n m : Name) : ∀ F : FileL, fpg n (fdel m F) = if n = m then [] else fpg n F
  | [] => by simp [fdel, fpg]
  | p :: F => by
    have ih := fpg_del n m F
    unfold fdel at ih ⊢
    by_cases e : p.1 = m
    · rw [List.filter_cons_of_neg (by simpa using e), ih]
      by_cases e2 : n = m
      · rw [if_pos e2, if_pos e2]
      · rw [if_neg e2, if_neg e2]
        conv => rhs; unfold fpg
        rw [if_neg (fun h => e2 (h.trans e))]
    · rw [List.filter_cons_of_pos (by simpa using e)]
      unfold fpg
      by_cases e2 : n = p.1
      · rw [if_pos e2, if_neg (fun h => e (e2.symm.trans h)), if_pos e2]
      · rw [if_neg e2, ih, if_neg e2]
theorem total_del {m : Name} : ∀ {F : FileL}, (F.map (·.1)).Nodup → total (fdel m F) + (fpg m F).length = total F
  | [], _ => by simp [fdel, fpg, total]
  | p :: F, hn => by
    rw [List.map_cons, List.nodup_cons] at hn
    have ih := total_del (m := m) hn.2
    unfold fdel at ih ⊢
    by_cases e : p.1 = m
    · rw [List.filter_cons_of_neg (by simpa using e), total_cons]
      have h0 : fpg m F = [] := fpg_none (by rw [← e]; exact hn.1)
      rw [h0] at ih
      unfold fpg
      rw [if_pos e.symm]
      simp at ih
      simp
      omega
    · rw [List.filter_cons_of_pos (by simpa using e), total_cons, total_cons]
      unfold fpg
      rw [if_neg (Ne.symm e)]
      omega
theorem fdel_keys {m : Name} {F : FileL} (h : (F.map (·.1)).Nodup) : ((fdel m F).map (·.1)).Nodup := h.sublist (List.Sublist.map _ List.filter_sublist)
theorem FInv.del {room : Int} {F : FileL} (h : FInv room F) (hn : (F.map (·.1)).Nodup) (m : Name) : FInv room (fdel m F) := by
  have := total_del (m := m) hn
  have := h.tot
  exact ⟨by omega, h.rm, fun p hp => h.nam p (List.mem_filter.1 hp).1, fun p hp => h.pg p (List.mem_filter.1 hp).1⟩
theorem total_pg {F : FileL} (n : Name) : (fpg n F).length ≤ total F := by
  induction F with
  | nil => simp [fpg]
  | cons p F ih =>
    rw [total_cons]
    unfold fpg
    split <;> omega
theorem FInv.pages {room : Int} {F : FileL} (h : FInv room F) (n : Name) : ∀ s ∈ fpg n F, s.length = 128 := by
  intro s hs
  obtain ⟨p, hp, _, h2⟩ := fpg_mem (F := F) (n := n) (fun e => by rw [e] at hs; cases hs)
  exact (h.pg p hp).2 s (by rw [h2]; exact hs)
theorem fsput_inv {room : Int} {F : FileL} (h : FInv room F) (hn : (F.map (·.1)).Nodup) (n : Name) (i : Int) (p : List UInt8) : FInv room (fsput room F n i p).2 ∧ (((fsput room F n i p).2.map (·.1)).Nodup) := by
  unfold fsput
  split
  · exact ⟨h, hn⟩
  · next hb =>
    simp only [not_or, Bool.not_eq_false, Int.not_lt] at hb
    obtain ⟨h1, h2, h3, h4⟩ := hb
    have h4 : p.length = 128 := by simpa using h4
    split
    · next hi =>
      refine ⟨h.put hn h1 (fun e => ?_) (fun s hs => ?_) ?_, fput_keys hn⟩
      · have := congrArg List.length e; simp at this; rw [this] at hi; simp at hi; omega
      · rcases List.mem_or_eq_of_mem_set hs with hs | rfl
        · exact h.pages n s hs
        · exact h4
      · have := h.tot; rw [List.length_set]; omega
    · split
      · exact ⟨h, hn⟩
      · next ht =>
        refine ⟨h.put hn h1 (by simp) (fun s hs => ?_) ?_, fput_keys hn⟩
        · rcases List.mem_append.1 hs with hs | hs
          · exact h.pages n s hs
          · simp at hs; rw [hs]; exact h4
        · have := h.tot; rw [List.length_append]; simp; omega
/-- what holds of every cache of these -/
structure CInv (room : Int) (most : Nat) (s : CSt) : Prop where
  fs : FInv room s.F
  fnd : (s.F.map (·.1)).Nodup
  nd : (s.L.map (·.key)).Nodup
  len : s.L.length ≤ most
  lo : -1 ≤ s.left
  hi : s.left ≤ 9223372036854775807
  pin : ∀ x ∈ s.L, x.pins ≤ s.clk
  idx : ∀ x ∈ s.L, 0 ≤ x.key.2 ∧ x.key.2 < room
  dat : ∀ x ∈ s.L, x.data.length ≤ 122
theorem wo_mem {k : CKey} {L : List CE} {x : CE} : x ∈ lwo k L ↔ x ∈ L ∧ x.key ≠ k := by unfold lwo; simp
theorem wo_keys {k : CKey} {L : List CE} (h : (L.map (·.key)).Nodup) : ((lwo k L).map (·.key)).Nodup := h.sublist (List.Sublist.map _ List.filter_sublist)
theorem wo_len {x : CE} : ∀ {L : List CE}, (L.map (·.key)).Nodup → x ∈ L → (lwo x.key L).length + 1 = L.length
  | [], _, h => by cases h
  | y :: L, hn, h => by
    rw [List.map_cons, List.nodup_cons] at hn
    unfold lwo
    by_cases he : y.key = x.key
    · have hno : ∀ z ∈ L, ¬ z.key = x.key := fun z hz e => hn.1 (by rw [he, ← e]; exact List.mem_map_of_mem hz)
      rw [List.filter_cons_of_neg (by simpa using he), List.filter_eq_self.2 (fun z hz => by simpa using hno z hz)]
      rfl
    · rw [List.filter_cons_of_pos (by simpa using he)]
      rcases List.mem_cons.1 h with rfl | h
      · exact absurd rfl he
      · have := wo_len hn.2 h
        unfold lwo at this
        simp only [List.length_cons]
        omega
theorem get_some_iff {k : CKey} {L : List CE} {x : CE} (hn : (L.map (·.key)).Nodup) : lget k L = some x ↔ x ∈ L ∧ x.key = k := by
  unfold lget
  constructor
  · intro h
    exact ⟨List.mem_of_find?_eq_some h, by simpa using List.find?_some h⟩
  · rintro ⟨h1, rfl⟩
    induction L with
    | nil => cases h1
    | cons y L ih =>
      rw [List.map_cons, List.nodup_cons] at hn
      by_cases e : y.key = x.key
      · rw [List.find?_cons_of_pos (by simpa using e)]
        rcases List.mem_cons.1 h1 with rfl | h1
        · rfl
        · exact absurd (by rw [e]; exact List.mem_map_of_mem h1) hn.1
      · rw [List.find?_cons_of_neg (by simpa using e)]
        rcases List.mem_cons.1 h1 with rfl | h1
        · exact absurd rfl e
        · exact ih hn.2 h1
theorem get_none_iff {k : CKey} {L : List CE} : lget k L = none ↔ ∀ x ∈ L, x.key ≠ k := by
  unfold lget
  rw [List.find?_eq_none]
  simp
theorem old_some {L : List CE} {x : CE} (h : lold L = some x) : x ∈ L ∧ x.pins = 0 := ⟨List.mem_of_find?_eq_some h, by simpa using List.find?_some h⟩
theorem old_none {L : List CE} : lold L = none ↔ ∀ x ∈ L, x.pins ≠ 0 := by
  unfold lold
  rw [List.find?_eq_none]
  simp
theorem room_sub (most : Nat) (L : List CE) : (lroom most L).Sublist L := by
  unfold lroom
  split
  · split
    · exact List.filter_sublist
    · exact List.Sublist.refl _
  · exact List.Sublist.refl _
theorem room_pinned {most : Nat} {L : List CE} {x : CE} (hx : x ∈ L) (hp : x.pins ≠ 0) (hn : (L.map (·.key)).Nodup) : x ∈ lroom most L := by
  unfold lroom
  split
  · split
    · next o ho =>
      obtain ⟨h1, h2⟩ := old_some ho
      refine wo_mem.2 ⟨hx, fun e => ?_⟩
      have h3 := (get_some_iff hn).2 ⟨hx, rfl⟩
      have h4 := (get_some_iff hn).2 ⟨h1, e.symm⟩
      rw [h3] at h4
      injection h4 with h4
      rw [h4] at hp
      exact hp h2
    · exact hx
  · exact hx
theorem room_len {most : Nat} {L : List CE} (hn : (L.map (·.key)).Nodup) (hl : L.length ≤ most) (hf : lfull most L = false) : (lroom most L).length < most ∨ most = 0 := by
  unfold lroom
  unfold lfull at hf
  split
  · next h =>
    cases ho : lold L with
    | none => rw [ho] at hf; simp at hf; omega
    | some o =>
      have := wo_len hn (old_some ho).1
      simp only
      omega
  · omega
theorem use_len {x : CE} {L : List CE} (hn : (L.map (·.key)).Nodup) (hx : x ∈ L) (f : CE → CE) : luse x.key f L = lwo x.key L ++ [f x] := by
  unfold luse
  congr 1
  have : (L.filter fun y => decide (y.key = x.key)) = [x] := by
    induction L with
    | nil => cases hx
    | cons y L ih =>
      rw [List.map_cons, List.nodup_cons] at hn
      by_cases he : y.key = x.key
      · have hno : ∀ z ∈ L, ¬ z.key = x.key := fun z hz e => hn.1 (by rw [he, ← e]; exact List.mem_map_of_mem hz)
        rw [List.filter_cons_of_pos (by simpa using he), List.filter_eq_nil_iff.2 (fun z hz => by simpa using hno z hz)]
        rcases List.mem_cons.1 hx with rfl | h
        · rfl
        · exact absurd rfl (hno x h)
      · rw [List.filter_cons_of_neg (by simpa using he)]
        rcases List.mem_cons.1 hx with rfl | h
        · exact absurd rfl he
        · exact ih hn.2 h
  rw [this]
  rfl
theorem frd_cases (left : Int) (F : FileL) (n : Name) (i : Int) :
    (frd left F n i = (4, [], left) ∧ ¬ (0 ≤ i ∧ i < ((fpg n F).length : Int))) ∨ (frd left F n i = (60, [], -1) ∧ left = 0 ∧ 0 ≤ i ∧ i < ((fpg n F).length : Int)) ∨ (frd left F n i = (0, (fpg n F).getD i.toNat [], rdLeft left) ∧ left ≠ 0 ∧ 0 ≤ i ∧ i < ((fpg n F).length : Int)) := by
  unfold frd
  by_cases h : 0 ≤ i ∧ i < ((fpg n F).length : Int)
  · rw [if_pos h]
    by_cases h0 : left = 0
    · rw [if_pos h0]; exact .inr (.inl ⟨rfl, h0, h⟩)
    · rw [if_neg h0]; exact .inr (.inr ⟨rfl, h0, h⟩)
  · rw [if_neg h]; exact .inl ⟨rfl, h⟩
theorem rd_lo {left : Int} (h : -1 ≤ left) (hz : left ≠ 0) : -1 ≤ rdLeft left ∧ rdLeft left ≤ left := by unfold rdLeft; split <;> omega
/-- the ways of a find -/
inductive CFind (most : Nat) (k : CKey) (s : CSt) : Int → CSt → Prop
  | there (x : CE) (hx : x ∈ s.L) (hk : x.key = k) : CFind most k s 0 { s with L := lwo k s.L ++ [x], clk := s.clk + 1 }
  | full (hn : ∀ x ∈ s.L, x.key ≠ k) (hf : lfull most s.L = true) : CFind most k s 70 s
  | none (hn : ∀ x ∈ s.L, x.key ≠ k) (hf : lfull most s.L = false) (hi : ¬ (0 ≤ k.2 ∧ k.2 < ((fpg k.1 s.F).length : Int))) : CFind most k s 4 s
  | fail (hn : ∀ x ∈ s.L, x.key ≠ k) (hf : lfull most s.L = false) (hi : 0 ≤ k.2 ∧ k.2 < ((fpg k.1 s.F).length : Int)) (hl : s.left = 0) : CFind most k s 60 { s with left := -1 }
  | bad (hn : ∀ x ∈ s.L, x.key ≠ k) (hf : lfull most s.L = false) (hi : 0 ≤ k.2 ∧ k.2 < ((fpg k.1 s.F).length : Int)) (hl : s.left ≠ 0) (hp : pageB ((fpg k.1 s.F).getD k.2.toNat []) = false) : CFind most k s 50 { s with left := rdLeft s.left }
  | come (hn : ∀ x ∈ s.L, x.key ≠ k) (hf : lfull most s.L = false) (hi : 0 ≤ k.2 ∧ k.2 < ((fpg k.1 s.F).length : Int)) (hl : s.left ≠ 0) (hp : pageB ((fpg k.1 s.F).getD k.2.toNat []) = true) :
      CFind most k s 0 { s with left := rdLeft s.left, L := lroom most s.L ++ [⟨k, datB ((fpg k.1 s.F).getD k.2.toNat []), 0⟩], clk := s.clk + 1 }
theorem cfind_ways (most : Nat) (k : CKey) (s : CSt) (hn : (s.L.map (·.key)).Nodup) : CFind most k s (cfind most k s).1 (cfind most k s).2 := by
  unfold cfind
  cases hg : lget k s.L with
  | some x =>
    obtain ⟨h1, h2⟩ := (get_some_iff hn).1 hg
    subst h2
    rw [if_pos (show (some x).isSome = true from rfl), use_len hn h1]
    exact .there x h1 rfl
  | none =>
    have hno := get_none_iff.1 hg
    rw [if_neg (by simp)]
    cases hf : lfull most s.L with
    | true => rw [if_pos (show true = true from rfl)]; exact .full hno hf
    | false =>
      rw [if_neg (by simp)]
      rcases frd_cases s.left s.F k.1 k.2 with ⟨e, hi⟩ | ⟨e, hl, hi⟩ | ⟨e, hl, hi⟩
      · rw [e, if_pos (show (4 : Int) ≠ 0 by decide)]; exact .none hno hf hi
      · rw [e, if_pos (show (60 : Int) ≠ 0 by decide)]; exact .fail hno hf hi hl
      · rw [e, if_neg (show ¬ (0 : Int) ≠ 0 by decide)]
        simp only
        cases hp : pageB ((fpg k.1 s.F).getD k.2.toNat []) with
        | true => rw [if_pos (show true = true from rfl)]; exact .come hno hf hi hl hp
        | false => rw [if_neg (by simp)]; exact .bad hno hf hi hl hp
theorem nd_snoc {k : CKey} {L : List CE} {x : CE} (h : (L.map (·.key)).Nodup) (hk : ∀ y ∈ L, y.key ≠ x.key) : ((L ++ [x]).map (·.key)).Nodup := by
  rw [List.map_append]
  refine List.nodup_append.2 ⟨h, by simp, fun a ha b hb e => ?_⟩
  simp at hb
  obtain ⟨y, hy, rfl⟩ := List.mem_map.1 ha
  exact hk y hy (e.trans hb)
theorem dat_len (p : List UInt8) (h : p.length = 128) (hp : pageB p = true) : (datB p).length ≤ 122 := by
  have := (pageB_iff p).1 hp
  unfold datB
  simp
  omega
theorem CInv.find {room : Int} {most : Nat} {s : CSt} (h : CInv room most s) (h1 : 1 ≤ most) (k : CKey) : CInv room most (cfind most k s).2 := by
  have hw := cfind_ways most k s h.nd
  generalize (cfind most k s).1 = e at hw
  generalize (cfind most k s).2 = s' at hw
  cases hw with
  | there x hx hk =>
    subst hk
    have hl := wo_len h.nd hx
    have := h.len
    have hy2 : ∀ y ∈ lwo x.key s.L ++ [x], y ∈ s.L := fun y hy => by
      rcases List.mem_append.1 hy with hy | hy
      · exact (wo_mem.1 hy).1
      · simp at hy; rw [hy]; exact hx
    refine ⟨h.fs, h.fnd, nd_snoc (k := x.key) (wo_keys h.nd) (fun y hy => (wo_mem.1 hy).2), by simp; omega, h.lo, h.hi, fun y hy => ?_, fun y hy => ?_, fun y hy => ?_⟩
    · have := h.pin y (hy2 y hy); simp only; omega
    · exact h.idx y (hy2 y hy)
    · exact h.dat y (hy2 y hy)
  | full => exact h
  | none => exact h
  | fail => exact { h with lo := by simp, hi := by simp }
  | bad hn hf hi hl hp => have := rd_lo h.lo hl; have := h.hi; exact { h with lo := by simp only; omega, hi := by simp only; omega }
  | come hn hf hi hl hp =>
    have := rd_lo h.lo hl
    have := h.hi
    have hs := room_sub most s.L
    have hrl := room_len h.nd h.len hf
    have htp := total_pg (F := s.F) k.1
    have htt := h.fs.tot
    refine ⟨h.fs, h.fnd, nd_snoc (k := k) (h.nd.sublist (hs.map _)) (fun y hy => hn y (hs.subset hy)), by simp; omega, by simp only; omega, by simp only; omega, fun y hy => ?_, fun y hy => ?_, fun y hy => ?_⟩
    · rcases List.mem_append.1 hy with hy | hy
      · have := h.pin y (hs.subset hy); simp only; omega
      · simp at hy; rw [hy]; simp
    · rcases List.mem_append.1 hy with hy | hy
      · exact h.idx y (hs.subset hy)
      · simp at hy; rw [hy]; exact ⟨hi.1, by simp only; omega⟩
    · rcases List.mem_append.1 hy with hy | hy
      · exact h.dat y (hs.subset hy)
      · rw [List.mem_singleton] at hy; rw [hy]
        refine dat_len _ ?_ hp
        have hlt : k.2.toNat < (fpg k.1 s.F).length := by omega
        rw [show (fpg k.1 s.F).getD k.2.toNat [] = (fpg k.1 s.F)[k.2.toNat] by simp [List.getD, hlt]]
        exact h.fs.pages _ _ (List.getElem_mem hlt)
theorem map_keys {k : CKey} {f : CE → CE} (hf : ∀ x, (f x).key = x.key) (L : List CE) : (lmap k f L).map (·.key) = L.map (·.key) := by
  unfold lmap
  rw [List.map_map]
  refine List.map_congr_left fun x _ => ?_
  simp only [Function.comp]
  split
  · exact hf x
  · rfl
theorem map_mem {k : CKey} {f : CE → CE} {L : List CE} {y : CE} (hy : y ∈ lmap k f L) : ∃ x ∈ L, (x.key = k ∧ y = f x) ∨ (x.key ≠ k ∧ y = x) := by
  unfold lmap at hy
  obtain ⟨x, hx, rfl⟩ := List.mem_map.1 hy
  refine ⟨x, hx, ?_⟩
  by_cases h : x.key = k
  · rw [if_pos h]; exact .inl ⟨h, rfl⟩
  · rw [if_neg h]; exact .inr ⟨h, rfl⟩
/-- a page that was found is the last one -/
theorem cfind_last {most : Nat} {k : CKey} {s : CSt} (hn : (s.L.map (·.key)).Nodup) (h0 : (cfind most k s).1 = 0) : ∃ M x, (cfind most k s).2.L = M ++ [x] ∧ x.key = k ∧ (∀ y ∈ M, y.key ≠ k) ∧ (∀ y ∈ M, y ∈ s.L) ∧ x.pins ≤ s.clk + x.pins ∧ (cfind most k s).2.clk = s.clk + 1 ∧ (cfind most k s).2.F = s.F ∧ (x ∈ s.L ∨ ((∀ y ∈ s.L, y.key ≠ k) ∧ x.pins = 0)) := by
  have hw := cfind_ways most k s hn
  generalize (cfind most k s).1 = e at *
  generalize (cfind most k s).2 = s' at *
  cases hw with
  | there x hx hk => subst hk; exact ⟨_, x, rfl, rfl, fun y hy => (wo_mem.1 hy).2, fun y hy => (wo_mem.1 hy).1, by omega, rfl, rfl, .inl hx⟩
  | full => cases h0
  | none => cases h0
  | fail => cases h0
  | bad => cases h0
  | come hno => exact ⟨_, _, rfl, rfl, fun y hy => hno y ((room_sub _ _).subset hy), fun y hy => (room_sub _ _).subset hy, by omega, rfl, rfl, .inr ⟨hno, rfl⟩⟩
theorem data_last {k : CKey} {M : List CE} {x : CE} (hx : x.key = k) (hM : ∀ y ∈ M, y.key ≠ k) : ldata k (M ++ [x]) = x.data := by
  unfold ldata lget
  rw [List.find?_append, List.find?_eq_none.2 (by simpa using hM)]
  simp [hx]
theorem CInv.pinned {room : Int} {most : Nat} {s : CSt} (h : CInv room most s) (h1 : 1 ≤ most) (k : CKey) : CInv room most (cpin most k s).2.2 := by
  unfold cpin
  have hf := h.find h1 k
  split
  · next h0 =>
    obtain ⟨M, x, e, hx, hM, hMs, _, hc, hF, hxs⟩ := cfind_last h.nd h0
    have hk := map_keys (k := k) (f := fun x => { x with pins := x.pins + 1 }) (fun _ => rfl) (cfind most k s).2.L
    refine ⟨hf.fs, hf.fnd, by simp only; rw [hk]; exact hf.nd, ?_, hf.lo, hf.hi, fun y hy => ?_, fun y hy => ?_, fun y hy => ?_⟩
    · have := congrArg List.length hk
      simp only [List.length_map] at this
      simp only
      rw [this]
      exact hf.len
    · obtain ⟨z, hz, ⟨hzk, rfl⟩ | ⟨_, rfl⟩⟩ := map_mem hy
      · rw [e] at hz
        simp only
        rw [hc]
        rcases List.mem_append.1 hz with hz | hz
        · have := h.pin z (hMs z hz); omega
        · rw [List.mem_singleton] at hz
          subst hz
          rcases hxs with hxs | ⟨_, hxs⟩
          · have := h.pin _ hxs; omega
          · omega
      · exact hf.pin _ hz
    · obtain ⟨z, hz, ⟨hzk, rfl⟩ | ⟨_, rfl⟩⟩ := map_mem hy
      · exact hf.idx z hz
      · exact hf.idx _ hz
    · obtain ⟨z, hz, ⟨hzk, rfl⟩ | ⟨_, rfl⟩⟩ := map_mem hy
      · exact hf.dat z hz
      · exact hf.dat _ hz
  · exact hf
theorem CInv.got {room : Int} {most : Nat} {s : CSt} (h : CInv room most s) (h1 : 1 ≤ most) (k : CKey) : CInv room most (cget most k s).2.2 := by
  unfold cget
  split <;> exact h.find h1 k
theorem CInv.unpinned {room : Int} {most : Nat} {s : CSt} (h : CInv room most s) (k : CKey) : CInv room most (cunpin k s).2 := by
  unfold cunpin
  split
  · next x hx =>
    split
    · exact h
    · have hk := map_keys (k := k) (f := fun x => { x with pins := x.pins - 1 }) (fun _ => rfl) s.L
      refine ⟨h.fs, h.fnd, by simp only; rw [hk]; exact h.nd, ?_, h.lo, h.hi, fun y hy => ?_, fun y hy => ?_, fun y hy => ?_⟩
      · have := congrArg List.length hk
        simp only [List.length_map] at this
        simp only
        rw [this]
        exact h.len
      · obtain ⟨z, hz, ⟨hzk, rfl⟩ | ⟨_, rfl⟩⟩ := map_mem hy
        · have := h.pin z hz; simp only; omega
        · exact h.pin _ hz
      · obtain ⟨z, hz, ⟨hzk, rfl⟩ | ⟨_, rfl⟩⟩ := map_mem hy
        · exact h.idx z hz
        · exact h.idx _ hz
      · obtain ⟨z, hz, ⟨hzk, rfl⟩ | ⟨_, rfl⟩⟩ := map_mem hy
        · exact h.dat z hz
        · exact h.dat _ hz
  · exact h
theorem CInv.dropped {room : Int} {most : Nat} {s : CSt} (h : CInv room most s) (n : Name) : CInv room most (cdrop n s) := by
  unfold cdrop
  exact { h with
    nd := h.nd.sublist (List.Sublist.map _ List.filter_sublist)
    len := Nat.le_trans (List.length_filter_le _ _) h.len
    pin := fun x hx => h.pin x (List.mem_filter.1 hx).1
    idx := fun x hx => h.idx x (List.mem_filter.1 hx).1
    dat := fun x hx => h.dat x (List.mem_filter.1 hx).1 }
/-- the ways of a put -/
inductive CPut (room : Int) (most : Nat) (k : CKey) (d : List UInt8) (s : CSt) : Int → CSt → Prop
  | long (h : 122 < d.length) : CPut room most k d s 3 s
  | full (h : d.length ≤ 122) (hn : ∀ x ∈ s.L, x.key ≠ k) (hf : lfull most s.L = true) : CPut room most k d s 70 s
  | bad (h : d.length ≤ 122) (hf : (∃ x ∈ s.L, x.key = k) ∨ lfull most s.L = false) (h0 : (fsput room s.F k.1 k.2 (encB d)).1 ≠ 0) : CPut room most k d s (fsput room s.F k.1 k.2 (encB d)).1 s
  | there (h : d.length ≤ 122) (x : CE) (hx : x ∈ s.L) (hk : x.key = k) (h0 : (fsput room s.F k.1 k.2 (encB d)).1 = 0) : CPut room most k d s 0 { s with F := (fsput room s.F k.1 k.2 (encB d)).2, L := lwo k s.L ++ [{ x with data := d }], clk := s.clk + 1 }
  | come (h : d.length ≤ 122) (hn : ∀ x ∈ s.L, x.key ≠ k) (hf : lfull most s.L = false) (h0 : (fsput room s.F k.1 k.2 (encB d)).1 = 0) : CPut room most k d s 0 { s with F := (fsput room s.F k.1 k.2 (encB d)).2, L := lroom most s.L ++ [⟨k, d, 0⟩], clk := s.clk + 1 }
theorem cput_ways (room : Int) (most : Nat) (k : CKey) (d : List UInt8) (s : CSt) (hn : (s.L.map (·.key)).Nodup) : CPut room most k d s (cput room most k d s).1 (cput room most k d s).2 := by
  unfold cput
  by_cases hl : 122 < d.length
  · rw [if_pos hl]; exact .long hl
  · rw [if_neg hl]
    have hl : d.length ≤ 122 := by omega
    cases hg : lget k s.L with
    | some x =>
      obtain ⟨h1, h2⟩ := (get_some_iff hn).1 hg
      subst h2
      rw [if_neg (by simp)]
      by_cases h0 : (fsput room s.F x.key.1 x.key.2 (encB d)).1 = 0
      · rw [if_neg (by simpa using h0), if_pos (show (some x).isSome = true from rfl), use_len hn h1]
        exact .there hl x h1 rfl h0
      · rw [if_pos (by simpa using h0)]
        exact .bad hl (.inl ⟨x, h1, rfl⟩) h0
    | none =>
      have hno := get_none_iff.1 hg
      cases hf : lfull most s.L with
      | true => rw [if_pos (by simp)]; exact .full hl hno hf
      | false =>
        rw [if_neg (by simp)]
        by_cases h0 : (fsput room s.F k.1 k.2 (encB d)).1 = 0
        · rw [if_neg (by simpa using h0), if_neg (by simp)]
          exact .come hl hno hf h0
        · rw [if_pos (by simpa using h0)]
          exact .bad hl (.inr hf) h0
theorem fsput_idx {room : Int} {F : FileL} {n : Name} {i : Int} {p : List UInt8} (h : FInv room F) (h0 : (fsput room F n i p).1 = 0) : nameB n = true ∧ 0 ≤ i ∧ i < room ∧ p.length = 128 := by
  unfold fsput at h0
  split at h0
  · cases h0
  · next hb =>
    simp only [not_or, Bool.not_eq_false, Int.not_lt] at hb
    obtain ⟨h1, h2, h3, h4⟩ := hb
    have h4 : p.length = 128 := by simpa using h4
    have htp := total_pg (F := F) n
    have := h.tot
    split at h0
    · exact ⟨h1, h2, by omega, h4⟩
    · split at h0
      · cases h0
      · exact ⟨h1, h2, by omega, h4⟩
theorem CInv.putted {room : Int} {most : Nat} {s : CSt} (h : CInv room most s) (h1 : 1 ≤ most) (k : CKey) (d : List UInt8) : CInv room most (cput room most k d s).2 := by
  have hw := cput_ways room most k d s h.nd
  have hfi := fsput_inv h.fs h.fnd k.1 k.2 (encB d)
  generalize (cput room most k d s).1 = e at hw
  generalize (cput room most k d s).2 = s' at hw
  cases hw with
  | long => exact h
  | full => exact h
  | bad => exact h
  | there hd x hx hk h0 =>
    subst hk
    have hl := wo_len h.nd hx
    have := h.len
    refine ⟨hfi.1, hfi.2, nd_snoc (k := x.key) (wo_keys h.nd) (fun y hy => (wo_mem.1 hy).2), by simp; omega, h.lo, h.hi, fun y hy => ?_, fun y hy => ?_, fun y hy => ?_⟩
    · rcases List.mem_append.1 hy with hy | hy
      · have := h.pin y (wo_mem.1 hy).1; simp only; omega
      · rw [List.mem_singleton] at hy; rw [hy]; have := h.pin x hx; simp only; omega
    · rcases List.mem_append.1 hy with hy | hy
      · exact h.idx y (wo_mem.1 hy).1
      · rw [List.mem_singleton] at hy; rw [hy]; exact h.idx x hx
    · rcases List.mem_append.1 hy with hy | hy
      · exact h.dat y (wo_mem.1 hy).1
      · rw [List.mem_singleton] at hy; rw [hy]; exact hd
  | come hd hn hf h0 =>
    have hs := room_sub most s.L
    have hrl := room_len h.nd h.len hf
    have hx := fsput_idx h.fs h0
    refine ⟨hfi.1, hfi.2, nd_snoc (k := k) (h.nd.sublist (hs.map _)) (fun y hy => hn y (hs.subset hy)), by simp; omega, h.lo, h.hi, fun y hy => ?_, fun y hy => ?_, fun y hy => ?_⟩
    · rcases List.mem_append.1 hy with hy | hy
      · have := h.pin y (hs.subset hy); simp only; omega
      · rw [List.mem_singleton] at hy; rw [hy]; simp
    · rcases List.mem_append.1 hy with hy | hy
      · exact h.idx y (hs.subset hy)
      · rw [List.mem_singleton] at hy; rw [hy]; exact ⟨hx.2.1, hx.2.2.1⟩
    · rcases List.mem_append.1 hy with hy | hy
      · exact h.dat y (hs.subset hy)
      · rw [List.mem_singleton] at hy; rw [hy]; exact hd
/-- what is done with a cache -/
structure CAct where
  kind : Nat
  name : Name
  i : Int
  data : List UInt8
  x : UInt8
def flipB (p : List UInt8) (at_ : Nat) (x : UInt8) : List UInt8 := p.set at_ (p.getD at_ 0 ^^^ x)
def fswrite (room : Int) (F : FileL) (n : Name) (q : List (List UInt8)) : Int × FileL :=
  if nameB n = false then (2, F) else if room - ((total F : Nat) : Int) + ((fpg n F).length : Int) < (q.length : Int) then (61, F) else (0, fput n q F)
def fsfail (left : Int) (i : Int) : Int × Int := if i < 0 then (2, left) else (0, i)
def fsflip (F : FileL) (n : Name) (i : Int) (x : UInt8) : Int × FileL :=
  if 0 ≤ i ∧ i < ((fpg n F).length : Int) then (0, fput n ((fpg n F).set i.toNat (flipB ((fpg n F).getD i.toNat []) 2 x)) F) else (4, F)
def fsremove (F : FileL) (n : Name) : Int × FileL := if fpg n F = [] then (4, F) else (0, fdel n F)
def CAct.key (a : CAct) : CKey := (a.name, a.i)
def cstep (room : Int) (most : Nat) (a : CAct) (s : CSt) : List UInt8 × Int × CSt :=
  match a.kind % 10 with
  | 2 => cpin most a.key s
  | 3 => ([], cunpin a.key s)
  | 4 => ([], cput room most a.key a.data s)
  | 5 => ([], 0, cdrop a.name s)
  | 6 => ([], (fswrite room s.F a.name (splitB a.data)).1, { s with F := (fswrite room s.F a.name (splitB a.data)).2 })
  | 7 => ([], (fsfail s.left a.i).1, { s with left := (fsfail s.left a.i).2 })
  | 8 => ([], (fsflip s.F a.name a.i a.x).1, { s with F := (fsflip s.F a.name a.i a.x).2 })
  | 9 => ([], (fsremove s.F a.name).1, { s with F := (fsremove s.F a.name).2 })
  | _ => cget most a.key s
theorem flip_len (p : List UInt8) (k : Nat) (x : UInt8) : (flipB p k x).length = p.length := by unfold flipB; simp
theorem fswrite_inv {room : Int} {F : FileL} (h : FInv room F) (hn : (F.map (·.1)).Nodup) (n : Name) (q : List (List UInt8)) (hq : q ≠ []) (hl : ∀ s ∈ q, s.length = 128) : FInv room (fswrite room F n q).2 ∧ ((fswrite room F n q).2.map (·.1)).Nodup := by
  unfold fswrite
  split
  · exact ⟨h, hn⟩
  · next hb =>
    split
    · exact ⟨h, hn⟩
    · exact ⟨h.put hn (by simpa using hb) hq hl (by omega), fput_keys hn⟩
theorem fpg_name {room : Int} {F : FileL} (h : FInv room F) {n : Name} (hp : fpg n F ≠ []) : nameB n = true := by
  obtain ⟨p, hp, e, _⟩ := fpg_mem hp
  rw [← e]
  exact h.nam p hp
theorem fsflip_inv {room : Int} {F : FileL} (h : FInv room F) (hn : (F.map (·.1)).Nodup) (n : Name) (i : Int) (x : UInt8) : FInv room (fsflip F n i x).2 ∧ ((fsflip F n i x).2.map (·.1)).Nodup := by
  unfold fsflip
  split
  · next hi =>
    have hne : fpg n F ≠ [] := fun e => by rw [e] at hi; simp at hi; omega
    have hlt : i.toNat < (fpg n F).length := by omega
    have hg : (fpg n F).getD i.toNat [] = (fpg n F)[i.toNat] := by simp [List.getD, hlt]
    refine ⟨h.put hn (fpg_name h hne) (fun e => ?_) (fun s hs => ?_) ?_, fput_keys hn⟩
    · have := congrArg List.length e; simp at this; exact hne this
    · rcases List.mem_or_eq_of_mem_set hs with hs | rfl
      · exact h.pages n s hs
      · rw [flip_len, hg]; exact h.pages n _ (List.getElem_mem hlt)
    · have := h.tot; rw [List.length_set]; omega
  · exact ⟨h, hn⟩
theorem fsremove_inv {room : Int} {F : FileL} (h : FInv room F) (hn : (F.map (·.1)).Nodup) (n : Name) : FInv room (fsremove F n).2 ∧ ((fsremove F n).2.map (·.1)).Nodup := by
  unfold fsremove
  split
  · exact ⟨h, hn⟩
  · exact ⟨h.del hn n, fdel_keys hn⟩
theorem CInv.setF {room : Int} {most : Nat} {s : CSt} (h : CInv room most s) {F : FileL} (hF : FInv room F ∧ (F.map (·.1)).Nodup) : CInv room most { s with F := F } := { h with fs := hF.1, fnd := hF.2 }
theorem CInv.setL {room : Int} {most : Nat} {s : CSt} (h : CInv room most s) {z : Int} (h1 : -1 ≤ z) (h2 : z ≤ 9223372036854775807) : CInv room most { s with left := z } := { h with lo := h1, hi := h2 }
theorem split_pages (d : List UInt8) : splitB d ≠ [] ∧ ∀ s ∈ splitB d, s.length = 128 := by
  obtain ⟨n, hn⟩ : ∃ n, d.length ≤ n := ⟨_, Nat.le_refl _⟩
  induction n generalizing d with
  | zero => rw [splitB_short (by omega)]; exact ⟨by simp, fun s hs => by rw [List.mem_singleton] at hs; rw [hs]; exact encB_len (by omega)⟩
  | succ n ih =>
    by_cases h : 122 < d.length
    · rw [splitB_long h]
      refine ⟨by simp, fun s hs => ?_⟩
      rcases List.mem_cons.1 hs with rfl | hs
      · exact encB_len (by simp; omega)
      · exact (ih (d.drop 122) (by simp; omega)).2 s hs
    · rw [splitB_short (by omega)]; exact ⟨by simp, fun s hs => by rw [List.mem_singleton] at hs; rw [hs]; exact encB_len (by omega)⟩
theorem kind_cases (k : Nat) : k % 10 = 0 ∨ k % 10 = 1 ∨ k % 10 = 2 ∨ k % 10 = 3 ∨ k % 10 = 4 ∨ k % 10 = 5 ∨ k % 10 = 6 ∨ k % 10 = 7 ∨ k % 10 = 8 ∨ k % 10 = 9 := by omega
theorem CInv.step {room : Int} {most : Nat} {s : CSt} (h : CInv room most s) (h1 : 1 ≤ most) (a : CAct) (hi : a.i ≤ 9223372036854775807) : CInv room most (cstep room most a s).2.2 := by
  unfold cstep
  rcases kind_cases a.kind with e | e | e | e | e | e | e | e | e | e <;> rw [e] <;> simp only
  · exact h.got h1 _
  · exact h.got h1 _
  · exact h.pinned h1 _
  · exact h.unpinned _
  · exact h.putted h1 _ _
  · exact h.dropped _
  · exact h.setF (fswrite_inv h.fs h.fnd _ _ (split_pages _).1 (split_pages _).2)
  · unfold fsfail
    split
    · exact h.setL h.lo h.hi
    · exact h.setL (by simp only; omega) hi
  · exact h.setF (fsflip_inv h.fs h.fnd _ _ _)
  · exact h.setF (fsremove_inv h.fs h.fnd _)
theorem cfind_clk (most : Nat) (k : CKey) (s : CSt) (hn : (s.L.map (·.key)).Nodup) : (cfind most k s).2.clk ≤ s.clk + 1 := by
  have hw := cfind_ways most k s hn
  generalize (cfind most k s).1 = e at hw
  generalize (cfind most k s).2 = s' at hw
  cases hw <;> simp
theorem cstep_clk {room : Int} {most : Nat} {s : CSt} (h : CInv room most s) (a : CAct) : (cstep room most a s).2.2.clk ≤ s.clk + 1 := by
  unfold cstep
  have hf := cfind_clk most a.key s h.nd
  rcases kind_cases a.kind with e | e | e | e | e | e | e | e | e | e <;> rw [e] <;> simp only
  · unfold cget; split <;> exact hf
  · unfold cget; split <;> exact hf
  · unfold cpin; split <;> exact hf
  · unfold cunpin; split
    · split <;> simp
    · simp
  · have hw := cput_ways room most a.key a.data s h.nd
    generalize (cput room most a.key a.data s).1 = e at hw
    generalize (cput room most a.key a.data s).2 = s' at hw
    cases hw <;> simp
  · simp [cdrop]
  all_goals omega
/-- where all that may be there have pins nothing else is got, nor put -/
theorem full_of {room : Int} {most : Nat} {s : CSt} (h : CInv room most s) (hp : (s.L.filter fun x => decide (0 < x.pins)).length = most) : lfull most s.L = true := by
  have h1 := List.length_filter_le (fun x : CE => decide (0 < x.pins)) s.L
  have h2 := h.len
  unfold lfull
  have : lold s.L = none := old_none.2 fun x hx => by
    have h3 : (s.L.filter fun x => decide (0 < x.pins)).length = s.L.length := by omega
    have := List.length_filter_eq_length_iff.1 h3 x hx
    simp at this
    omega
  rw [this]
  simp
  omega
theorem full_find {most : Nat} {k : CKey} {s : CSt} (hn : lget k s.L = none) (hf : lfull most s.L = true) : cfind most k s = (70, s) := by
  unfold cfind
  rw [hn, hf, if_neg (by simp), if_pos (by rfl)]
end Go.Proofs.YtkhbemmcegmdaaaGreatDoor
end
