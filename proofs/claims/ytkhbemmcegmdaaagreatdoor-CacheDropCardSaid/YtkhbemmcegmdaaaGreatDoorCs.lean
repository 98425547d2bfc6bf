/- THE CACHE, plain: what each act comes to, on a list of pages in the order of their use. And how frames in memory stand for that list. -/
import Derived.Test.YtkhbemmcegmdaaaGreatDoorCr
import Derived.Test.YtkhbemmcegmdaaaGreatDoorPgEn
set_option linter.all false
set_option linter.unusedVariables false
set_option maxRecDepth 100000
namespace Go.Proofs.YtkhbemmcegmdaaaGreatDoor
open Go.RowKit
open Go.ChangeMaps (setBlock)

structure CE where
  key : CKey
  data : List UInt8
  pins : Nat
/-- a cache, and its file system: reads ahead of one that fails; files; pages that are there, the one that was used last at the end; how often pages were used -/
structure CSt where
  left : Int
  F : FileL
  L : List CE
  clk : Nat
def CF.abs (x : CF) : CE := ⟨x.key, x.data, x.pins⟩
def lget (k : CKey) (L : List CE) : Option CE := L.find? (fun x => decide (x.key = k))
def lold (L : List CE) : Option CE := L.find? (fun x => decide (x.pins = 0))
def lfull (most : Nat) (L : List CE) : Bool := decide (most ≤ L.length) && (lold L).isNone
def lwo (k : CKey) (L : List CE) : List CE := L.filter fun x => decide (x.key ≠ k)
def lroom (most : Nat) (L : List CE) : List CE := if most ≤ L.length then (match lold L with | some o => lwo o.key L | none => L) else L
def luse (k : CKey) (f : CE → CE) (L : List CE) : List CE := lwo k L ++ (L.filter fun x => decide (x.key = k)).map f
def lmap (k : CKey) (f : CE → CE) (L : List CE) : List CE := L.map fun x => if x.key = k then f x else x
def frd (left : Int) (F : FileL) (n : Name) (i : Int) : Int × List UInt8 × Int :=
  if 0 ≤ i ∧ i < ((fpg n F).length : Int) then if left = 0 then (60, [], -1) else (0, (fpg n F).getD i.toNat [], rdLeft left) else (4, [], left)
def cfind (most : Nat) (k : CKey) (s : CSt) : Int × CSt :=
  if (lget k s.L).isSome then (0, { s with L := luse k id s.L, clk := s.clk + 1 })
  else if lfull most s.L then (70, s)
  else if (frd s.left s.F k.1 k.2).1 ≠ 0 then ((frd s.left s.F k.1 k.2).1, { s with left := (frd s.left s.F k.1 k.2).2.2 })
  else if pageB (frd s.left s.F k.1 k.2).2.1 then (0, { s with left := (frd s.left s.F k.1 k.2).2.2, L := lroom most s.L ++ [⟨k, datB (frd s.left s.F k.1 k.2).2.1, 0⟩], clk := s.clk + 1 })
  else (50, { s with left := (frd s.left s.F k.1 k.2).2.2 })
def ldata (k : CKey) (L : List CE) : List UInt8 := ((lget k L).map (·.data)).getD []
def cget (most : Nat) (k : CKey) (s : CSt) : List UInt8 × Int × CSt := if (cfind most k s).1 = 0 then (ldata k (cfind most k s).2.L, 0, (cfind most k s).2) else ([], (cfind most k s).1, (cfind most k s).2)
def cpin (most : Nat) (k : CKey) (s : CSt) : List UInt8 × Int × CSt :=
  if (cfind most k s).1 = 0 then (ldata k (cfind most k s).2.L, 0, { (cfind most k s).2 with L := lmap k (fun x => { x with pins := x.pins + 1 }) (cfind most k s).2.L }) else ([], (cfind most k s).1, (cfind most k s).2)
def cunpin (k : CKey) (s : CSt) : Int × CSt :=
  match lget k s.L with
  | some x => if x.pins = 0 then (4, s) else (0, { s with L := lmap k (fun x => { x with pins := x.pins - 1 }) s.L })
  | none => (4, s)
/-- a page laid, or one page more -/
def fsput (room : Int) (F : FileL) (n : Name) (i : Int) (p : List UInt8) : Int × FileL :=
  if nameB n = false ∨ i < 0 ∨ ((fpg n F).length : Int) < i ∨ p.length ≠ 128 then (2, F)
  else if i < ((fpg n F).length : Int) then (0, fput n ((fpg n F).set i.toNat p) F)
  else if ((total F : Nat) : Int) = room then (61, F)
  else (0, fput n (fpg n F ++ [p]) F)
def cput (room : Int) (most : Nat) (k : CKey) (d : List UInt8) (s : CSt) : Int × CSt :=
  if 122 < d.length then (3, s)
  else if !(lget k s.L).isSome && lfull most s.L then (70, s)
  else if (fsput room s.F k.1 k.2 (encB d)).1 ≠ 0 then ((fsput room s.F k.1 k.2 (encB d)).1, s)
  else (0, { s with F := (fsput room s.F k.1 k.2 (encB d)).2, L := if (lget k s.L).isSome then luse k (fun x => { x with data := d }) s.L else lroom most s.L ++ [⟨k, d, 0⟩], clk := s.clk + 1 })
def cdrop (n : Name) (s : CSt) : CSt := { s with L := s.L.filter fun x => decide (x.key.1 ≠ n) }

/-- frames in the order of their use -/
structure COrd (Q : List CF) (clk : Int) : Prop where
  pw : Q.Pairwise fun x y => x.used < y.used
  le : ∀ x ∈ Q, x.used ≤ clk
theorem COrd.wo {Q : List CF} {clk : Int} (h : COrd Q clk) (p : CF → Bool) : COrd (Q.filter p) clk := ⟨h.pw.sublist List.filter_sublist, fun x hx => h.le x (List.mem_filter.1 hx).1⟩
theorem COrd.snoc {Q : List CF} {clk : Int} (h : COrd Q clk) (x : CF) (hx : x.used = clk + 1) : COrd (Q ++ [x]) (clk + 1) :=
  ⟨List.pairwise_append.2 ⟨h.pw, List.pairwise_singleton _ _, fun y hy z hz => by simp at hz; subst hz; have := h.le y hy; omega⟩, fun y hy => by
    rcases List.mem_append.1 hy with hy | hy
    · have := h.le y hy; omega
    · simp at hy; subst hy; omega⟩
theorem COrd.keepUsed {Q Q' : List CF} {clk : Int} (h : COrd Q clk) (he : Q'.map (·.used) = Q.map (·.used)) : COrd Q' clk := by
  have h1 : (Q.map (·.used)).Pairwise (· < ·) := List.pairwise_map.2 h.pw
  rw [← he] at h1
  refine ⟨List.pairwise_map.1 h1, fun x hx => ?_⟩
  have h2 : x.used ∈ Q.map (·.used) := by rw [← he]; exact List.mem_map_of_mem hx
  obtain ⟨y, hy, e⟩ := List.mem_map.1 h2
  have := h.le y hy
  omega
/-- of those without pins the first one was used least -/
theorem COrd.old {r : CF} : ∀ {Q : List CF} {clk : Int}, COrd Q clk → r ∈ Q → r.pins = 0 → (∀ y ∈ Q, y.pins = 0 → r.used ≤ y.used) → Q.find? (fun x => decide (x.pins = 0)) = some r
  | [], _, _, h, _, _ => by cases h
  | x :: Q, clk, ho, h, hp, hm => by
    by_cases h0 : x.pins = 0
    · rw [List.find?_cons_of_pos (by simpa using h0)]
      rcases List.mem_cons.1 h with rfl | h
      · rfl
      · have h1 := (List.pairwise_cons.1 ho.pw).1 r h
        have h2 := hm x (by simp) h0
        omega
    · rw [List.find?_cons_of_neg (by simpa using h0)]
      rcases List.mem_cons.1 h with rfl | h
      · exact absurd hp h0
      · exact COrd.old (clk := clk) ⟨(List.pairwise_cons.1 ho.pw).2, fun y hy => ho.le y (List.mem_cons_of_mem _ hy)⟩ h hp (fun y hy => hm y (List.mem_cons_of_mem _ hy))
theorem turn_perm {x x' : CF} : ∀ {Q : List CF}, (Q.map (·.key)).Nodup → x ∈ Q → (Q.map fun y => if y.key = x.key then x' else y).Perm ((Q.filter fun y => decide (y.key ≠ x.key)) ++ [x'])
  | [], _, h => by cases h
  | y :: Q, hn, h => by
    rw [List.map_cons, List.nodup_cons] at hn
    by_cases he : y.key = x.key
    · have hno : ∀ z ∈ Q, ¬ z.key = x.key := fun z hz e => hn.1 (by rw [he, ← e]; exact List.mem_map_of_mem hz)
      rw [List.map_cons, if_pos he, List.filter_cons_of_neg (by simpa using he)]
      have e1 : (Q.map fun y => if y.key = x.key then x' else y) = Q := by
        conv => rhs; rw [← List.map_id Q]
        exact List.map_congr_left fun z hz => by rw [if_neg (hno z hz)]; rfl
      have e2 : (Q.filter fun y => decide (y.key ≠ x.key)) = Q := List.filter_eq_self.2 fun z hz => by simpa using hno z hz
      rw [e1, e2]
      exact (List.perm_append_singleton x' Q).symm
    · rw [List.map_cons, if_neg he, List.filter_cons_of_pos (by simpa using he), List.cons_append]
      have hx : x ∈ Q := by
        rcases List.mem_cons.1 h with rfl | h
        · exact absurd rfl he
        · exact h
      exact (turn_perm hn.2 hx).cons y
theorem abs_find (Q : List CF) (k : CKey) : lget k (Q.map CF.abs) = (Q.find? fun x => decide (x.key = k)).map CF.abs := by
  unfold lget
  rw [List.find?_map]
  rfl
theorem abs_old (Q : List CF) : lold (Q.map CF.abs) = (Q.find? fun x => decide (x.pins = 0)).map CF.abs := by
  unfold lold
  rw [List.find?_map]
  rfl
theorem abs_wo (Q : List CF) (k : CKey) : lwo k (Q.map CF.abs) = (Q.filter fun x => decide (x.key ≠ k)).map CF.abs := by
  unfold lwo
  rw [List.filter_map]
  rfl
theorem filter_one {x : CF} : ∀ {Q : List CF}, (Q.map (·.key)).Nodup → x ∈ Q → (Q.filter fun y => decide (y.key = x.key)) = [x]
  | [], _, h => by cases h
  | y :: Q, hn, h => by
    rw [List.map_cons, List.nodup_cons] at hn
    by_cases he : y.key = x.key
    · have hno : ∀ z ∈ Q, ¬ z.key = x.key := fun z hz e => hn.1 (by rw [he, ← e]; exact List.mem_map_of_mem hz)
      rw [List.filter_cons_of_pos (by simpa using he), List.filter_eq_nil_iff.2 (fun z hz => by simpa using hno z hz)]
      rcases List.mem_cons.1 h with rfl | h
      · rfl
      · exact absurd rfl (hno x h)
    · rw [List.filter_cons_of_neg (by simpa using he)]
      rcases List.mem_cons.1 h with rfl | h
      · exact absurd rfl he
      · exact filter_one hn.2 h
theorem abs_use {Q : List CF} {x x' : CF} (hn : (Q.map (·.key)).Nodup) (hx : x ∈ Q) (f : CE → CE) (hf : x'.abs = f x.abs) : ((Q.filter fun y => decide (y.key ≠ x.key)) ++ [x']).map CF.abs = luse x.key f (Q.map CF.abs) := by
  unfold luse
  rw [List.map_append, abs_wo, List.filter_map]
  have : (Q.filter ((fun y : CE => decide (y.key = x.key)) ∘ CF.abs)) = [x] := filter_one hn hx
  rw [this, List.map_cons, List.map_nil, List.map_cons, List.map_nil, hf, List.map_cons, List.map_nil]
theorem abs_map {Q : List CF} {x x' : CF} (hn : (Q.map (·.key)).Nodup) (hx : x ∈ Q) (f : CE → CE) (hf : x'.abs = f x.abs) : (Q.map fun y => if y.key = x.key then x' else y).map CF.abs = lmap x.key f (Q.map CF.abs) := by
  unfold lmap
  rw [List.map_map, List.map_map]
  refine List.map_congr_left fun y hy => ?_
  simp only [Function.comp]
  by_cases he : y.key = x.key
  · obtain rfl : y = x := nodup_inj hn hy hx he
    rw [if_pos rfl, hf, if_pos (show y.abs.key = y.key from rfl)]
  · rw [if_neg he, if_neg (show ¬ y.abs.key = x.key from he)]
theorem find_key {Q : List CF} {x : CF} (hn : (Q.map (·.key)).Nodup) (hx : x ∈ Q) : (Q.find? fun y => decide (y.key = x.key)) = some x := by
  cases h : Q.find? fun y => decide (y.key = x.key) with
  | none =>
    have := List.find?_eq_none.1 h x hx
    simp at this
  | some y =>
    have h1 := List.find?_some h
    rw [nodup_inj hn (List.mem_of_find?_eq_some h) hx (by simpa using h1)]
theorem key_cases (Q : List CF) (k : CKey) : (∃ x ∈ Q, x.key = k) ∨ (∀ x ∈ Q, x.key ≠ k) := by
  by_cases h : ∃ x ∈ Q, x.key = k
  · exact .inl h
  · exact .inr fun x hx e => h ⟨x, hx, e⟩
/-- a cache in block cb, over a file system in block fb; X: the blocks that both take -/
def CAt (w : World) (cb fb : Nat) (X : Nat → Prop) (room : Int) (most : Nat) (s : CSt) : Prop :=
  ∃ tb X1 XF ME Q clock, CRep w cb fb tb X1 XF room s.left s.F (most : Int) ME Q (s.clk : Int) clock ∧ COrd Q (s.clk : Int) ∧ Q.map CF.abs = s.L ∧ (∀ k, X1 k → X k) ∧ (∀ k, XF k → X k) ∧ ∀ k, X k → X1 k ∨ XF k
section
variable {w w' : World} {cb fb most : Nat} {X S : Nat → Prop} {room : Int} {s : CSt}
theorem CAt.keep (h : CAt w cb fb X room most s) (hf : Fr S w w') (hs : ∀ k, X k → ¬ S k) : CAt w' cb fb X room most s := by
  obtain ⟨tb, X1, XF, ME, Q, clock, h, ho, ha, h1, h2, h3⟩ := h
  exact ⟨tb, X1, XF, ME, Q, clock, h.keep hf (fun k hk => hk.elim (fun hk => hs k (h1 k hk)) (fun hk => hs k (h2 k hk))), ho, ha, h1, h2, h3⟩
theorem CAt.up (h : CAt w cb fb X room most s) (hf : Fr (fun _ => False) w w') : CAt w' cb fb X room most s := h.keep hf (fun _ _ h => h)
theorem CAt.lt (h : CAt w cb fb X room most s) : ∀ k, X k → k < w.heap.size := by
  obtain ⟨tb, X1, XF, ME, Q, clock, h, ho, ha, h1, h2, h3⟩ := h
  intro k hk
  rcases h3 k hk with hk | hk
  · exact h.lt k hk
  · exact h.fs.lt k hk
/-- its file system alone -/
theorem CAt.fs (h : CAt w cb fb X room most s) : ∃ XF, FSAt w fb XF room s.left s.F ∧ (∀ k, XF k → X k) ∧ ∀ (w' : World) (S XF' : Nat → Prop) (left' : Int) (F' : FileL), Fr S w w' → (∀ k, S k → XF k) → FSAt w' fb XF' room left' F' → (∀ k, XF' k → XF k ∨ w.heap.size ≤ k) →
    ∃ X', CAt w' cb fb X' room most { s with left := left', F := F' } ∧ ∀ k, X' k → X k ∨ w.heap.size ≤ k := by
  obtain ⟨tb, X1, XF, ME, Q, clock, h, ho, ha, h1, h2, h3⟩ := h
  refine ⟨XF, h.fs, h2, fun w' S XF' left' F' hf hs hat hx => ⟨fun k => X1 k ∨ XF' k, ⟨tb, X1, XF', ME, Q, clock, h.fsop hf hs hat hx, ho, ha, fun k hk => .inl hk, fun k hk => .inr hk, fun k hk => hk⟩, fun k hk => ?_⟩⟩
  rcases hk with hk | hk
  · exact .inl (h1 k hk)
  · rcases hx k hk with hk | hk
    · exact .inl (h2 k hk)
    · exact .inr hk
end
end Go.Proofs.YtkhbemmcegmdaaaGreatDoor
