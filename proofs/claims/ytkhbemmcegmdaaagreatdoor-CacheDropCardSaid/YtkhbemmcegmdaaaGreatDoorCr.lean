/- A CACHE in memory: its frames in the order of their use, as a list; what a turned cell, a page less, a page more make of it. -/
import Derived.Test.YtkhbemmcegmdaaaGreatDoorFsI
set_option linter.all false
set_option linter.unusedVariables false
set_option maxRecDepth 100000
namespace Go.Proofs.YtkhbemmcegmdaaaGreatDoor
open Go.RowKit
open Go.ChangeMaps (setBlock)

abbrev CKey := Name × Int
def ckey (k : CKey) : Value := .agg #[strk k.1, .int .i64 k.2]
theorem ckey_inj {a b : CKey} (h : ckey a = ckey b) : a = b := by
  unfold ckey at h
  injection h with h
  have h1 := congrArg (fun x : Array Value => x[0]?) h
  have h2 := congrArg (fun x : Array Value => x[1]?) h
  simp at h1 h2
  exact Prod.ext (strk_inj h1) h2
structure CF where
  key : CKey
  data : List UInt8
  pins : Nat
  used : Int
  blk : Nat
  born : Nat
def CF.ent (x : CF) : Ent CKey := (x.key, ptr x.blk, x.born)
def CF.cells (x : CF) : Array Value := #[strv x.data, .int .i64 (x.pins : Int), .int .i64 x.used]
def ccells (fb : Nat) (most : Int) (tb : Nat) (clk : Int) : Array Value := #[ptr fb, .int .i64 most, .map (some tb), .int .i64 clk]
structure CRep (w : World) (cb fb tb : Nat) (X XF : Nat → Prop) (room left : Int) (F : FileL) (most : Int) (ME : List (Ent CKey)) (Q : List CF) (clk : Int) (clock : Nat) : Prop where
  lt : ∀ k, X k → k < w.heap.size
  xc : X cb
  xt : X tb
  ne : cb ≠ tb
  dj : ∀ k, X k → ¬ XF k
  blk : Blk w cb 66 (ccells fb most tb clk)
  fs : FSAt w fb XF room left F
  map : MBlk w tb ckey ME clock
  pm : ME.Perm (Q.map CF.ent)
  nd : (Q.map (·.key)).Nodup
  bnd : (Q.map (·.born)).Nodup
  bclk : ∀ x ∈ Q, x.born < clock
  frm : ∀ x ∈ Q, Blk w x.blk 132 x.cells ∧ X x.blk ∧ x.blk ≠ cb ∧ x.blk ≠ tb
  bn : (Q.map (·.blk)).Nodup
theorem nodup_inj {α β : Type} {f : α → β} {L : List α} (h : (L.map f).Nodup) {x y : α} (hx : x ∈ L) (hy : y ∈ L) (he : f x = f y) : x = y := by
  induction L with
  | nil => cases hx
  | cons z L ih =>
    rw [List.map_cons, List.nodup_cons] at h
    rcases List.mem_cons.1 hx with h1 | h1
    · rcases List.mem_cons.1 hy with h2 | h2
      · rw [h1, h2]
      · exact absurd (by rw [← h1, he]; exact List.mem_map_of_mem h2) h.1
    · rcases List.mem_cons.1 hy with h2 | h2
      · exact absurd (by rw [← h2, ← he]; exact List.mem_map_of_mem h1) h.1
      · exact ih h.2 h1 h2
section
variable {α : Type} [DecidableEq α]
theorem aget_of_mem {x : Ent α} : ∀ {L : List (Ent α)}, (L.map (·.1)).Nodup → x ∈ L → aget x.1 L = some x.2.1
  | [], _, h => by cases h
  | y :: L, hn, h => by
    rw [List.map_cons, List.nodup_cons] at hn
    unfold aget
    rcases List.mem_cons.1 h with rfl | h
    · rw [if_pos rfl]
    · have : ¬ x.1 = y.1 := fun e => hn.1 (by rw [← e]; exact List.mem_map_of_mem h)
      rw [if_neg this]
      exact aget_of_mem hn.2 h
end
section
variable {w w' w1 : World} {cb fb tb clock : Nat} {X XF S : Nat → Prop} {room left most clk : Int} {F : FileL} {ME : List (Ent CKey)} {Q : List CF}
theorem CRep.kn (h : CRep w cb fb tb X XF room left F most ME Q clk clock) : (ME.map (·.1)).Nodup := by
  have := (h.pm.map (·.1)).nodup_iff
  rw [this, List.map_map]
  exact h.nd
theorem CRep.get_some (h : CRep w cb fb tb X XF room left F most ME Q clk clock) {x : CF} (hx : x ∈ Q) : aget x.key ME = some (ptr x.blk) := by
  have hm : x.ent ∈ ME := h.pm.symm.subset (List.mem_map_of_mem hx)
  exact aget_of_mem h.kn hm
theorem CRep.get_none (h : CRep w cb fb tb X XF room left F most ME Q clk clock) {k : CKey} (hk : ∀ x ∈ Q, x.key ≠ k) : aget k ME = none := by
  rw [aget_none_iff]
  intro hm
  have : k ∈ (Q.map CF.ent).map (·.1) := (h.pm.map (·.1)).subset hm
  rw [List.map_map] at this
  obtain ⟨x, hx, he⟩ := List.mem_map.1 this
  exact hk x hx he
theorem CRep.len (h : CRep w cb fb tb X XF room left F most ME Q clk clock) : ME.length = Q.length := by rw [h.pm.length_eq, List.length_map]
theorem CRep.keep (h : CRep w cb fb tb X XF room left F most ME Q clk clock) (hf : Fr S w w') (hs : ∀ k, X k ∨ XF k → ¬ S k) : CRep w' cb fb tb X XF room left F most ME Q clk clock :=
  { h with
    lt := fun k hk => Nat.lt_of_lt_of_le (h.lt k hk) hf.size
    blk := h.blk.fr hf (hs _ (.inl h.xc))
    fs := h.fs.fr hf (fun k hk => hs k (.inr hk))
    map := h.map.fr hf (hs _ (.inl h.xt))
    frm := fun x hx => by
      obtain ⟨h1, h2, h3⟩ := h.frm x hx
      exact ⟨h1.fr hf (hs _ (.inl h2)), h2, h3⟩ }
theorem CRep.fsop (h : CRep w cb fb tb X XF room left F most ME Q clk clock) (hf : Fr S w w') (hs : ∀ k, S k → XF k) {XF' : Nat → Prop} {left' : Int} {F' : FileL} (h2 : FSAt w' fb XF' room left' F') (hx : ∀ k, XF' k → XF k ∨ w.heap.size ≤ k) : CRep w' cb fb tb X XF' room left' F' most ME Q clk clock :=
  have hn : ∀ k, X k → ¬ S k := fun k hk h' => h.dj k hk (hs k h')
  { h with
    lt := fun k hk => Nat.lt_of_lt_of_le (h.lt k hk) hf.size
    dj := fun k hk hk2 => by
      rcases hx k hk2 with h3 | h3
      · exact h.dj k hk h3
      · have := h.lt k hk; omega
    blk := h.blk.fr hf (hn _ h.xc)
    fs := h2
    map := h.map.fr hf (hn _ h.xt)
    frm := fun x hx => by
      obtain ⟨h1, h2, h3⟩ := h.frm x hx
      exact ⟨h1.fr hf (hn _ h2), h2, h3⟩ }
theorem CRep.perm (h : CRep w cb fb tb X XF room left F most ME Q clk clock) {Q' : List CF} (hp : Q.Perm Q') : CRep w cb fb tb X XF room left F most ME Q' clk clock :=
  { h with
    pm := h.pm.trans (hp.map _)
    nd := (hp.map _).nodup_iff.1 h.nd
    bnd := (hp.map _).nodup_iff.1 h.bnd
    bclk := fun x hx => h.bclk x (hp.symm.subset hx)
    frm := fun x hx => h.frm x (hp.symm.subset hx)
    bn := (hp.map _).nodup_iff.1 h.bn }
theorem CRep.setClk (h : CRep w cb fb tb X XF room left F most ME Q clk clock) (z : Int) : CRep (w.setCell ⟨cb, 3, none⟩ (.int .i64 z)) cb fb tb X XF room left F most ME Q z clock := by
  have hf := Fr.one w cb 3 (.int .i64 z)
  exact { h with
    lt := fun k hk => Nat.lt_of_lt_of_le (h.lt k hk) hf.size
    blk := h.blk.set_ 3 _
    fs := h.fs.fr hf (fun k hk e => h.dj cb h.xc (by rw [← e]; exact hk))
    map := h.map.fr hf (Ne.symm h.ne)
    frm := fun x hx => by
      obtain ⟨h1, h2, h3⟩ := h.frm x hx
      exact ⟨h1.fr hf h3.1, h2, h3⟩ }
/-- a frame's cell turned -/
theorem CRep.turn (h : CRep w cb fb tb X XF room left F most ME Q clk clock) {x : CF} (hx : x ∈ Q) (x' : CF) (j : Nat) (v : Value) (h1 : x'.key = x.key) (h2 : x'.blk = x.blk) (h3 : x'.born = x.born) (hc : x.cells.setIfInBounds j v = x'.cells) :
    CRep (w.setCell ⟨x.blk, j, none⟩ v) cb fb tb X XF room left F most ME (Q.map fun y => if y.key = x.key then x' else y) clk clock := by
  have hf := Fr.one w x.blk j v
  obtain ⟨b1, b2, b3, b4⟩ := h.frm x hx
  have hsame : ∀ y ∈ Q, y.key = x.key → y = x := fun y hy e => nodup_inj h.nd hy hx e
  have hmap : ∀ (β : Type) (f : CF → β), f x' = f x → (Q.map fun y => if y.key = x.key then x' else y).map f = Q.map f := fun β f e => by
    rw [List.map_map]
    refine List.map_congr_left fun y hy => ?_
    simp only [Function.comp]
    split
    · next e2 => rw [e, hsame y hy e2]
    · rfl
  have hmem : ∀ y' ∈ (Q.map fun y => if y.key = x.key then x' else y), ∃ y ∈ Q, (y = x ∧ y' = x') ∨ (y ≠ x ∧ y' = y) := fun y' hy' => by
    obtain ⟨y, hy, rfl⟩ := List.mem_map.1 hy'
    refine ⟨y, hy, ?_⟩
    split
    · next e => exact .inl ⟨hsame y hy e, rfl⟩
    · next e => exact .inr ⟨fun e2 => e (by rw [e2]), rfl⟩
  exact { h with
    lt := fun k hk => Nat.lt_of_lt_of_le (h.lt k hk) hf.size
    blk := h.blk.fr hf (Ne.symm b3)
    fs := h.fs.fr hf (fun k hk e => h.dj _ b2 (by rw [← e]; exact hk))
    map := h.map.fr hf (Ne.symm b4)
    pm := by rw [hmap _ CF.ent (by unfold CF.ent; rw [h1, h2, h3])]; exact h.pm
    nd := by rw [hmap _ (·.key) h1]; exact h.nd
    bnd := by rw [hmap _ (·.born) h3]; exact h.bnd
    bclk := fun y' hy' => by
      obtain ⟨y, hy, ⟨rfl, rfl⟩ | ⟨_, rfl⟩⟩ := hmem y' hy'
      · rw [h3]; exact h.bclk y hy
      · exact h.bclk y' hy
    frm := fun y' hy' => by
      obtain ⟨y, hy, ⟨rfl, rfl⟩ | ⟨hne, rfl⟩⟩ := hmem y' hy'
      · rw [h2, ← hc]
        exact ⟨b1.set_ j v, b2, b3, b4⟩
      · obtain ⟨c1, c2, c3⟩ := h.frm y' hy
        exact ⟨c1.fr hf (fun e => hne (nodup_inj h.bn hy hx e)), c2, c3⟩
    bn := by rw [hmap _ (·.blk) h2]; exact h.bn }
/-- a page less -/
theorem CRep.del (h : CRep w cb fb tb X XF room left F most ME Q clk clock) (k : CKey) : CRep (setBlock w tb (.map ((adel k ME).map (ent ckey)).toArray clock)) cb fb tb X XF room left F most (adel k ME) (Q.filter fun x => x.key ≠ k) clk clock := by
  have hf := fr_setBlock w tb (.map ((adel k ME).map (ent ckey)).toArray clock)
  have e1 := adel_filter k h.kn
  exact { h with
    lt := fun k hk => Nat.lt_of_lt_of_le (h.lt k hk) hf.size
    blk := h.blk.fr hf h.ne
    fs := h.fs.fr hf (fun k hk e => h.dj tb h.xt (by rw [← e]; exact hk))
    map := h.map.set _ _
    pm := by
      rw [e1]
      have := h.pm.filter (fun x : Ent CKey => x.1 ≠ k)
      rw [List.filter_map] at this
      exact this
    nd := h.nd.sublist (List.Sublist.map _ List.filter_sublist)
    bnd := h.bnd.sublist (List.Sublist.map _ List.filter_sublist)
    bclk := fun x hx => h.bclk x (List.mem_filter.1 hx).1
    frm := fun x hx => by
      obtain ⟨h1, h2, h3⟩ := h.frm x (List.mem_filter.1 hx).1
      exact ⟨h1.fr hf h3.2, h2, h3⟩
    bn := h.bn.sublist (List.Sublist.map _ List.filter_sublist) }
/-- a page more -/
theorem CRep.add (h : CRep w cb fb tb X XF room left F most ME Q clk clock) (hf : Fr (fun _ => False) w w1) {g : Nat} (x : CF) (hg : x.blk = g) (hbo : x.born = clock) (hge : w.heap.size ≤ g) (hb : Blk w1 g 132 x.cells) (hk : ∀ y ∈ Q, y.key ≠ x.key) :
    CRep (setBlock w1 tb (.map ((aput x.key (ptr g) ME clock).map (ent ckey)).toArray (aclk x.key ME clock))) cb fb tb (fun k => X k ∨ k = g) XF room left F most (aput x.key (ptr g) ME clock) (Q ++ [x]) clk (aclk x.key ME clock) := by
  have hn := h.get_none hk
  have e1 : aput x.key (ptr g) ME clock = ME ++ [(x.key, ptr g, clock)] := by unfold aput; rw [hn]; rfl
  have e2 : aclk x.key ME clock = clock + 1 := by unfold aclk; rw [hn]; rfl
  have hfs := fr_setBlock w1 tb (.map ((aput x.key (ptr g) ME clock).map (ent ckey)).toArray (aclk x.key ME clock))
  have h1 := h.keep hf (fun _ _ h => h)
  have hgt := h.lt tb h.xt
  have hgc := h.lt cb h.xc
  have hxf := h.fs.lt
  exact { h with
    lt := fun k hk => by
      have := hfs.size
      rcases hk with hk | rfl
      · have := h1.lt k hk; omega
      · have := hb.lt; omega
    xc := .inl h.xc
    xt := .inl h.xt
    dj := fun k hk hk2 => by
      rcases hk with hk | rfl
      · exact h.dj k hk hk2
      · have := hxf _ hk2; omega
    blk := h1.blk.fr hfs h.ne
    fs := h1.fs.fr hfs (fun k hk e => h.dj tb h.xt (by rw [← e]; exact hk))
    map := h1.map.set _ _
    pm := by
      rw [e1, List.map_append]
      refine List.Perm.append h.pm ?_
      rw [List.map_cons, List.map_nil, show x.ent = (x.key, ptr g, clock) by unfold CF.ent; rw [hg, hbo]]
    nd := by
      rw [List.map_append]
      refine List.nodup_append.2 ⟨h.nd, by simp, fun a ha b hb e => ?_⟩
      simp at hb
      obtain ⟨y, hy, rfl⟩ := List.mem_map.1 ha
      exact hk y hy (e.trans hb)
    bnd := by
      rw [List.map_append]
      refine List.nodup_append.2 ⟨h.bnd, by simp, fun a ha b hb e => ?_⟩
      simp at hb
      obtain ⟨y, hy, rfl⟩ := List.mem_map.1 ha
      have := h.bclk y hy
      omega
    bclk := fun y hy => by
      rw [e2]
      rcases List.mem_append.1 hy with hy | hy
      · have := h.bclk y hy; omega
      · simp at hy; subst hy; omega
    frm := fun y hy => by
      rcases List.mem_append.1 hy with hy | hy
      · obtain ⟨c1, c2, c3⟩ := h1.frm y hy
        exact ⟨c1.fr hfs c3.2, .inl c2, c3⟩
      · simp at hy
        subst hy
        rw [hg]
        exact ⟨hb.fr hfs (by omega), .inr rfl, by omega, by omega⟩
    bn := by
      rw [List.map_append]
      refine List.nodup_append.2 ⟨h.bn, by simp, fun a ha b hb e => ?_⟩
      simp at hb
      obtain ⟨y, hy, rfl⟩ := List.mem_map.1 ha
      have := h.lt _ (h.frm y hy).2.1
      omega }
end
end Go.Proofs.YtkhbemmcegmdaaaGreatDoor
