/- Parts of the proof of several laws: no conditions of their own. -/
import Derived.Test.YtkhbemmcegmdaaaGreatDoorRows
import Derived.WalkKit
import Derived.WalkSpells
import Derived.WalkLawsBesides
import Derived.Deep.QuietTactic
import Derived.BigQuiet
import Derived.Deep.Draws
import Derived.Laws.MakeOwn
import Derived.Laws.Entries
import Derived.Maps.AppendAt
import Derived.Deep.AppendLies
import Derived.Laws.IdiomStrings
import Derived.Maps.RangeRun
import Derived.WideKeyRuns
import Derived.ChangeMaps4
import Derived.Tactics
section
set_option linter.all false
set_option linter.unusedVariables false
namespace Go.Proofs.YtkhbemmcegmdaaaGreatDoor
open Go.RowKit

theorem hide {p : Prop} (h : p) : Hid p := h

/-- what is new may be anything, what is old is as it was, but for the blocks of S -/
structure Fr (S : Nat → Prop) (w w' : World) : Prop where
  os : w'.os = w.os
  tape : w'.tape = w.tape
  output : w'.output = w.output
  size : w.heap.size ≤ w'.heap.size
  block : ∀ k, k < w.heap.size → ¬ S k → w'.heap[k]? = w.heap[k]?

section
variable {S S' : Nat → Prop} {w w' w'' : World} {a : Addr} {v : Value}
theorem Fr.refl (S : Nat → Prop) (w : World) : Fr S w w := ⟨rfl, rfl, rfl, Nat.le_refl _, fun _ _ _ => rfl⟩
theorem Fr.trans (h : Fr S w w') (k : Fr S' w' w'') (hs : ∀ k, S' k → S k ∨ w.heap.size ≤ k) : Fr S w w'' :=
  ⟨k.os.trans h.os, k.tape.trans h.tape, k.output.trans h.output, Nat.le_trans h.size k.size, fun i hi hn =>
    (k.block i (Nat.lt_of_lt_of_le hi h.size) (fun h' => (hs i h').elim hn (fun h'' => by omega))).trans (h.block i hi hn)⟩
theorem Fr.mono (h : Fr S w w') (hs : ∀ k, S k → S' k) : Fr S' w w' := ⟨h.os, h.tape, h.output, h.size, fun i hi hn => h.block i hi (fun h' => hn (hs i h'))⟩
theorem Fr.then_ (h : Fr S w w') (k : Fr (fun _ => False) w' w'') : Fr S w w'' := h.trans k (fun _ h => h.elim)
theorem Fr.drew (h : Fr S w w') : Fr S w w'.drew := ⟨h.os, h.tape, h.output, h.size, h.block⟩
theorem Fr.drewN (h : Fr S w w') (n : Nat) : Fr S w (w'.drewN n) := ⟨h.os, h.tape, h.output, h.size, h.block⟩
theorem Fr.alloc (h : Fr S w w') (o : Obj) : Fr S w (w'.alloc o) :=
  ⟨h.os, h.tape, h.output, Nat.le_trans h.size (by simp), fun i hi hn => (Below.heap_alloc w' o i (Nat.lt_of_lt_of_le hi h.size)).trans (h.block i hi hn)⟩
theorem Fr.setCell (h : Fr S w w') {p : Addr} (hp : S p.block ∨ w.heap.size ≤ p.block) (u : Value) : Fr S w (w'.setCell p u) :=
  ⟨h.os, h.tape, h.output, by simpa [World.setCell] using h.size, fun i hi hn => (Below.heap_setCell w' p u i (by
    rintro rfl
    exact hp.elim hn (fun h' => by omega))).trans (h.block i hi hn)⟩
theorem Fr.one (w : World) (g i : Nat) (u : Value) : Fr (fun k => k = g) w (w.setCell ⟨g, i, none⟩ u) := (Fr.refl (fun k => k = g) w).setCell (p := ⟨g, i, none⟩) (.inl rfl) u
theorem Fr.of_below (h : Below w.heap.size w w') (S : Nat → Prop) : Fr S w w' := ⟨h.os, h.tape, h.output, h.size, fun i hi _ => h.block i hi⟩
theorem Fr.below (h : Fr S w w') {B : Nat} (hB : B ≤ w.heap.size) (hs : ∀ k, S k → B ≤ k) : Below B w w' :=
  ⟨h.os, h.tape, h.output, h.size, fun i hi => h.block i (by omega) (fun h' => by have := hs i h'; omega)⟩
theorem Fr.of_grown {row : Option Nat} (h : w.grownBy w' row) : Fr (fun k => row = some k) w w' := ⟨h.os, h.tape, h.output, h.size, fun i hi hn => h.block i hi (fun e => hn e.symm)⟩
theorem Fr.grown {row : Option Nat} (h : Fr S w w') (hg : w'.grownBy w'' row) (hs : ∀ k, row = some k → S k ∨ w.heap.size ≤ k) : Fr S w w'' := h.trans (Fr.of_grown hg) hs
theorem Fr.cell (h : Fr S w w') (hc : w.cell? a = some v) (hn : ¬ S a.block) : w'.cell? a = some v :=
  (World.cell?_of_block (w := w) (h.block a.block (World.block_lt_of_cell? w a hc) hn)).trans hc
theorem Fr.frozen (h : Fr S w w') (hlt : a.block < w.heap.size) (hn : ¬ S a.block) : w'.frozen? a = w.frozen? a := World.frozen?_of_block (h.block a.block hlt hn)
end

/-- Block g is just the cells cs of element type t, none frozen. -/
def Blk (w : World) (g : Nat) (t : TypeId) (cs : Array Value) : Prop := w.heap[g]? = some (.cells cs t (0, 0))

section
variable {w w' : World} {g : Nat} {t : TypeId} {cs : Array Value} {S : Nat → Prop}
theorem Blk.raw (h : Blk w g t cs) : w.heap[g]? = some (.cells cs t (0, 0)) := h
theorem Blk.lt (h : Blk w g t cs) : g < w.heap.size := by
  rcases Nat.lt_or_ge g w.heap.size with hlt | hge
  · exact hlt
  · unfold Blk at h; rw [Array.getElem?_eq_none hge] at h; cases h
theorem Blk.cell (h : Blk w g t cs) (i : Nat) : w.cell? ⟨g, i, none⟩ = cs[i]? := cell_of_row w g i cs t (0, 0) h
theorem Blk.frozen (h : Blk w g t cs) (i : Nat) : w.frozen? ⟨g, i, none⟩ = false := by
  unfold Blk at h
  simp [World.frozen?, h]
theorem Blk.new (w : World) (t : TypeId) (cs : Array Value) : Blk (w.alloc (.cells cs t)) w.heap.size t cs := heap_alloc_new w _
theorem Blk.drew (h : Blk w g t cs) : Blk w.drew g t cs := h
theorem Blk.drewN (h : Blk w g t cs) (n : Nat) : Blk (w.drewN n) g t cs := h
theorem Blk.alloc (h : Blk w g t cs) (o : Obj) : Blk (w.alloc o) g t cs := (Below.heap_alloc w o g h.lt).trans h
theorem Blk.set_ (h : Blk w g t cs) (i : Nat) (u : Value) : Blk (w.setCell ⟨g, i, none⟩ u) g t (cs.setIfInBounds i u) := by
  unfold Blk at h ⊢
  simp [World.setCell, Array.getElem?_modify, h]
theorem Blk.far (h : Blk w g t cs) {p : Addr} (hp : g ≠ p.block) (u : Value) : Blk (w.setCell p u) g t cs := (Below.heap_setCell w p u g hp).trans h
theorem Blk.fr (h : Blk w g t cs) (hf : Fr S w w') (hn : ¬ S g) : Blk w' g t cs := (hf.block g h.lt hn).trans h
theorem Blk.below {B : Nat} (h : Blk w g t cs) (hb : Below B w w') (hg : g < B) : Blk w' g t cs := (hb.block g hg).trans h
theorem Blk.ne_ {g' : Nat} {t' : TypeId} {cs' : Array Value} (h : Blk w g t cs) (h' : Blk w g' t' cs') (hne : t ≠ t') : g ≠ g' := by
  rintro rfl
  unfold Blk at h h'
  rw [h] at h'
  injection h' with h'
  injection h' with _ ht
  exact hne ht
end

/-- The slice value '.slice A n c' holds the cells xs (size cells an element), below block B. -/
def Reads (w : World) (B size : Nat) (A : Option Addr) (n : Nat) (xs : List Value) : Prop :=
  xs.length = n * size ∧ (0 < n → ∃ b o, A = some ⟨b, o, none⟩ ∧ b < B ∧ ∀ j u, xs[j]? = some u → w.cell? ⟨b, o + j, none⟩ = some u)

section
variable {w w' : World} {B B' size n : Nat} {A : Option Addr} {xs : List Value}
theorem Reads.none_ : Reads w B size A 0 [] := ⟨by simp, fun h => absurd h (by omega)⟩
theorem Reads.at_ {k : Nat} (h : Reads w B 1 A n xs) (hk : k < n) : ∃ b o u, A = some ⟨b, o, none⟩ ∧ b < B ∧ xs[k]? = some u ∧ w.cell? ⟨b, o + k, none⟩ = some u := by
  obtain ⟨b, o, e, hb, hc⟩ := h.2 (by omega)
  have hl : k < xs.length := by have := h.1; omega
  exact ⟨b, o, xs[k], e, hb, List.getElem?_eq_getElem hl, hc k _ (List.getElem?_eq_getElem hl)⟩
theorem Reads.keep (h : Reads w B size A n xs) (hk : ∀ p : Addr, p.block < B → w'.cell? p = w.cell? p) : Reads w' B size A n xs :=
  ⟨h.1, fun hn => by
    obtain ⟨b, o, e, hb, hc⟩ := h.2 hn
    exact ⟨b, o, e, hb, fun j u hu => (hk _ hb).trans (hc j u hu)⟩⟩
theorem Reads.more (h : Reads w B size A n xs) (hB : B ≤ B') : Reads w B' size A n xs :=
  ⟨h.1, fun hn => by
    obtain ⟨b, o, e, hb, hc⟩ := h.2 hn
    exact ⟨b, o, e, by omega, hc⟩⟩
theorem Reads.below (h : Reads w B size A n xs) (hb : Below B w w') : Reads w' B size A n xs := h.keep fun _ hp => hb.cell hp
theorem Reads.own_val {w : World} {base size n : Nat} {v : Value} {xs : List Value} {e : TypeId} (h : w.ownsRow base e size v n xs) : ∃ A c, v = .slice A n c := by
  rcases h.2 with ⟨rfl, rfl⟩ | ⟨g, cap, cur, rfl, _⟩
  · exact ⟨_, _, rfl⟩
  · exact ⟨_, _, rfl⟩
theorem Reads.fr {S : Nat → Prop} (h : Reads w B size A n xs) (hf : Fr S w w') (hB : B ≤ w.heap.size) (hs : ∀ k, S k → B ≤ k) : Reads w' B size A n xs := h.below (hf.below hB hs)
theorem Reads.up {w w' : World} {size n : Nat} {A : Option Addr} {xs : List Value} (h : Reads w w.heap.size size A n xs) (hf : Fr (fun _ => False) w w') : Reads w' w'.heap.size size A n xs :=
  (h.fr hf (Nat.le_refl _) (fun _ h => h.elim)).more hf.size
theorem Reads.of_own {w : World} {base size n c : Nat} {A : Option Addr} {xs : List Value} {e : TypeId} (h : w.ownsRow base e size (.slice A n c) n xs) : Reads w w.heap.size size A n xs := by
  refine ⟨h.1, fun hn => ?_⟩
  obtain ⟨g, cap, hv, _, hlt⟩ := h.form hn
  have hA : A = some ⟨g, 0, none⟩ := by injection hv
  subst hA
  refine ⟨g, 0, rfl, hlt, fun j u hu => ?_⟩
  have := h.cells (g := g) rfl j u hu
  rwa [Addr.add_lit] at this
theorem Reads.blk {w : World} {g n : Nat} {t : TypeId} {xs : List Value} (h : Blk w g t xs.toArray) (hl : xs.length = n) : Reads w w.heap.size 1 (some ⟨g, 0, none⟩) n xs :=
  ⟨by omega, fun _ => ⟨g, 0, rfl, h.lt, fun j u hu => by rw [Nat.zero_add, h.cell]; simpa using hu⟩⟩
end

theorem wpList_want {P : Program} {ops : Array Oper} {rest : List Oper} {o : Oper} {a : Act} {w : World} {Q : Exit → Act → World → Prop} (hw : Region.wanted o (yielded ops a.tmps) = true)
    (h : ∀ K : Act → World → Prop, (∀ a w, wpList P ops Q rest a w → K a w) → o.wp P a w K Q) : wpList P ops Q (o :: rest) a w :=
  wpList_step fun K hK => by rw [if_pos hw]; exact h K hK

theorem wpList_load_row_g {P : Program} {ops : Array Oper} {rest : List Oper} {o : Oper} {a : Act} {w : World} {Q : Exit → Act → World → Prop} (hw : Region.wanted o (yielded ops a.tmps) = true) (ty : TypeId) (x : Operand) (ho : o.op = .load ty x)
    (g : Nat) (hx : a.eval x = .pointer (some ⟨g, 0, none⟩)) (t : TypeId) (cs : Array Value) (fr : Nat × Nat) (d : TypeDesc) (hg : w.heap[g]? = some (.cells cs t fr))
    (hu : P.underlying ty = some d) (hd : (match d with | .struct _ | .array _ _ => true | _ => false) = true) (hi : (P.info? ty).map (·.size) = some cs.size)
    (h : wpList P ops Q rest (a.put o.dst (.agg cs)) w) : wpList P ops Q (o :: rest) a w :=
  wpList_want hw fun _ hK => wp_load_row ty x ho g hx t cs fr d hg hu hd hi (hK _ _ h)

/-- 'append(out, xs...)', out the call's own, xs any slice that can be read -/
theorem run_append_of_nil {P : Program} (w : World) (base : Nat) (t ty e : TypeId) (i : TypeInfo) (size : Nat) (ht : P.underlying t = some (.slice e)) (hi : P.info? e = some i)
    (v : Value) (n : Nat) (xs : List Value) (hown : w.ownsRow base e size v n xs) (c : Nat) : (Builtin.append_ #[t, t] ty #[v, .slice none 0 c]).run P w = .ok v w := by
  rcases hown.2 with ⟨rfl, rfl⟩ | ⟨g, cap, cur, rfl, _, _, hnc, _⟩
  · simp [Builtin.append_, run_underlying ht, sizeOf, typeInfo, hi, Builtin.lenOf, Builtin.firstCells]
  · simp [Builtin.append_, run_underlying ht, sizeOf, typeInfo, hi, Builtin.lenOf, Builtin.firstCells, hnc, storeCells]
theorem run_append_reads {P : Program} (w : World) (base : Nat) (t ty e : TypeId) (i : TypeInfo) (z : Value) (size bytes : Nat) (ht : P.underlying t = some (.slice e)) (hi : P.info? e = some i) (hz : i.zero = some z)
    (hsize : i.size = size) (hby : i.bytes = bytes) (hzs : z.cells.size = size) (hsz : 0 < size)
    (v : Value) (n : Nat) (xs : List Value) (hown : w.ownsRow base e size v n xs)
    (B : Nat) (A : Option Addr) (m c : Nat) (news : List Value) (hr : Reads w B size A m news) (h1 : ∀ u ∈ news, u.oneCell' = true)
    (h63 : n + m ≤ maxLen) (hbytes : (n + m) * bytes ≤ 140737488355328) (hbase : base ≤ w.heap.size) :
    ∃ v' w', (Builtin.append_ #[t, t] ty #[v, .slice A m c]).run P w = .ok v' w' ∧ w'.ownsRow base e size v' (n + m) (xs ++ news) ∧ w.grownBy w' v.ownBlock ∧
      (v'.ownBlock = v.ownBlock ∨ v'.ownBlock = some w.heap.size) := by
  rcases A with _ | ad
  · have hm : m = 0 := by
      rcases Nat.eq_zero_or_pos m with h0 | h0
      · exact h0
      · obtain ⟨b, o, h, _⟩ := hr.2 h0
        cases h
    subst hm
    have hn : news = [] := List.eq_nil_of_length_eq_zero (by simpa using hr.1)
    subst hn
    exact ⟨v, w, run_append_of_nil w base t ty e i size ht hi v n xs hown c, by simpa using hown, World.grownBy.refl w _, .inl rfl⟩
  · have hcells : ∀ j u, news[j]? = some u → w.cell? (ad.add j) = some u := by
      intro j u hu
      rcases Nat.eq_zero_or_pos m with h0 | h0
      · subst h0
        have hn : news = [] := List.eq_nil_of_length_eq_zero (by simpa using hr.1)
        subst hn
        simp at hu
      · obtain ⟨b, o, h, _, hc⟩ := hr.2 h0
        injection h with h
        subst h
        rw [Addr.add_lit]
        exact hc j u hu
    obtain ⟨v', w', hrun, h2, h3, _, h5⟩ := run_append_own_at (P := P) w base t ty e i z size bytes ht hi hz hsize hby hzs hsz v n xs hown ad m c news hr.1 hcells h1 h63 hbytes hbase
    exact ⟨v', w', hrun, h2, h3, h5⟩
theorem wpList_append_reads {P : Program} {w : World} {ops : Array Oper} {rest : List Oper} {o : Oper} {a : Act} {Q : Exit → Act → World → Prop} (hgd : Region.wanted o (yielded ops a.tmps) = true) (s x : Operand) (t : TypeId)
    (ho : o.op = .call { callee := .builtin .append, args := #[s, x], argTypes := #[t, t] })
    (base : Nat) (e : TypeId) (i : TypeInfo) (z : Value) (size bytes : Nat) (ht : P.underlying t = some (.slice e)) (hi : P.info? e = some i) (hz : i.zero = some z)
    (hsize : i.size = size) (hby : i.bytes = bytes) (hzs : z.cells.size = size) (hsz : 0 < size)
    (v : Value) (n : Nat) (xs : List Value) (hs : a.eval s = v) (hown : w.ownsRow base e size v n xs)
    (B : Nat) (A : Option Addr) (m c : Nat) (news : List Value) (hx : a.eval x = .slice A m c) (hr : Reads w B size A m news) (h1 : ∀ u ∈ news, u.oneCell' = true)
    (h63 : n + m ≤ maxLen) (hbytes : (n + m) * bytes ≤ 140737488355328) (hbase : base ≤ w.heap.size)
    (h : ∀ v' w', w'.ownsRow base e size v' (n + m) (xs ++ news) → w.grownBy w' v.ownBlock → (v'.ownBlock = v.ownBlock ∨ v'.ownBlock = some w.heap.size) → wpList P ops Q rest (a.put o.dst v') w') : wpList P ops Q (o :: rest) a w := by
  refine wpList_want hgd fun K hK => ?_
  obtain ⟨v', w', hrun, h2, h3, h4⟩ := run_append_reads (P := P) w base t o.type e i z size bytes ht hi hz hsize hby hzs hsz v n xs hown B A m c news hr h1 h63 hbytes hbase
  unfold Oper.wp execOp
  simp only [ho, resolve, invoke, builtin, Sem.run_bind, Sem.run_pure, Result.andThen_ok, List.map_toArray, List.map_cons, List.map_nil, hs, hx, hrun]
  exact hK _ _ (h v' w' h2 h3 h4)

theorem madeCells_one (z : Value) (n : Nat) : madeCells #[z] n = (List.replicate n z).toArray := by
  apply Array.ext
  · simp [madeCells]
  · intro i h1 h2
    simp [madeCells, Nat.mod_one]

/-- 'arr[k]', arr an array value of one-cell elements, of integers -/
theorem run_index_arr {P : Program} (w : World) (t e : TypeId) (n : Nat) (kd kk : IntKind) (i : TypeInfo) (cs : Array Value) (k : Nat) (v : Value) (h : P.underlying t = some (.array n e)) (he : P.underlying e = some (.int kd))
    (hi : P.info? e = some i) (h1 : i.size = 1) (hk : k < n) (hv : cs[k]? = some v) : (Instr.index t (.agg cs) (.int kk k)).run P w = .ok v w := by
  have hn : (0 : Int) ≤ (k : Int) ∧ (k : Int) < (n : Int) := by omega
  simp [Instr.index, run_underlying h, asIntOf, hn, go_sem, part, isAgg, run_underlying he, sizeOf, typeInfo, hi, h1, hv]
  omega

/-- 'out = append(out, x)', out the call's own, x laid into a block of its own just before -/
theorem wpList_append_box {P : Program} {ops : Array Oper} {rest : List Oper} {o : Oper} {a : Act} {Q : Exit → Act → World → Prop} (W : World) (cs : Array Value) (e2 : TypeId) (hgd : Region.wanted o (yielded ops a.tmps) = true) (s x : Operand) (t : TypeId)
    (ho : o.op = .call { callee := .builtin .append, args := #[s, x], argTypes := #[t, t] })
    (base : Nat) (e : TypeId) (i : TypeInfo) (z : Value) (size bytes : Nat) (ht : P.underlying t = some (.slice e)) (hi : P.info? e = some i) (hz : i.zero = some z)
    (hsize : i.size = size) (hby : i.bytes = bytes) (hzs : z.cells.size = size) (hsz : 0 < size)
    (v : Value) (n : Nat) (xs : List Value) (hs : a.eval s = v) (hown : W.ownsRow base e size v n xs)
    (hx : a.eval x = .slice (some ⟨W.heap.size, 0, none⟩) 1 1) (hl : cs.size = size) (h1 : ∀ u ∈ cs.toList, u.oneCell' = true)
    (h63 : n + 1 ≤ maxLen) (hbytes : (n + 1) * bytes ≤ 140737488355328) (hbase : base ≤ W.heap.size)
    (h : ∀ v' w', w'.ownsRow base e size v' (n + 1) (xs ++ cs.toList) → W.grownBy w' v.ownBlock → (v'.ownBlock = v.ownBlock ∨ v'.ownBlock = some (W.heap.size + 1)) → wpList P ops Q rest (a.put o.dst v') w') :
    wpList P ops Q (o :: rest) a (W.alloc (.cells cs e2)) := by
  refine wpList_want hgd fun K hK => ?_
  obtain ⟨v', w', hr, h2, h3, _, h5⟩ := run_append_own_at (P := P) (W.alloc (.cells cs e2)) base t o.type e i z size bytes ht hi hz hsize hby hzs hsz v n xs (hown.alloc _) ⟨W.heap.size, 0, none⟩ 1 1 cs.toList (by simp [hl]) (by
    intro j u hu
    rw [Addr.add_lit, Nat.zero_add, cell_of_row _ W.heap.size j cs e2 (0, 0) (heap_alloc_new W _)]
    simpa using hu) h1 h63 hbytes (by simp; omega)
  unfold Oper.wp execOp
  simp only [ho, resolve, invoke, builtin, Sem.run_bind, Sem.run_pure, Result.andThen_ok, List.map_toArray, List.map_cons, List.map_nil, hs, hx, hr]
  refine hK _ _ (h v' w' h2 ⟨h3.os, h3.tape, h3.output, Nat.le_trans (by simp) h3.size, fun k hk hn => (h3.block k (by simp; omega) hn).trans (Below.heap_alloc W _ k hk)⟩ ?_)
  simpa using h5

/-- 'string([]byte{c})' -/
theorem run_str1 {P : Program} (W : World) (src dst e e2 : TypeId) (z : Int) (h0 : 0 ≤ z) (h1 : z < 256) (hs : P.underlying src = some (.slice e)) (he : P.underlying e = some (.int .u8)) (hd : P.underlying dst = some .string) :
    (convert src dst (.slice (some ⟨W.heap.size, 0, none⟩) 1 1)).run P (W.alloc (.cells #[.int .u8 z] e2)) = .ok (.string ⟨#[UInt8.ofNat z.toNat]⟩) (W.alloc (.cells #[.int .u8 z] e2)) := by
  have h := run_convert_bytes_back (P := P) (W.alloc (.cells #[.int .u8 z] e2)) src dst e ⟨W.heap.size, 0, none⟩ 1 [UInt8.ofNat z.toNat] hs he hd (by
    intro j hj
    obtain rfl : j = 0 := by simpa using hj
    rw [show (⟨W.heap.size, 0, none⟩ : Addr).add 0 = ⟨W.heap.size, 0, none⟩ from rfl, cell_of_row _ W.heap.size 0 #[.int .u8 z] e2 (0, 0) (heap_alloc_new W _)]
    simp
    omega)
  exact h

theorem bytes_append (a b : List UInt8) : (⟨a.toArray⟩ : ByteArray) ++ ⟨b.toArray⟩ = ⟨(a ++ b).toArray⟩ := by
  apply ByteArray.ext
  simp [ByteArray.data_append]

/-- 'make' of n elements, of any size -/
theorem run_make_rowN {P : Program} (t e : TypeId) (i : TypeInfo) (z : Value) (ht : P.underlying t = some (.slice e)) (hi : P.info? e = some i) (hz : i.zero = some z)
    (kl kc : IntKind) (n c : Nat) (hnc : n ≤ c) (hbytes : i.bytes * c ≤ 281474976710656) (h63 : c ≤ 9223372036854775807) (w : World) :
    (Instr.makeSlice t (.int kl (n : Int)) (.int kc (c : Int))).run P w = .ok (.slice (some ⟨w.heap.size, 0, none⟩) n c) (w.alloc (.cells (madeCells z.cells (c * i.size)) e)) := by
  have hb : (i.bytes : Int) * (c : Int) ≤ 281474976710656 := by
    have h : ((i.bytes * c : Nat) : Int) ≤ 281474976710656 := by omega
    rwa [Int.natCast_mul] at h
  have hr := run_make (P := P) w t e i z ht hi hz kl kc n c (by omega) (by omega) hb (by omega)
  simp only [Int.toNat_natCast] at hr
  exact hr
end Go.Proofs.YtkhbemmcegmdaaaGreatDoor
end
section
set_option linter.all false
set_option linter.unusedVariables false
set_option maxRecDepth 100000
namespace Go.Proofs.YtkhbemmcegmdaaaGreatDoor
open Go.RowKit
open Go.ChangeMaps (setBlock)

section
set_option linter.unusedSectionVars false
variable {α : Type} [DecidableEq α]
/-- an entry: its key, its value, when it was born -/
abbrev Ent (α : Type) := α × Value × Nat
def ent (enc : α → Value) (x : Ent α) : MapEntry := { key := enc x.1, val := x.2.1, born := x.2.2 }
def look (k : α) : List (Ent α) → Nat → Option (Nat × Value)
  | [], _ => none
  | x :: L, i => if k = x.1 then some (i, x.2.1) else look k L (i + 1)
/-- the value at a key -/
def aget (k : α) : List (Ent α) → Option Value
  | [] => none
  | x :: L => if k = x.1 then some x.2.1 else aget k L
/-- the value at a key that is there turned -/
def aset (k : α) (v : Value) : List (Ent α) → List (Ent α)
  | [] => []
  | x :: L => if k = x.1 then (k, v, x.2.2) :: L else x :: aset k v L
def adel (k : α) : List (Ent α) → List (Ent α)
  | [] => []
  | x :: L => if k = x.1 then L else x :: adel k L
theorem look_get (k : α) : ∀ (L : List (Ent α)) (i : Nat), (look k L i).map (·.2) = aget k L
  | [], _ => rfl
  | x :: L, i => by
    unfold look aget
    split
    · rfl
    · exact look_get k L (i + 1)
theorem look_some {k : α} {v : Value} : ∀ {L : List (Ent α)} {i j : Nat}, look k L i = some (j, v) → i ≤ j ∧ ∀ w : Value, (L.map (ent (fun _ : α => w))).length = L.length
  | [], i, j, h => by cases h
  | x :: L, i, j, h => by
    unfold look at h
    split at h
    · injection h with h; injection h with h1 h2; exact ⟨by omega, fun w => by simp⟩
    · exact ⟨by have := (look_some h).1; omega, fun w => by simp⟩
theorem set_modify (enc : α → Value) {k : α} {v v0 : Value} : ∀ {L : List (Ent α)} {i j : Nat}, look k L i = some (j, v0) →
    (L.map (ent enc)).modify (j - i) (fun e => { e with key := enc k, val := v }) = (aset k v L).map (ent enc)
  | [], i, j, h => by cases h
  | x :: L, i, j, h => by
    unfold look at h
    unfold aset
    split at h
    · next hk =>
      injection h with h; injection h with h1 h2
      subst h1
      rw [if_pos hk, Nat.sub_self]
      rfl
    · next hk =>
      have hj := (look_some h).1
      have ih := set_modify enc (v := v) h
      rw [if_neg hk, show j - i = (j - (i + 1)) + 1 by omega]
      rw [List.map_cons, List.modify_succ_cons, ih, List.map_cons]
theorem del_erase (enc : α → Value) {k : α} {v0 : Value} : ∀ {L : List (Ent α)} {i j : Nat}, look k L i = some (j, v0) →
    (L.map (ent enc)).eraseIdx (j - i) = (adel k L).map (ent enc)
  | [], i, j, h => by cases h
  | x :: L, i, j, h => by
    unfold look at h
    unfold adel
    split at h
    · next hk =>
      injection h with h; injection h with h1 h2
      subst h1
      rw [if_pos hk, Nat.sub_self]
      rfl
    · next hk =>
      have hj := (look_some h).1
      have ih := del_erase enc h
      rw [if_neg hk, show j - i = (j - (i + 1)) + 1 by omega]
      rw [List.map_cons, List.eraseIdx_cons_succ, ih, List.map_cons]
theorem look_none {k : α} : ∀ {L : List (Ent α)} {i : Nat}, look k L i = none → adel k L = L
  | [], _, _ => rfl
  | x :: L, i, h => by
    unfold look at h
    unfold adel
    split at h
    · cases h
    · next hk => rw [if_neg hk, look_none h]
theorem look_lt {k : α} {v : Value} : ∀ {L : List (Ent α)} {i j : Nat}, look k L i = some (j, v) → j < i + L.length
  | [], i, j, h => by cases h
  | x :: L, i, j, h => by
    unfold look at h
    split at h
    · injection h with h; injection h with h1 h2; simp; omega
    · have := look_lt h; simp; omega
theorem look_at {k : α} {v : Value} (enc : α → Value) : ∀ {L : List (Ent α)} {i j : Nat}, look k L i = some (j, v) → ((L.map (ent enc))[j - i]?).map (·.key) = some (enc k)
  | [], i, j, h => by cases h
  | x :: L, i, j, h => by
    unfold look at h
    split at h
    · next hk =>
      injection h with h; injection h with h1 h2
      subst h1
      rw [Nat.sub_self, hk]
      rfl
    · have hj := (look_some h).1
      have ih := look_at enc h
      rw [show j - i = (j - (i + 1)) + 1 by omega]
      simpa using ih
/-- how a key's type is told apart -/
structure KeyE (P : Program) (kt : TypeId) (enc : α → Value) : Prop where
  check : ∀ (k : α) (e : Bool) (w : World), (Instr.checkKey e 10000 kt (enc k)).run P w = .ok () w
  find : ∀ (k : α) (L : List (Ent α)) (w : World), (Instr.findKey kt (enc k) (L.map (ent enc))).run P w = .ok (look k L 0) w
  bits : ∀ k : α, Instr.sameBits 10000 (enc k) (enc k) = true
/-- block b is a map of just these entries, in this order -/
def MBlk (w : World) (b : Nat) (enc : α → Value) (L : List (Ent α)) (clock : Nat) : Prop := w.heap[b]? = some (.map (L.map (ent enc)).toArray clock)
section
variable {P : Program} {kt et mt : TypeId} {enc : α → Value} {w w' : World} {b clock : Nat} {L : List (Ent α)} {S : Nat → Prop}
theorem MBlk.lt (h : MBlk w b enc L clock) : b < w.heap.size := by
  rcases Nat.lt_or_ge b w.heap.size with h1 | h1
  · exact h1
  · unfold MBlk at h; rw [Array.getElem?_eq_none h1] at h; cases h
theorem MBlk.fr (h : MBlk w b enc L clock) (hf : Fr S w w') (hs : ¬ S b) : MBlk w' b enc L clock := (hf.block b h.lt hs).trans h
theorem MBlk.set (h : MBlk w b enc L clock) (M : List (Ent α)) (c : Nat) : MBlk (setBlock w b (.map (M.map (ent enc)).toArray c)) b enc M c := by
  unfold MBlk setBlock
  simp only
  rw [Array.getElem?_setIfInBounds_self_of_lt h.lt]
theorem fr_setBlock (w : World) (b : Nat) (o : Obj) : Fr (fun k => k = b) w (setBlock w b o) :=
  ⟨rfl, rfl, rfl, by simp [setBlock], fun k hk hn => by
    unfold setBlock
    simp only
    rw [Array.getElem?_setIfInBounds_ne (by omega)]⟩
theorem lookup_ok (K : KeyE P kt enc) (ht : P.underlying mt = some (.map kt et)) {z : Value} (hz : ∀ w, (zeroValue et).run P w = .ok z w) (hb : MBlk w b enc L clock) (k : α) :
    (Instr.lookup mt (.map (some b)) (enc k) true).run P w = .ok (.tuple #[(aget k L).getD z, .bool (aget k L).isSome]) w := by
  have hl := look_get k L 0
  simp only [Instr.lookup, Sem.run_bind, run_underlying ht, Result.andThen, MapKept.run_getObj_map hb, K.check, List.toList_toArray, K.find]
  cases h : look k L 0 with
  | none => rw [h] at hl; rw [← hl]; simp [K.find, h, hz]
  | some x => rw [h] at hl; rw [← hl]; simp [K.find, h]
theorem lookup_v (K : KeyE P kt enc) (ht : P.underlying mt = some (.map kt et)) {z : Value} (hz : ∀ w, (zeroValue et).run P w = .ok z w) (hb : MBlk w b enc L clock) (k : α) :
    (Instr.lookup mt (.map (some b)) (enc k) false).run P w = .ok ((aget k L).getD z) w := by
  have hl := look_get k L 0
  simp only [Instr.lookup, Sem.run_bind, run_underlying ht, Result.andThen, MapKept.run_getObj_map hb, K.check, List.toList_toArray, K.find]
  cases h : look k L 0 with
  | none => rw [h] at hl; rw [← hl]; simp [K.find, h, hz]
  | some x => rw [h] at hl; rw [← hl]; simp [K.find, h]
/-- behind a store -/
def aput (k : α) (v : Value) (L : List (Ent α)) (clock : Nat) : List (Ent α) := if (aget k L).isSome then aset k v L else L ++ [(k, v, clock)]
def aclk (k : α) (L : List (Ent α)) (clock : Nat) : Nat := if (aget k L).isSome then clock else clock + 1
theorem update_ok (K : KeyE P kt enc) (ht : P.underlying mt = some (.map kt et)) (hb : MBlk w b enc L clock) (k : α) (v : Value) :
    (Instr.mapUpdate mt (.map (some b)) (enc k) v).run P w = .ok () (setBlock w b (.map ((aput k v L clock).map (ent enc)).toArray (aclk k L clock))) := by
  have hl := look_get k L 0
  simp only [Instr.mapUpdate, Sem.run_bind, run_underlying ht, Result.andThen, MapKept.run_getObj_map hb, K.check, List.toList_toArray, K.find]
  cases h : look k L 0 with
  | none =>
    rw [h] at hl
    unfold aput aclk
    rw [← hl]
    simp only [Option.map_none, Option.isSome_none, Bool.false_eq_true, if_false]
    rw [MapKept.run_setObj_map _ hb]
    simp [setBlock, ent]
  | some x =>
    obtain ⟨j, v0⟩ := x
    rw [h] at hl
    unfold aput aclk
    rw [← hl]
    have hat := look_at enc h
    have hmd := set_modify enc (v := v) h
    rw [Nat.sub_zero] at hat hmd
    simp only [Option.map_some, Option.isSome_some, if_true, List.getElem?_toArray, hat, Option.getD_some]
    have hks : (Instr.keyThatStays (enc k) (enc k)).run P w = .ok (enc k) w := by simp [Instr.keyThatStays, K.bits]
    simp only [Sem.run_bind, hks, Result.andThen, MapKept.run_setObj_map _ hb, List.modify_toArray, hmd]
    rfl
theorem delete_ok (K : KeyE P kt enc) (ht : P.underlying mt = some (.map kt et)) (hb : MBlk w b enc L clock) (k : α) (ty : TypeId) :
    (Builtin.delete_ #[mt, kt] ty #[.map (some b), enc k]).run P w = .ok (.tuple #[]) (setBlock w b (.map ((adel k L).map (ent enc)).toArray clock)) := by
  simp only [Builtin.delete_, List.getElem?_toArray, List.getElem?_cons_zero, List.getElem?_cons_succ, Sem.run_bind, run_underlying ht, Result.andThen, MapKept.run_getObj_map hb, K.check, List.toList_toArray, K.find]
  cases h : look k L 0 with
  | none =>
    simp only [look_none h, Sem.run_bind, MapKept.run_setObj_map _ hb, Result.andThen]
    rfl
  | some x =>
    obtain ⟨j, v0⟩ := x
    have hde := del_erase enc h
    have hlt := look_lt h
    rw [Nat.sub_zero] at hde
    rw [Nat.zero_add] at hlt
    simp only [Sem.run_bind, MapKept.run_setObj_map _ hb, Result.andThen]
    have : (L.map (ent enc)).toArray.eraseIdxIfInBounds j = ((adel k L).map (ent enc)).toArray := by
      unfold Array.eraseIdxIfInBounds
      rw [dif_pos (by simpa using hlt), List.eraseIdx_toArray, hde]
    rw [this]
    rfl
theorem len_ok (ht : P.underlying mt = some (.map kt et)) (hb : MBlk w b enc L clock) (ty : TypeId) : (Builtin.len_ #[mt] ty #[.map (some b)]).run P w = .ok (.int .i64 (L.length : Int)) w := by
  simp [Builtin.len_, run_underlying ht, MapKept.run_getObj_map hb, goInt]
end
theorem key_now {P : Program} {kt : TypeId} {d : TypeDesc} {enc : α → Value} (ht : P.underlying kt = some d) (hk : ∀ k, MapKept.IsKey d (enc k)) (hi : ∀ a b, enc a = enc b → a = b) (hb : ∀ k : α, Instr.sameBits 10000 (enc k) (enc k) = true) : KeyE P kt enc where
  check k e w := MapKept.run_checkKey ht (hk k) e 9999
  find k L w := by
    refine MapKept.run_findKey ht ?_
    have : ∀ (L : List (Ent α)) (i : Nat), Instr.findNow d (enc k) (L.map (ent enc)) i = some (look k L i) := by
      intro L
      induction L with
      | nil => intro i; rfl
      | cons x L ih =>
        intro i
        obtain ⟨r, hr, hr2⟩ := MapKept.sameNow_of_keys (hk k) (hk x.1)
        rw [List.map_cons]
        unfold Instr.findNow look
        rw [show (ent enc x).key = enc x.1 from rfl, hr]
        by_cases h : k = x.1
        · rw [if_pos h, hr2.2 (by rw [h])]
          rfl
        · rw [if_neg h]
          cases hrr : r with
          | true => exact absurd (hi _ _ (hr2.1 hrr)) h
          | false => exact ih (i + 1)
    exact this L 0
  bits := hb
end
/-- a string, an int as a key -/
def strk (l : List UInt8) : Value := .string ⟨l.toArray⟩
theorem strk_inj {a b : List UInt8} (h : strk a = strk b) : a = b := by
  unfold strk at h
  injection h with h
  injection h with h
  simpa using h
theorem key_string {P : Program} {kt : TypeId} (ht : P.underlying kt = some .string) : KeyE P kt strk :=
  key_now ht (fun k => by simp [MapKept.IsKey, strk]) (fun a b h => strk_inj h) (fun k => by simp [Instr.sameBits, strk, MapKept.bytes_beq])
theorem key_int {P : Program} {kt : TypeId} {q : IntKind} (ht : P.underlying kt = some (.int q)) : KeyE P kt (fun z : Int => .int q z) :=
  key_now ht (fun k => by simp [MapKept.IsKey]) (fun a b h => by injection h) (fun k => by simp [Instr.sameBits])
end Go.Proofs.YtkhbemmcegmdaaaGreatDoor
end
section
set_option linter.all false
namespace Go.Proofs.YtkhbemmcegmdaaaGreatDoor.Crc
def up (r : Nat) : Nat := r / 2 ^^^ (if r % 2 = 1 then 3988292384 else 0)
def inn (r c : Nat) : Nat := up (up (up (up (up (up (up (up (r ^^^ c))))))))
def goes (r : Nat) (l : List Nat) : Nat := l.foldl inn r

theorem xor_zero {a b : Nat} (h : a ^^^ b = 0) : a = b := by
  have := congrArg (· ^^^ b) h
  simpa [Nat.xor_assoc] using this
theorem up_lt {r : Nat} (h : r < 4294967296) : up r < 4294967296 := by
  unfold up
  exact Nat.xor_lt_two_pow (n := 32) (by omega) (by split <;> omega)
theorem up_zero : up 0 = 0 := rfl
theorem up_xor (a b : Nat) : up (a ^^^ b) = up a ^^^ up b := by
  unfold up
  rw [Nat.xor_div_two]
  have h : (a ^^^ b) % 2 = (a % 2) ^^^ (b % 2) := by
    have := Nat.xor_mod_two_pow (a := a) (b := b) (n := 1)
    simpa using this
  rw [h]
  rcases Nat.mod_two_eq_zero_or_one a with ha | ha <;> rcases Nat.mod_two_eq_zero_or_one b with hb | hb <;> simp only [ha, hb] <;> simp
  · ac_rfl
  · ac_rfl
  · rw [show a / 2 ^^^ 3988292384 ^^^ (b / 2 ^^^ 3988292384) = (a / 2 ^^^ b / 2) ^^^ (3988292384 ^^^ 3988292384) by ac_rfl]
    simp
theorem up_two (x : Nat) : up (2 * x) = x := by
  unfold up
  simp
theorem up_ne {r : Nat} (h : r < 4294967296) (h0 : r ≠ 0) : up r ≠ 0 := by
  unfold up
  intro e
  split at e
  · have : r / 2 = 3988292384 := xor_zero e
    omega
  · simp at e
    omega

/-- eight steps -/
def up8 (r : Nat) : Nat := up (up (up (up (up (up (up (up r)))))))
theorem up8_lt {r : Nat} (h : r < 4294967296) : up8 r < 4294967296 := up_lt (up_lt (up_lt (up_lt (up_lt (up_lt (up_lt (up_lt h)))))))
theorem up8_xor (a b : Nat) : up8 (a ^^^ b) = up8 a ^^^ up8 b := by simp only [up8, up_xor]
theorem up8_zero : up8 0 = 0 := rfl
theorem up8_ne {r : Nat} (h : r < 4294967296) (h0 : r ≠ 0) : up8 r ≠ 0 :=
  up_ne (up_lt (up_lt (up_lt (up_lt (up_lt (up_lt (up_lt h))))))) (up_ne (up_lt (up_lt (up_lt (up_lt (up_lt (up_lt h)))))) (up_ne (up_lt (up_lt (up_lt (up_lt (up_lt h))))) (up_ne (up_lt (up_lt (up_lt (up_lt h)))) (up_ne (up_lt (up_lt (up_lt h))) (up_ne (up_lt (up_lt h)) (up_ne (up_lt h) (up_ne h h0)))))))
theorem up8_256 (x : Nat) : up8 (256 * x) = x := by
  unfold up8
  rw [show 256 * x = 2 * (2 * (2 * (2 * (2 * (2 * (2 * (2 * x))))))) by omega]
  simp only [up_two]
theorem inn_eq (r c : Nat) : inn r c = up8 (r ^^^ c) := rfl
theorem inn_lt {r c : Nat} (h : r < 4294967296) (hc : c < 256) : inn r c < 4294967296 := up8_lt (Nat.xor_lt_two_pow (n := 32) (by omega) (by omega))
theorem goes_lt {l : List Nat} : ∀ {r : Nat}, r < 4294967296 → (∀ c ∈ l, c < 256) → goes r l < 4294967296 := by
  induction l with
  | nil => intro r h _; exact h
  | cons c l ih => intro r h hl; exact ih (inn_lt h (hl c (by simp))) (fun x hx => hl x (by simp [hx]))
theorem goes_append (r : Nat) (a b : List Nat) : goes r (a ++ b) = goes (goes r a) b := by simp [goes]

/-- two texts of one length, turned over by each other -/
def xl : List Nat → List Nat → List Nat
  | a :: x, b :: y => (a ^^^ b) :: xl x y
  | _, _ => []
theorem goes_xor : ∀ (x y : List Nat) (r s : Nat), x.length = y.length → goes (r ^^^ s) (xl x y) = goes r x ^^^ goes s y
  | [], [], r, s, _ => rfl
  | a :: x, b :: y, r, s, h => by
    have e : inn (r ^^^ s) (a ^^^ b) = inn r a ^^^ inn s b := by
      rw [inn_eq, inn_eq, inn_eq, ← up8_xor]
      congr 1
      ac_rfl
    show goes (inn (r ^^^ s) (a ^^^ b)) (xl x y) = _
    rw [e]
    exact goes_xor x y _ _ (by simpa using h)
theorem goes_zeros (n : Nat) : goes 0 (List.replicate n 0) = 0 := by
  induction n with
  | zero => rfl
  | succ n ih => rw [List.replicate_succ]; exact ih
theorem goes_ne (n : Nat) : ∀ {r : Nat}, r < 4294967296 → r ≠ 0 → goes r (List.replicate n 0) ≠ 0 := by
  induction n with
  | zero => intro r _ h; exact h
  | succ n ih =>
    intro r h h0
    rw [List.replicate_succ]
    show goes (inn r 0) _ ≠ 0
    have e : inn r 0 = up8 r := by rw [inn_eq]; simp
    rw [e]
    exact ih (up8_lt h) (up8_ne h h0)

/-- a number's four bytes -/
def le4 (n : Nat) : List Nat := [n % 256, n / 256 % 256, n / 65536 % 256, n / 16777216 % 256]
theorem le4_lt (n : Nat) : ∀ c ∈ le4 n, c < 256 := by
  intro c hc
  simp only [le4, List.mem_cons, List.not_mem_nil, or_false] at hc
  omega
def up32 (r : Nat) : Nat := up8 (up8 (up8 (up8 r)))
theorem up32_ne {r : Nat} (h : r < 4294967296) (h0 : r ≠ 0) : up32 r ≠ 0 := up8_ne (up8_lt (up8_lt (up8_lt h))) (up8_ne (up8_lt (up8_lt h)) (up8_ne (up8_lt h) (up8_ne h h0)))
theorem up32_xor (a b : Nat) : up32 (a ^^^ b) = up32 a ^^^ up32 b := by simp only [up32, up8_xor]
theorem up32_inj {a b : Nat} (ha : a < 4294967296) (hb : b < 4294967296) (h : up32 a = up32 b) : a = b := by
  have e : up32 (a ^^^ b) = 0 := by rw [up32_xor, h, Nat.xor_self]
  by_cases h0 : a ^^^ b = 0
  · exact xor_zero h0
  · exact absurd e (up32_ne (Nat.xor_lt_two_pow (n := 32) (by omega) (by omega)) h0)
theorem add_xor {a b : Nat} (k : Nat) (h : a < 2 ^ k) : a + 2 ^ k * b = a ^^^ (2 ^ k * b) := by
  have h1 := Nat.two_pow_add_eq_or_of_lt h b
  rw [Nat.add_comm, h1]
  apply Nat.eq_of_testBit_eq
  intro i
  rw [Nat.testBit_or, Nat.testBit_xor, Nat.testBit_two_pow_mul]
  by_cases hi : k ≤ i
  · have : a.testBit i = false := Nat.testBit_lt_two_pow (Nat.lt_of_lt_of_le h (Nat.pow_le_pow_right (by omega) hi))
    simp [this]
  · simp [hi]
/-- four bytes go in as one number does -/
theorem goes_le4 (r n : Nat) (h : n < 4294967296) : goes r (le4 n) = up32 (r ^^^ n) := by
  obtain ⟨a, ha⟩ : ∃ a, a = n % 256 := ⟨_, rfl⟩
  obtain ⟨b, hb⟩ : ∃ b, b = n / 256 % 256 := ⟨_, rfl⟩
  obtain ⟨c, hc⟩ : ∃ c, c = n / 65536 % 256 := ⟨_, rfl⟩
  obtain ⟨d, hd⟩ : ∃ d, d = n / 16777216 % 256 := ⟨_, rfl⟩
  have e3 : c + 256 * d = c ^^^ (256 * d) := add_xor 8 (by omega)
  have e2 : b + 256 * (c + 256 * d) = b ^^^ (256 * (c + 256 * d)) := add_xor 8 (by omega)
  have e1 : a + 256 * (b + 256 * (c + 256 * d)) = a ^^^ (256 * (b + 256 * (c + 256 * d))) := add_xor 8 (by omega)
  have en : n = a + 256 * (b + 256 * (c + 256 * d)) := by omega
  have f1 : up32 n = up8 (up8 (up8 (up8 a ^^^ b) ^^^ c) ^^^ d) := by
    rw [en, up32, e1, up8_xor, up8_256, e2, show up8 a ^^^ (b ^^^ 256 * (c + 256 * d)) = (up8 a ^^^ b) ^^^ (256 * (c + 256 * d)) by ac_rfl, up8_xor, up8_256, e3,
      show up8 (up8 a ^^^ b) ^^^ (c ^^^ 256 * d) = (up8 (up8 a ^^^ b) ^^^ c) ^^^ (256 * d) by ac_rfl, up8_xor, up8_256]
  rw [up32_xor, f1]
  show inn (inn (inn (inn r _) _) _) _ = _
  rw [← ha, ← hb, ← hc, ← hd]
  simp only [inn_eq, up8_xor, up32]
  ac_rfl
end Go.Proofs.YtkhbemmcegmdaaaGreatDoor.Crc
end
