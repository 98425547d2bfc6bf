/- Parts of the proof of LabelsWhole: no conditions of their own. -/
import Derived.Test.YtjdbjahgimlhbaaWhPk2
import Derived.ArgAppend
import Derived.Test.YtjdbjahgimlhbaaWhPk12
import Derived.Test.YtjdbjahgimlhbaaWhPk4
import Derived.Test.YtjdbjahgimlhbaaWhPk13
section
set_option linter.unusedVariables false
set_option maxRecDepth 100000
namespace Go.Proofs.Ytjdbjahgimlhbaa
open Go.RowKit

structure QAt (w : World) (lo b o q c : Nat) (xs : List Nat) : Prop where
  len : xs.length = q
  le : q ≤ c
  lo : lo ≤ b
  lt : b < w.heap.size
  holds : ∀ (j x : Nat), xs[j]? = some x → w.cell? ⟨b, o + j, none⟩ = some (.int .i64 (x : Int))
  there : ∀ j, j < c → (w.cell? ⟨b, o + j, none⟩).isSome = true ∧ w.frozen? ⟨b, o + j, none⟩ = false
section
variable {w w' : World} {lo b o q c x : Nat} {xs : List Nat} {S : Nat → Prop}
theorem QAt.fr (h : QAt w lo b o q c xs) (hf : Fr S w w') (hs : ¬ S b) : QAt w' lo b o q c xs :=
  ⟨h.len, h.le, h.lo, Nat.lt_of_lt_of_le h.lt hf.size, fun j x hx => hf.cell (h.holds j x hx) hs, fun j hj => by
    obtain ⟨h1, h2⟩ := h.there j hj
    obtain ⟨v, hv⟩ := Option.isSome_iff_exists.1 h1
    exact ⟨by rw [hf.cell hv hs]; rfl, by rw [hf.frozen (a := ⟨b, o + j, none⟩) h.lt hs]; exact h2⟩⟩
theorem QAt.pop (h : QAt w lo b o (q + 1) c (x :: xs)) : QAt w lo b (o + 1) q (c - 1) xs :=
  ⟨by have := h.len; simp at this; exact this, by have := h.le; omega, h.lo, h.lt, fun j y hy => by
    have := h.holds (j + 1) y (by simpa using hy)
    rwa [show o + (j + 1) = o + 1 + j by omega] at this, fun j hj => by
    have := h.there (j + 1) (by omega)
    rwa [show o + (j + 1) = o + 1 + j by omega] at this⟩
theorem QAt.new (w : World) (t : TypeId) (x : Nat) (h : lo ≤ w.heap.size) : QAt (w.alloc (.cells #[.int .i64 (x : Int)] t)) lo w.heap.size 0 1 1 [x] := by
  have hb := Blk.new w t #[.int .i64 (x : Int)]
  refine ⟨rfl, Nat.le_refl _, h, hb.lt, fun j y hy => ?_, fun j hj => ?_⟩
  · rw [Nat.zero_add, hb.cell]
    cases j with
    | zero => simp at hy; subst hy; rfl
    | succ j => simp at hy
  · obtain rfl : j = 0 := by omega
    exact ⟨by rw [hb.cell]; rfl, hb.frozen 0⟩
end
theorem q_append {P : Program} (t ty e : TypeId) (i : TypeInfo) (z : Value) (ht : P.underlying t = some (.slice e)) (hi : P.info? e = some i) (hz : i.zero = some z) (hsize : i.size = 1) (hby : i.bytes = 8) (hzs : z.cells.size = 1)
    (W : World) (lo b o q c : Nat) (xs : List Nat) (hq : QAt W lo b o q c xs) (ad : Addr) (x n : Nat) (hx : W.cell? ad = some (.int .i64 (x : Int))) (had : ad.add 0 = ad) (hqb : q ≤ 100000) (hlo : lo ≤ W.heap.size) :
    ∃ b' o' c' w', (Builtin.append_ #[t, t] ty #[.slice (some ⟨b, o, none⟩) q c, .slice (some ad) 1 n]).run P W = .ok (.slice (some ⟨b', o', none⟩) (q + 1) c') w' ∧ QAt w' lo b' o' (q + 1) c' (xs ++ [x]) ∧ Fr (fun k => k = b) W w' := by
  have hnews : ∀ j v, ([.int .i64 (x : Int)] : List Value)[j]? = some v → W.cell? (ad.add j) = some v := fun j v hv => by
    cases j with
    | zero => rw [had, hx]; simpa using hv
    | succ j => simp at hv
  by_cases hr : q + 1 ≤ c
  · have hrun := run_append_room_cells (P := P) W t ty e i ht hi b o q c ad 1 n [.int .i64 (x : Int)] (by simp [hsize]) hnews (fun u hu => by simp at hu; subst hu; rfl) hr
      (fun j hj => by
        obtain rfl : j = 0 := by simpa using hj
        have := (hq.there q (by omega)).1
        simpa [hsize] using this)
      (fun j hj => by
        obtain rfl : j = 0 := by simpa using hj
        have := (hq.there q (by omega)).2
        simpa [hsize] using this)
    rw [hsize, Nat.mul_one] at hrun
    have hF : Fr (fun k => k = b) W (W.setCells b (o + q) [.int .i64 (x : Int)]) := (Fr.refl (fun k => k = b) W).setCell (p := ⟨b, o + q, none⟩) (.inl rfl) _
    have hin := World.cell?_setCells_in b [.int .i64 (x : Int)] (o + q) W (fun j hj => by
      obtain rfl : j = 0 := by simpa using hj
      exact (hq.there q (by omega)).1) 0 (by simp)
    have hout : ∀ j, j ≠ q → (W.setCells b (o + q) [.int .i64 (x : Int)]).cell? ⟨b, o + j, none⟩ = W.cell? ⟨b, o + j, none⟩ := fun j hj =>
      World.cell?_setCells_out b [.int .i64 (x : Int)] (o + q) W ⟨b, o + j, none⟩ (fun _ _ => by show o + j < o + q ∨ o + q + [Value.int .i64 (x : Int)].length ≤ o + j; simp; omega)
    refine ⟨b, o, c, _, hrun, ⟨by simp [hq.len], hr, hq.lo, Nat.lt_of_lt_of_le hq.lt hF.size, fun j y hy => ?_, fun j hj => ?_⟩, hF⟩
    · by_cases hjq : j = q
      · subst hjq
        rw [List.getElem?_append_right (by rw [hq.len]; exact Nat.le_refl _), hq.len, Nat.sub_self] at hy
        simp at hy
        subst hy
        simpa using hin
      · have hjl : j < xs.length := by
          have := (List.getElem?_eq_some_iff.1 hy).1
          rw [hq.len]
          simp [hq.len] at this
          omega
        rw [List.getElem?_append_left hjl] at hy
        rw [hout j hjq]
        exact hq.holds j y hy
    · constructor
      · by_cases hjq : j = q
        · subst hjq
          have : (W.setCells b (o + j) [.int .i64 (x : Int)]).cell? ⟨b, o + j, none⟩ = some (.int .i64 (x : Int)) := by simpa using hin
          rw [this]; rfl
        · rw [hout j hjq]; exact (hq.there j hj).1
      · rw [World.frozen?_setCells]
        exact (hq.there j hj).2
  · have hc : c = q := by have := hq.le; omega
    subst hc
    have hrun := run_append_grow (P := P) W t ty e i z ht hi hz ⟨b, o, none⟩ c c (ivals xs) (by simp [ivals, hq.len, hsize]) (fun j v hv => by
      rw [ivals, List.getElem?_map] at hv
      cases hxs : xs[j]? with
      | none => rw [hxs] at hv; cases hv
      | some y =>
        rw [hxs] at hv
        obtain rfl := Option.some.inj hv
        rw [Addr.add_lit]
        exact hq.holds j y hxs) ad 1 n [.int .i64 (x : Int)] (by simp [hsize]) hnews (by omega) (by omega) (growslice_fits (by omega) (by rw [hby]; omega))
    obtain ⟨gc, hgc⟩ : ∃ gc, grownCap W (c + 1) c e = gc := ⟨_, rfl⟩
    have hge := grownCap_ge W (c + 1) c e
    rw [hgc] at hrun hge
    have hb := Blk.new W.drew e ((ivals xs).toArray ++ [Value.int .i64 (x : Int)].toArray ++ Builtin.zeroCells z.cells (gc - (c + 1)))
    have hF : Fr (fun k => k = b) W (W.drew.alloc (.cells ((ivals xs).toArray ++ [Value.int .i64 (x : Int)].toArray ++ Builtin.zeroCells z.cells (gc - (c + 1))) e)) := ((Fr.refl _ W).drew).alloc _
    have hl1 : (ivals xs).length = c := by simp [ivals, hq.len]
    have hsz : ((ivals xs).toArray ++ [Value.int .i64 (x : Int)].toArray ++ Builtin.zeroCells z.cells (gc - (c + 1))).size = gc := by
      simp only [Array.size_append, List.size_toArray, size_zeroCells, hzs, hl1, List.length_singleton]
      omega
    refine ⟨W.heap.size, 0, gc, _, hrun, ⟨by simp [hq.len], hge, hlo, hb.lt, fun j y hy => ?_, fun j hj => ⟨?_, hb.frozen _⟩⟩, hF⟩
    · rw [Nat.zero_add]
      have hj : j < c + 1 := by
        have := (List.getElem?_eq_some_iff.1 hy).1
        simpa [hq.len] using this
      refine (hb.cell j).trans ?_
      rw [Array.getElem?_append_left (by simp [hl1]; omega), List.append_toArray, List.getElem?_toArray]
      have : ivals xs ++ [Value.int .i64 (x : Int)] = ivals (xs ++ [x]) := by simp [ivals]
      rw [this, ivals, List.getElem?_map, hy]
      rfl
    · rw [Nat.zero_add]
      refine (congrArg Option.isSome (hb.cell j)).trans ?_
      rw [Array.getElem?_eq_getElem (by rw [hsz]; exact hj)]
      rfl
/-- at the operation: a number, boxed, is appended -/
theorem wpList_append_q {P : Program} {ops : Array Oper} {rest : List Oper} {op : Oper} {a : Act} {Q : Exit → Act → World → Prop} (W : World) (x : Nat) (e2 : TypeId) (hgd : Region.wanted op (yielded ops a.tmps) = true) (s y : Operand) (t : TypeId)
    (ho : op.op = .call { callee := .builtin .append, args := #[s, y], argTypes := #[t, t] })
    (e : TypeId) (i : TypeInfo) (z : Value) (ht : P.underlying t = some (.slice e)) (hi : P.info? e = some i) (hz : i.zero = some z) (hsize : i.size = 1) (hby : i.bytes = 8) (hzs : z.cells.size = 1)
    (lo b o q c : Nat) (xs : List Nat) (hs : a.eval s = .slice (some ⟨b, o, none⟩) q c) (hq : QAt W lo b o q c xs) (hx : a.eval y = .slice (some ⟨W.heap.size, 0, none⟩) 1 1) (hqb : q ≤ 100000) (hlo : lo ≤ W.heap.size)
    (h : ∀ b' o' c' w', QAt w' lo b' o' (q + 1) c' (xs ++ [x]) → Fr (fun k => k = b) W w' → wpList P ops Q rest (a.put op.dst (.slice (some ⟨b', o', none⟩) (q + 1) c')) w') :
    wpList P ops Q (op :: rest) a (W.alloc (.cells #[.int .i64 (x : Int)] e2)) := by
  refine wpList_want hgd fun K hK => ?_
  have hb := Blk.new W e2 #[.int .i64 (x : Int)]
  obtain ⟨b', o', c', w', hr, h2, h3⟩ := q_append (P := P) t op.type e i z ht hi hz hsize hby hzs (W.alloc (.cells #[.int .i64 (x : Int)] e2)) lo b o q c xs (hq.fr (((Fr.refl (fun _ => False) W).alloc _)) id) ⟨W.heap.size, 0, none⟩ x 1 (by rw [hb.cell]; rfl) rfl hqb (by simp; omega)
  unfold Oper.wp execOp
  simp only [ho, resolve, invoke, builtin, Sem.run_bind, Sem.run_pure, Result.andThen_ok, List.map_toArray, List.map_cons, List.map_nil, hs, hx, hr]
  exact hK _ _ (h b' o' c' w' h2 (((Fr.refl (fun k => k = b) W).alloc _).trans h3 (fun k hk => .inl hk)))
end Go.Proofs.Ytjdbjahgimlhbaa
end
section
set_option linter.unusedVariables false
namespace Go.Proofs.Ytjdbjahgimlhbaa.Gr

theorem getD_set (X : List Nat) (v y i : Nat) (hv : v < X.length) : (X.set v y).getD i 0 = if i = v then y else X.getD i 0 := by
  rw [List.getD_eq_getElem?_getD, List.getElem?_set]
  by_cases h : v = i
  · subst h; simp [hv]
  · rw [if_neg h, if_neg (Ne.symm h), ← List.getD_eq_getElem?_getD]
/-- a queue: what is told is right; who is told and does not wait has told all about him -/
structure QInv (nb : Nat → List Nat) (s n : Nat) (X Q : List Nat) : Prop where
  len : X.length = n
  ok : ∀ v, v < n → X.getD v 0 = FAR ∨ Dist nb s v (X.getD v 0)
  src : X.getD s 0 ≠ FAR
  qin : ∀ u, u ∈ Q → u < n ∧ X.getD u 0 ≠ FAR
  srt : Q.Pairwise fun a b => X.getD a 0 ≤ X.getD b 0
  near : ∀ h t, Q = h :: t → ∀ u, u ∈ t → X.getD u 0 ≤ X.getD h 0 + 1
  told : ∀ u, u < n → X.getD u 0 ≠ FAR → u ∈ Q ∨ ∀ v, v ∈ nb u → X.getD v 0 ≠ FAR
section
variable {nb : Nat → List Nat} {s n u v : Nat} {X Q : List Nat}
theorem QInv.start (hs : s < n) : QInv nb s n ((List.replicate n FAR).set s 0) [s] := by
  have hl : s < (List.replicate n FAR).length := by simpa using hs
  have hr : ∀ i, i < n → (List.replicate n FAR).getD i 0 = FAR := fun i hi => by simp [List.getD, hi]
  refine ⟨by simp, fun v hv => ?_, ?_, fun u hu => ?_, List.pairwise_singleton _ _, fun h t e u hu => ?_, fun u hu hX => ?_⟩
  · rw [getD_set _ _ _ _ hl]
    by_cases h : v = s
    · subst h; rw [if_pos rfl]; exact .inr Dist.self
    · rw [if_neg h]; exact .inl (hr v hv)
  · rw [getD_set _ _ _ _ hl, if_pos rfl]; decide
  · rw [List.mem_singleton] at hu
    subst hu
    exact ⟨hs, by rw [getD_set _ _ _ _ hl, if_pos rfl]; decide⟩
  · injection e with e1 e2
    subst e2
    cases hu
  · rw [getD_set _ _ _ _ hl] at hX
    by_cases h : u = s
    · exact .inl (by simp [h])
    · rw [if_neg h] at hX
      exact absurd (hr u hu) hX
/-- all that is no further than the queue's head is told -/
theorem QInv.below (h : QInv nb s n X (u :: Q)) (hnb : ∀ a b, b ∈ nb a → b < n) (hs : s < n) : ∀ {d v}, Dist nb s v d → d ≤ X.getD u 0 → X.getD v 0 ≠ FAR
  | 0, v, hd, _ => by
    have e : v = s := hd.1
    rw [e]; exact h.src
  | d + 1, v, hd, hle => by
    obtain ⟨p, hp, hv⟩ := hd.pred
    have hpn : p < n := hp.1.lt hnb hs
    have ih := h.below hnb hs hp (by omega)
    rcases h.told p hpn ih with hq | ht
    · have hdp : X.getD p 0 = d := by
        rcases h.ok p hpn with h1 | h1
        · exact absurd h1 ih
        · exact h1.uniq hp
      rcases List.mem_cons.1 hq with rfl | hq
      · omega
      · have := (List.pairwise_cons.1 h.srt).1 p hq
        omega
    · exact ht v hv
theorem QInv.head (h : QInv nb s n X (u :: Q)) : u < n ∧ X.getD u 0 ≠ FAR ∧ Dist nb s u (X.getD u 0) := by
  obtain ⟨h1, h2⟩ := h.qin u (by simp)
  rcases h.ok u h1 with h3 | h3
  · exact absurd h3 h2
  · exact ⟨h1, h2, h3⟩
theorem QInv.step (h : QInv nb s n X (u :: Q)) (hnb : ∀ a b, b ∈ nb a → b < n) (hs : s < n) (hn : n ≤ 256) (hv : v ∈ nb u) (hX : X.getD v 0 = FAR) :
    QInv nb s n (X.set v (X.getD u 0 + 1)) (u :: (Q ++ [v])) := by
  obtain ⟨hu, hu2, hu3⟩ := h.head
  have hvn := hnb _ _ hv
  have hl : v < X.length := by rw [h.len]; exact hvn
  have hg := fun i => getD_set X v (X.getD u 0 + 1) i hl
  have hlt := hu3.lt hnb hs
  have huv : u ≠ v := fun e => hu2 (by rw [e]; exact hX)
  have hQv : ∀ q, q ∈ u :: Q → q ≠ v := fun q hq e => (h.qin q hq).2 (by rw [e]; exact hX)
  have hne : X.getD u 0 + 1 ≠ FAR := by unfold FAR; omega
  have hD : Dist nb s v (X.getD u 0 + 1) := by
    refine ⟨hu3.1.step hv, fun j hj hR => ?_⟩
    obtain ⟨d, hd, hdd⟩ := hR.dist
    exact h.below hnb hs hdd (by omega) hX
  refine ⟨by simp [h.len], fun w hw => ?_, ?_, fun q hq => ?_, ?_, fun a t e q hq => ?_, fun q hq hqX => ?_⟩
  · rw [hg]
    by_cases e : w = v
    · subst e; rw [if_pos rfl]; exact .inr hD
    · rw [if_neg e]; exact h.ok w hw
  · rw [hg]
    split
    · exact hne
    · exact h.src
  · rw [hg]
    rcases List.mem_cons.1 hq with rfl | hq
    · exact ⟨hu, by rw [if_neg huv]; exact hu2⟩
    · rcases List.mem_append.1 hq with hq | hq
      · have := h.qin q (List.mem_cons_of_mem _ hq)
        refine ⟨this.1, ?_⟩
        split
        · exact hne
        · exact this.2
      · rw [List.mem_singleton] at hq
        subst hq
        exact ⟨hvn, by rw [if_pos rfl]; exact hne⟩
  · have hs1 := List.pairwise_cons.1 h.srt
    have old : ∀ q, q ∈ u :: Q → (X.set v (X.getD u 0 + 1)).getD q 0 = X.getD q 0 := fun q hq => by rw [hg, if_neg (hQv q hq)]
    have hnear := h.near u Q rfl
    rw [List.pairwise_cons, List.pairwise_append]
    refine ⟨fun q hq => ?_, ?_, List.pairwise_singleton _ _, fun a ha b hb => ?_⟩
    · rw [old u (by simp)]
      rcases List.mem_append.1 hq with hq | hq
      · rw [old q (List.mem_cons_of_mem _ hq)]
        exact hs1.1 q hq
      · rw [List.mem_singleton] at hq
        subst hq
        rw [hg, if_pos rfl]
        omega
    · refine List.Pairwise.imp_of_mem (fun {a b} ha hb hab => ?_) hs1.2
      rw [old a (List.mem_cons_of_mem _ ha), old b (List.mem_cons_of_mem _ hb)]
      exact hab
    · rw [List.mem_singleton] at hb
      subst hb
      rw [old a (List.mem_cons_of_mem _ ha), hg, if_pos rfl]
      exact hnear a ha
  · injection e with e1 e2
    subst e1
    subst e2
    rw [hg u, if_neg huv, hg]
    rcases List.mem_append.1 hq with hq | hq
    · rw [if_neg (hQv q (List.mem_cons_of_mem _ hq))]
      exact h.near u Q rfl q hq
    · rw [List.mem_singleton] at hq
      rw [if_pos hq]
      exact Nat.le_refl _
  · rw [hg] at hqX
    by_cases e : q = v
    · subst e
      exact .inl (by simp)
    · rw [if_neg e] at hqX
      rcases h.told q hq hqX with hm | ht
      · rcases List.mem_cons.1 hm with rfl | hm
        · exact .inl (by simp)
        · exact .inl (by simp [hm])
      · refine .inr fun w hw => ?_
        rw [hg]
        split
        · exact hne
        · exact ht w hw
theorem QInv.pop (h : QInv nb s n X (u :: Q)) (ht : ∀ v, v ∈ nb u → X.getD v 0 ≠ FAR) : QInv nb s n X Q := by
  refine ⟨h.len, h.ok, h.src, fun q hq => h.qin q (List.mem_cons_of_mem _ hq), (List.pairwise_cons.1 h.srt).2, fun a t e q hq => ?_, fun q hq hX => ?_⟩
  · subst e
    have h1 := h.near u (a :: t) rfl q (List.mem_cons_of_mem _ hq)
    have h2 := (List.pairwise_cons.1 h.srt).1 a (by simp)
    omega
  · rcases h.told q hq hX with hm | hm
    · rcases List.mem_cons.1 hm with rfl | hm
      · exact .inr ht
      · exact .inl hm
    · exact .inr hm
theorem QInv.done (h : QInv nb s n X []) (hnb : ∀ a b, b ∈ nb a → b < n) (hs : s < n) : FarRow nb s n X := by
  have hr : ∀ {r v}, Rch nb s r v → X.getD v 0 ≠ FAR := by
    intro r
    induction r with
    | zero => intro v e; rw [show v = s from e]; exact h.src
    | succ r ih =>
      intro v e
      rcases e with e | ⟨p, e, hv⟩
      · exact ih e
      · rcases h.told p (e.lt hnb hs) (ih e) with hm | hm
        · cases hm
        · exact hm v hv
  refine ⟨h.len, fun v hv => ?_⟩
  rcases h.ok v hv with h1 | h1
  · exact .inr ⟨fun r hR => hr hR h1, h1⟩
  · exact .inl ⟨_, h1, rfl⟩
/-- of who is not told, one less -/
theorem count_step (X : List Nat) (v y : Nat) (hv : v < X.length) (hX : X.getD v 0 = FAR) (hy : y ≠ FAR) : (X.set v y).count FAR + 1 = X.count FAR := by
  have he : X[v] = FAR := by rw [← hX]; simp [List.getD, hv]
  have h1 := List.count_set (l := X) (i := v) (a := y) (b := FAR) hv
  have h2 : 0 < X.count FAR := List.count_pos_iff.2 (by rw [← he]; exact List.getElem_mem hv)
  rw [h1]
  simp only [he, beq_self_eq_true, if_true]
  have : (y == FAR) = false := by simp only [beq_eq_false_iff_ne, ne_eq]; exact hy
  rw [this]
  simp only [Bool.false_eq_true, if_false]
  omega
/-- the greatest of those that are told -/
def grt (X : List Nat) : Nat := X.foldl (fun m x => if x = FAR then m else max m x) 0
theorem grt_take_succ (X : List Nat) {j : Nat} (hj : j < X.length) : grt (X.take (j + 1)) = if X[j] = FAR then grt (X.take j) else max (grt (X.take j)) X[j] := by
  unfold grt
  rw [List.take_succ_eq_append_getElem hj, List.foldl_append]
  rfl
theorem grt_ge : ∀ (X : List Nat) (m : Nat), m ≤ X.foldl (fun m x => if x = FAR then m else max m x) m ∧ ∀ x, x ∈ X → x ≠ FAR → x ≤ X.foldl (fun m x => if x = FAR then m else max m x) m
  | [], m => ⟨Nat.le_refl _, fun x hx => by cases hx⟩
  | y :: X, m => by
    rw [List.foldl_cons]
    obtain ⟨h1, h2⟩ := grt_ge X (if y = FAR then m else max m y)
    have h3 : m ≤ if y = FAR then m else max m y := by split <;> omega
    refine ⟨Nat.le_trans h3 h1, fun x hx hf => ?_⟩
    rcases List.mem_cons.1 hx with rfl | hx
    · rw [if_neg hf] at h1 ⊢
      omega
    · exact h2 x hx hf
theorem grt_in : ∀ (X : List Nat) (m : Nat), X.foldl (fun m x => if x = FAR then m else max m x) m = m ∨ (X.foldl (fun m x => if x = FAR then m else max m x) m ∈ X ∧ X.foldl (fun m x => if x = FAR then m else max m x) m ≠ FAR)
  | [], m => .inl rfl
  | y :: X, m => by
    rw [List.foldl_cons]
    rcases grt_in X (if y = FAR then m else max m y) with h | h
    · by_cases hy : y = FAR
      · rw [if_pos hy] at h ⊢
        exact .inl h
      · rw [if_neg hy] at h ⊢
        by_cases hm : y ≤ m
        · exact .inl (by rw [h]; omega)
        · refine .inr ?_
          rw [h, show max m y = y by omega]
          exact ⟨by simp, hy⟩
    · exact .inr ⟨List.mem_cons_of_mem _ h.1, h.2⟩
/-- the greatest distance of a row of distances is one, and none is greater -/
theorem grt_far (h : FarRow nb s n X) (hnb : ∀ a b, b ∈ nb a → b < n) (hs : s < n) (hn : n ≤ 256) : (∃ v, Dist nb s v (grt X)) ∧ ∀ v d, Dist nb s v d → d ≤ grt X := by
  have hg : ∀ v, v < n → X.getD v 0 ∈ X := fun v hv => by
    have hl : v < X.length := by rw [h.1]; exact hv
    simp [List.getD, hl]
  constructor
  · rcases grt_in X 0 with h1 | ⟨h1, h2⟩
    · refine ⟨s, ?_⟩
      unfold grt
      rw [h1]
      exact Dist.self
    · obtain ⟨v, hv, he⟩ := List.mem_iff_getElem.1 h1
      have hv2 : v < n := by rw [← h.1]; exact hv
      have hx : X.getD v 0 = grt X := by
        unfold grt
        rw [← he]; simp [List.getD, hv]
      rcases h.2 v hv2 with ⟨d, hd, e⟩ | ⟨_, e⟩
      · exact ⟨v, by rw [← hx, e]; exact hd⟩
      · exact absurd (hx.symm.trans e) h2
  · intro v d hd
    have hv := hd.1.lt hnb hs
    have hdl := hd.lt hnb hs
    rcases h.2 v hv with ⟨d', hd', e⟩ | ⟨e, _⟩
    · have h2 := (grt_ge X 0).2 _ (hg v hv) (by rw [e, ← hd.uniq hd']; unfold FAR; omega)
      rw [e, ← hd.uniq hd'] at h2
      exact h2
    · exact absurd hd.1 (e d)
end
end Go.Proofs.Ytjdbjahgimlhbaa.Gr
end
section
set_option linter.unusedVariables false
set_option maxRecDepth 100000
namespace Go.Proofs.Ytjdbjahgimlhbaa
open Go.RowKit
open Gr (E T FAR QInv)

/-- a table of lists -/
def TabAt (w : World) (t n : Nat) (nb : Nat → List Nat) : Prop := ∀ u, u < n → ∃ A c, w.cell? ⟨t, u, none⟩ = some (.slice A (nb u).length c) ∧ Reads w w.heap.size 1 A (nb u).length (ivals (nb u))
theorem TabAt.up {w w' : World} {t n : Nat} {nb : Nat → List Nat} (h : TabAt w t n nb) (hf : Fr (fun _ => False) w w') : TabAt w' t n nb := fun u hu => by
  obtain ⟨A, c, h1, h2⟩ := h u hu
  exact ⟨A, c, hf.cell h1 id, h2.up hf⟩
theorem TabAt.outs {w : World} {H B o a n : Nat} {f f' : Nat → List Nat} (h : GAt w H B o a n ((List.range n).map f) ((List.range n).map f')) : TabAt w o n f := fun u hu => by
  obtain ⟨A, c, h1, h2⟩ := h.outRow (i := u) (l := f u) (map_at _ hu)
  exact ⟨A, c, h1, Reads.of_own h2⟩
theorem TabAt.alls {w : World} {H B o a n : Nat} {f f' : Nat → List Nat} (h : GAt w H B o a n ((List.range n).map f) ((List.range n).map f')) : TabAt w a n f' := fun u hu => by
  obtain ⟨A, c, h1, h2⟩ := h.allRow (i := u) (l := f' u) (map_at _ hu)
  exact ⟨A, c, h1, Reads.of_own h2⟩
theorem RowU.uniq {w : World} {g : Nat} {X Y : List Nat} (h : RowU w g X) (k : RowU w g Y) : X = Y := by
  have e : some (Obj.cells (X.map u64v).toArray 36 (0, 0)) = some (Obj.cells (Y.map u64v).toArray 36 (0, 0)) := h.symm.trans k
  injection e with e
  injection e with e1 e2 e3
  have e4 : X.map u64v = Y.map u64v := by simpa using e1
  have hinj : Function.Injective u64v := fun a b hab => by
    unfold u64v at hab
    injection hab with _ h2
    omega
  exact (List.map_inj_right (fun a b hab => hinj hab)).1 e4
open Classical in
/-- how many of a row are not told -/
noncomputable def farN (w : World) (g : Nat) : Nat := if h : ∃ X, RowU w g X then (Classical.choose h).count FAR else 0
theorem farN_eq {w : World} {g : Nat} {X : List Nat} (h : RowU w g X) : farN w g = X.count FAR := by
  unfold farN
  have hx : ∃ X, RowU w g X := ⟨X, h⟩
  rw [dif_pos hx, (Classical.choose_spec hx).uniq h]
def lenV : Value → Nat
  | .slice _ n _ => n
  | _ => 0
theorem far_zero (n s : Nat) (hs : s < n) : ((List.replicate n FAR).set s 0).count FAR + 1 = n := by
  have h := Gr.count_step (List.replicate n FAR) s 0 (by simpa using hs) (by simp [List.getD, hs]) (by decide)
  simpa using h
set_option maxHeartbeats 4000000 in
theorem tfar_ok (t n s : Nat) (nb : Nat → List Nat) (w : World) (hT : TabAt w t n nb) (hn : 1 ≤ n) (hn2 : n ≤ 256) (hs : s < n) (hnb : ∀ a b, b ∈ nb a → b < n) (hq : ∀ u, (nb u).length ≤ 8000) :
    Calls Try.prog 99 #[.slice (some ⟨t, 0, none⟩) n n, .int .i64 (s : Int)] w fun e w' => ∃ g X, e = .returned (.slice (some ⟨g, 0, none⟩) n n) ∧ w.heap.size ≤ g ∧ RowU w' g X ∧ Gr.FarRow nb s n X ∧ Fr (fun _ => False) w w' := by
  obtain ⟨i1, hj, hj0, hj1, hj2⟩ := info_parts int_info
  have HT := hide hT
  have HNB := hide hnb
  have HQL := hide hq
  have HFL := hide (fun x w => fill_ok n x hn hn2 w)
  have HST := hide (QInv.start (nb := nb) hs)
  have HZF := hide (far_zero n s hs)
  have s0 : (0 : Int) ≤ (s : Int) := by omega
  have s1 : (s : Int) < (n : Int) := by omega
  clear hT hnb hq
  go_enter Try.func99, Try.ntmps99
  go_wp2_with fail
  go_at_call 115
  refine (HFL.out 18446744073709551615 _).mono ?_
  rintro e w2 ⟨g, rfl, hg, hrow, hf⟩
  have HR2 : Hid (RowU (w2.setCell ⟨g, s, none⟩ (.int .u64 0)) g ((List.replicate n FAR).set s 0)) := RowU.set hrow s 0
  have HF2 : Hid (Fr (fun _ => False) w (w2.setCell ⟨g, s, none⟩ (.int .u64 0))) := hf.setCell (p := ⟨g, s, none⟩) (.inr hg) (.int .u64 0)
  have lg := hrow.lt
  have hc1 := hrow.cell (i := s) (by simpa using hs)
  have hfz := hrow.frozen s
  have hz2 : (w2.setCell ⟨g, s, none⟩ (.int .u64 0)).heap.size = w2.heap.size := by simp [World.setCell]
  clear hrow hf
  go_wp2_with fail
  clear hc1 hfz
  generalize w2.setCell ⟨g, s, none⟩ (.int .u64 0) = w3 at *
  rw [← hz2] at lg ⊢
  clear hz2
  have HQ4 := hide (QAt.new (lo := w3.heap.size) w3 3 s (Nat.le_refl _))
  have HR4 := hide (HR2.out.fr ((Fr.refl (fun _ => False) w3).alloc (.cells #[.int .i64 (s : Int)] 3)) id)
  have HF4 := hide (HF2.out.alloc (.cells #[.int .i64 (s : Int)] 3))
  have sz4 : (w3.alloc (.cells #[.int .i64 (s : Int)] 3)).heap.size = w3.heap.size + 1 := by simp
  generalize w3.alloc (.cells #[.int .i64 (s : Int)] 3) = w4 at *
  go_loopw [6] (fun qv wr => ∃ (X Q : List Nat) (A : Option Addr) (q c : Nat), qv = .slice A q c ∧ Q.length = q ∧ q ≤ c ∧ X.count FAR + q ≤ n ∧ Hid (RowU wr g X ∧ QInv nb s n X Q ∧ (0 < q → ∃ b o, A = some ⟨b, o, none⟩ ∧ QAt wr w3.heap.size b o q c Q) ∧ Fr (fun _ => False) w wr ∧ w3.heap.size ≤ wr.heap.size)) (fun qv wr => farN wr g + lenV qv)
  case atStart => exact ⟨_, [s], _, 1, 1, rfl, rfl, Nat.le_refl _, by have := HZF.out; omega, HR4.out, HST.out, fun _ => ⟨_, 0, rfl, HQ4.out⟩, HF4.out, by omega⟩
  case round =>
    obtain ⟨X, Q, A, q, c, rfl, hQ, hqc, hcn, HI⟩ := hrel
    cases Q with
    | nil =>
      obtain rfl : 0 = q := hQ
      have HR9 := hide HI.out.1
      have HF9 := hide HI.out.2.2.2.1
      have HD9 := hide (HI.out.2.1.done HNB.out hs)
      go_wp2
      go_ret
      exact ⟨g, X, rfl, hg, HR9.out, HD9.out, HF9.out⟩
    | cons u Q =>
      obtain ⟨q, rfl⟩ : ∃ q', q = q' + 1 := ⟨Q.length, by rw [← hQ]; rfl⟩
      obtain ⟨b, o, rfl, hqa⟩ := HI.out.2.2.1 (by omega)
      have HM0 := hide (farN_eq HI.out.1)
      have hu := hqa.holds 0 u rfl
      rw [Nat.add_zero] at hu
      have hun := HI.out.2.1.head.1
      obtain ⟨A3, c3, hv0, hrd3⟩ := HT.out u hun
      have hv3 := HI.out.2.2.2.1.cell hv0 id
      have HRD := hide hrd3
      have HVN := hide (fun j (hj : j < (nb u).length) => HNB.out u _ (List.getElem_mem hj))
      have HVM := hide (fun j (hj : j < (nb u).length) => List.getElem_mem hj)
      have HTK := hide (fun j (hj : j < (nb u).length) => (List.take_succ_eq_append_getElem hj : (nb u).take (j + 1) = _))
      have HTA := hide (fun (Y : List Nat) (h : ∀ v, v ∈ (nb u).take (nb u).length → Y.getD v 0 ≠ FAR) => (show ∀ v, v ∈ nb u → Y.getD v 0 ≠ FAR by rwa [List.take_of_length_le (Nat.le_refl _)] at h))
      have hqb := HQL.out u
      obtain ⟨ys, hys⟩ : ∃ ys, nb u = ys := ⟨_, rfl⟩
      have HYS := hide hys
      rw [hys] at hv3 HRD HVN HVM HTK HTA hqb
      clear hys hrd3 hv0
      obtain ⟨m, hm⟩ : ∃ m, ys.length = m := ⟨_, rfl⟩
      have HM := hide hm
      rw [hm] at hv3 HRD HTA hqb
      obtain ⟨K, hK⟩ : ∃ K, X.count FAR + (q + 1) = K := ⟨_, rfl⟩
      have e0 : (0 : Int) ≤ (u : Int) := by omega
      have e1 : (u : Int) < (n : Int) := by omega
      have HQA := hide hqa
      clear hm hqa
      generalize hwo : wr = wo at *
      go_wp2_with fail
      go_loopw [6, 31] (fun qv i wr => ∃ (j : Nat) (X Q : List Nat) (b o q c : Nat), j ≤ m ∧ i = .int .i64 (j : Int) ∧ qv = .slice (some ⟨b, o, none⟩) (q + 1) c ∧ q + 1 ≤ c ∧ X.count FAR + (q + 1) = K ∧ Hid (RowU wr g X ∧ QInv nb s n X (u :: Q) ∧ QAt wr w3.heap.size b o (q + 1) c (u :: Q) ∧ (∀ v, v ∈ ys.take j → X.getD v 0 ≠ FAR) ∧ Fr (fun _ => False) w wr ∧ w3.heap.size ≤ wr.heap.size)) (fun _ i _ => m - (intOf i).toNat)
      case atStart => exact ⟨0, X, Q, b, o, q, c, by omega, rfl, rfl, hqc, hK, HI.out.1, HI.out.2.1, HQA.out, fun v hv => by simp at hv, HI.out.2.2.2.1, HI.out.2.2.2.2⟩
      case round =>
        obtain ⟨j, X, Q, b, o, q, c, hjm, rfl, rfl, hqc, hK2, HJ⟩ := hrel
        by_cases hlt : j < m
        · have lj : j < ys.length := by rw [HM.out]; exact hlt
          have HTj := hide (HTK.out j lj)
          have hvn := HVN.out j lj
          have HVj := hide (show ys[j] ∈ nb u by rw [HYS.out]; exact HVM.out j lj)
          obtain ⟨b2, o2, e, hb, hcs⟩ := (HRD.out.up HJ.out.2.2.2.2.1).2 (by omega)
          have hc := hcs j (.int .i64 (ys[j] : Int)) (by rw [ivals, List.getElem?_map, List.getElem?_eq_getElem lj]; rfl)
          subst e
          generalize ys[j]'lj = v at *
          have f0 : (0 : Int) ≤ (j : Int) := by omega
          have f1 : (j : Int) < (m : Int) := by omega
          have f2 : (0 : Int) ≤ (v : Int) := by omega
          have f3 : (v : Int) < (n : Int) := by omega
          have hlX : X.length = n := HJ.out.2.1.len
          have hc1 := HJ.out.1.cell (i := v) (by rw [hlX]; exact hvn)
          clear hcs
          have hgb : g ≠ b := by have := HJ.out.2.2.1.lo; omega
          have hlw := HJ.out.2.2.1.lt
          by_cases hX : X.getD v 0 = FAR
          · have hcX : (18446744073709551615 : Int) = ((X.getD v 0 : Nat) : Int) := by rw [hX]; rfl
            rw [← hcX] at hc1
            have hc2 := HJ.out.1.cell (i := u) (by rw [hlX]; exact hun)
            have hfz := HJ.out.1.frozen v
            have hhd := HJ.out.2.1.head
            have hlu := hhd.2.2.lt HNB.out hs
            have HN1 := hide (HJ.out.2.1.step HNB.out hs hn2 HVj.out hX)
            have HC1 := hide (Gr.count_step X v (X.getD u 0 + 1) (by rw [hlX]; exact hvn) hX (by unfold FAR; omega))
            have HS1 := hide (RowU.set HJ.out.1 v (X.getD u 0 + 1))
            have HG1 := hide (fun i => Gr.getD_set X v (X.getD u 0 + 1) i (by rw [hlX]; exact hvn))
            generalize hy : X.getD u 0 = y at *
            have hv64 : ((y + 1 : Nat) : Int) = (y : Int) + 1 := by omega
            rw [hv64] at HS1
            have HS2 : Hid (RowU (wr.setCell ⟨g, v, none⟩ (.int .u64 ((y : Int) + 1))) g (X.set v (y + 1))) := HS1
            have HFs : Hid (Fr (fun k => k = g) wr (wr.setCell ⟨g, v, none⟩ (.int .u64 ((y : Int) + 1)))) := (Fr.refl (fun k => k = g) wr).setCell (p := ⟨g, v, none⟩) (.inl rfl) _
            have HQs := hide (HJ.out.2.2.1.fr HFs.out (Ne.symm hgb))
            have hqb2 : q + 1 ≤ 100000 := by omega
            have HSZ := hide (show (wr.setCell ⟨g, v, none⟩ (.int .u64 ((y : Int) + 1))).heap.size = wr.heap.size by simp [World.setCell])
            have szs := HFs.out.size
            have szj := HJ.out.2.2.2.2.2
            clear hlX
            go_wp2_with (at_builtin; refine wpList_append_q _ v _ rfl (.tmp 48) (.tmp 50) _ rfl 3 i1 _ Try.underlying64 hj hj0 hj1 hj2 rfl w3.heap.size b o (q + 1) c (u :: Q) rfl HQs.out (by rw [HSZ.out]; rfl) hqb2 (Nat.le_trans szj szs) ?_)
            intro b5 o5 c5 w5 hq5 hf5
            have HQ5 := hide hq5
            have HF5 := hide ((HJ.out.2.2.2.2.1.trans HFs.out (fun k h => .inr (by omega))).trans hf5 (fun k h => .inr (by have := HJ.out.2.2.1.lo; omega)))
            have HR5 := hide (HS2.out.fr hf5 hgb)
            have HU5 := hide (show ∀ z, z ∈ ys.take (j + 1) → (X.set v (y + 1)).getD z 0 ≠ FAR from fun z hz => by
              rw [HG1.out]
              by_cases hzv : z = v
              · rw [if_pos hzv]; unfold FAR; omega
              · rw [if_neg hzv]
                rw [HTj.out] at hz
                rcases List.mem_append.1 hz with hz | hz
                · exact HJ.out.2.2.2.1 z hz
                · exact absurd (by simpa using hz) hzv)
            have hc5 := hq5.le
            have sz5 : w3.heap.size ≤ w5.heap.size := Nat.le_trans (Nat.le_trans szj szs) hf5.size
            clear hq5 hf5 hc1 hc2 hfz hc
            go_wp2
            go_roundw
            case rel => exact ⟨j + 1, X.set v (y + 1), Q ++ [v], b5, o5, q + 1, c5, by omega, by go_num, rfl, hc5, by have := HC1.out; omega, HR5.out, HN1.out, HQ5.out, HU5.out, HF5.out, sz5⟩
            case measure => simp [intOf]; omega
          · have hne : ¬ (((X.getD v 0 : Nat) : Int) = 18446744073709551615) := fun h => hX (by unfold FAR; omega)
            have HU5 := hide (show ∀ z, z ∈ ys.take (j + 1) → X.getD z 0 ≠ FAR from fun z hz => by
              rw [HTj.out] at hz
              rcases List.mem_append.1 hz with hz | hz
              · exact HJ.out.2.2.2.1 z hz
              · rw [show z = v by simpa using hz]; exact hX)
            generalize X.getD v 0 = xv at *
            go_wp2
            go_roundw
            case rel => exact ⟨j + 1, X, Q, b, o, q, c, by omega, by go_num, rfl, hqc, hK2, HJ.out.1, HJ.out.2.1, HJ.out.2.2.1, HU5.out, HJ.out.2.2.2.2.1, HJ.out.2.2.2.2.2⟩
            case measure => simp [intOf]; omega
        · obtain rfl : j = m := by omega
          have HP := hide (HJ.out.2.1.pop (by rw [HYS.out]; exact HTA.out X HJ.out.2.2.2.1))
          have HQP := hide HJ.out.2.2.1.pop
          have hlQ : Q.length = q := HQP.out.len
          have HMF := hide (farN_eq HJ.out.1)
          have hm1 : (1 : Int) ≤ ((q + 1 : Nat) : Int) := by omega
          go_wp2
          go_roundw
          case rel => exact ⟨X, Q, _, q, c - 1, rfl, hlQ, by omega, by omega, HJ.out.1, HP.out, fun hq0 => ⟨b, o + 1, if_neg (by omega), HQP.out⟩, HJ.out.2.2.2.2.1, HJ.out.2.2.2.2.2⟩
          case measure => rw [HMF.out, HM0.out]; simp only [lenV]; omega
theorem far_small {nb : Nat → List Nat} {s n : Nat} {X : List Nat} (h : Gr.FarRow nb s n X) (hnb : ∀ a b, b ∈ nb a → b < n) (hs : s < n) (hn : n ≤ 256) : ∀ x, x ∈ X → x = FAR ∨ x < 256 := fun x hx => by
  obtain ⟨v, hv, he⟩ := List.mem_iff_getElem.1 hx
  have hv2 : v < n := by rw [← h.1]; exact hv
  have hg : X.getD v 0 = x := by rw [← he]; simp [List.getD, hv]
  rcases h.2 v hv2 with ⟨d, hd, e⟩ | ⟨_, e⟩
  · have := hd.lt hnb hs
    exact .inr (by omega)
  · exact .inl (by omega)
theorem grt_small {X : List Nat} (h : ∀ x, x ∈ X → x = FAR ∨ x < 256) : Gr.grt X < 256 := by
  rcases Gr.grt_in X 0 with h1 | ⟨h1, h2⟩
  · unfold Gr.grt; rw [h1]; omega
  · rcases h _ h1 with h3 | h3
    · exact absurd h3 h2
    · exact h3
set_option maxHeartbeats 2000000 in
theorem tgreat_ok (g n : Nat) (X : List Nat) (hX : X.length = n) (hn : n ≤ 256) (hb : ∀ x, x ∈ X → x = FAR ∨ x < 256) (w : World) (hr : RowU w g X) :
    Calls Try.prog 100 #[.slice (some ⟨g, 0, none⟩) n n] w fun e w' => e = .returned (.int .i64 ((Gr.grt X : Nat) : Int)) ∧ Fr (fun _ => False) w w' := by
  have HR := hide hr
  have HX := hide hX
  have HB := hide hb
  have HS := hide (fun j (hj : j < X.length) => Gr.grt_take_succ X hj)
  have HSM := hide (fun j => grt_small (X := X.take j) (fun x hx => hb x (List.mem_of_mem_take hx)))
  clear hr hX hb
  go_enter Try.func100, Try.ntmps100
  go_wp2_with fail
  go_loopw [3, 8] (fun mv i wr => ∃ j : Nat, j ≤ n ∧ i = .int .i64 (j : Int) ∧ mv = .int .u64 ((Gr.grt (X.take j) : Nat) : Int) ∧ Hid (Fr (fun _ => False) w wr)) (fun _ i _ => n - (intOf i).toNat)
  case atStart => exact ⟨0, by omega, rfl, by simp [Gr.grt], Fr.refl _ _⟩
  case round =>
    obtain ⟨j, hj, rfl, rfl, HI⟩ := hrel
    have hsm := HSM.out j
    by_cases hlt : j < n
    · have lj : j < X.length := by rw [HX.out]; exact hlt
      have hc := (HR.out.fr HI.out id).cell lj
      have HSj := hide (HS.out j lj)
      have hbj := HB.out _ (List.getElem_mem lj)
      have hgd : X.getD j 0 = X[j] := by simp [List.getD, lj]
      rw [hgd] at hc
      clear hgd
      generalize X[j]'lj = x at *
      generalize hm : Gr.grt (X.take j) = m at *
      have f0 : (0 : Int) ≤ (j : Int) := by omega
      have f1 : (j : Int) < (n : Int) := by omega
      rcases hbj with rfl | hx
      · have HSk := hide (show Gr.grt (X.take (j + 1)) = m by rw [HSj.out, if_pos rfl])
        go_wp2
        go_roundw
        case rel => exact ⟨j + 1, by omega, by go_num, by rw [HSk.out], HI⟩
        case measure => simp [intOf]; omega
      · have HSk := hide (show Gr.grt (X.take (j + 1)) = max m x by rw [HSj.out, if_neg (by unfold FAR; omega)])
        have hne : ¬ ((x : Int) = 18446744073709551615) := by omega
        go_wp2
        go_roundw
        case rel => exact ⟨j + 1, by omega, by go_num, by rw [HSk.out]; go_num, HI⟩
        case measure => simp [intOf]; omega
    · obtain rfl : j = n := by omega
      have HE := hide (show X.take j = X from List.take_of_length_le (by rw [HX.out]; exact Nat.le_refl _))
      rw [HE.out] at hsm ⊢
      obtain ⟨m, hm⟩ : ∃ m, Gr.grt X = m := ⟨_, rfl⟩
      rw [hm] at hsm ⊢
      have HMM := hide hm
      clear hm
      have f5 : IntKind.i64.wrap (m : Int) = (m : Int) := by simp only [IntKind.wrap, IntKind.bits, IntKind.signed]; simp; omega
      go_wp2
      go_ret
      exact ⟨by rw [HMM.out]; rfl, HI.out⟩
end Go.Proofs.Ytjdbjahgimlhbaa
end
