/- THE REFERENCE's ROWS IN MEMORY: a row with spare room; Copy. -/
import Derived.Test.YtjdbjahgimlhbaaVec
import Derived.Deep.RegionLaw
import Derived.Deep.RegionLawGrows
import Derived.Deep.RegionHeld3
set_option linter.unusedVariables false
set_option maxRecDepth 100000
namespace Go.Proofs.Ytjdbjahgimlhbaa
open Go.RowKit

/-- block g begins with the numbers xs; behind them spare room -/
def RowAt (w : World) (g : Nat) (xs : List Nat) : Prop := (∃ sp : List Value, Blk w g 36 (xs.map u64v ++ sp).toArray) ∧ ∀ x ∈ xs, x < 18446744073709551616
section
variable {w w' : World} {g : Nat} {xs : List Nat} {S : Nat → Prop}
theorem RowAt.fr (h : RowAt w g xs) (hf : Fr S w w') (hg : ¬ S g) : RowAt w' g xs := by
  obtain ⟨⟨sp, h1⟩, h2⟩ := h
  exact ⟨⟨sp, h1.fr hf hg⟩, h2⟩
theorem RowAt.lt (h : RowAt w g xs) : g < w.heap.size := by
  obtain ⟨⟨sp, h1⟩, h2⟩ := h
  exact h1.lt
theorem RowAt.cell (h : RowAt w g xs) {i : Nat} (hi : i < xs.length) : w.cell? ⟨g, i, none⟩ = some (.int .u64 (xs.getD i 0 : Nat)) := by
  obtain ⟨⟨sp, h1⟩, h2⟩ := h
  rw [h1.cell i]
  simp [hi, u64v, List.getElem?_append_left]
theorem RowAt.frozen (h : RowAt w g xs) (i : Nat) : w.frozen? ⟨g, i, none⟩ = false := by
  obtain ⟨⟨sp, h1⟩, h2⟩ := h
  exact h1.frozen i
theorem RowAt.set_ (h : RowAt w g xs) {i y : Nat} (hi : i < xs.length) (hy : y < 18446744073709551616) : RowAt (w.setCell ⟨g, i, none⟩ (.int .u64 (y : Int))) g (xs.set i y) := by
  obtain ⟨⟨sp, h1⟩, h2⟩ := h
  refine ⟨⟨sp, ?_⟩, ?_⟩
  · have := h1.set_ i (.int .u64 (y : Int))
    simpa [List.map_set, u64v, List.set_append_left, hi] using this
  · intro x hx
    rcases List.mem_or_eq_of_mem_set hx with h' | h'
    · exact h2 x h'
    · omega
theorem RowAt.far (h : RowAt w g xs) {p : Addr} (hp : g ≠ p.block) (u : Value) : RowAt (w.setCell p u) g xs := by
  obtain ⟨⟨sp, h1⟩, h2⟩ := h
  exact ⟨⟨sp, h1.far hp u⟩, h2⟩
theorem RowAt.alloc (h : RowAt w g xs) (o : Obj) : RowAt (w.alloc o) g xs := by
  obtain ⟨⟨sp, h1⟩, h2⟩ := h
  exact ⟨⟨sp, h1.alloc o⟩, h2⟩
theorem RowAt.reads (h : RowAt w g xs) : Reads w w.heap.size 1 (some ⟨g, 0, none⟩) xs.length (xs.map u64v) := by
  obtain ⟨⟨sp, h1⟩, h2⟩ := h
  refine ⟨by simp, fun _ => ⟨g, 0, rfl, h1.lt, fun j u hu => ?_⟩⟩
  have hj : j < (xs.map u64v).length := (List.getElem?_eq_some_iff.1 hu).1
  rw [Nat.zero_add, h1.cell j, ← hu, List.getElem?_toArray, List.getElem?_append_left hj]
end
theorem RowAt.of_own {w : World} {base n : Nat} {v : Value} {xs : List Nat} (h : w.ownsRow base 36 1 v n (xs.map u64v)) (h0 : 1 ≤ n) (hx : ∀ x ∈ xs, x < 18446744073709551616) :
    ∃ g c, v = .slice (some ⟨g, 0, none⟩) n c ∧ base ≤ g ∧ RowAt w g xs := by
  rcases h.2 with ⟨_, h1⟩ | ⟨g, cap, cur, rfl, hb, hg, _, _, hs, ht⟩
  · omega
  · refine ⟨g, cap, rfl, hb, ⟨cur.toList.drop n, ?_⟩, hx⟩
    rw [← ht, Nat.mul_one, List.take_append_drop]
    exact hg

theorem step_copy {ops : Array Oper} {o : Oper} {a : Act} {w : World} {K : Act → World → Prop} {Q : Exit → Act → World → Prop} {E : Prop}
    (hg : o.guard = none) (s x : Operand) (hop : o.op = Op.call { callee := Callee.builtin Builtin.append, args := #[s, x], argTypes := #[49, 49] })
    (h : Addr) (hs : a.eval s = .slice (some h) 0 0) (b q n c B : Nat) (xs : List Nat) (hx : a.eval x = .slice (some ⟨b, q, none⟩) n c) (hr : Reads w B 1 (some ⟨b, q, none⟩) n (xs.map u64v)) (h1 : 1 ≤ n) (hn : n ≤ 256) (hx64 : ∀ x ∈ xs, x < 18446744073709551616)
    (hK : ∀ g cap w', RowAt w' g xs → Fr (fun _ => False) w w' → w.heap.size ≤ g → K (a.put o.dst (.slice (some ⟨g, 0, none⟩) n cap)) w') :
    if Region.wanted o (yielded ops a.tmps) = true then Oper.wp Try.prog o a w K Q else E := by
  obtain ⟨i0, hi, hz0, hz1, hz2⟩ := info_parts u64_info
  obtain ⟨b', o', hA, _, hc⟩ := hr.2 h1
  injection hA with hA
  injection hA with e1 e2
  subst e1
  subst e2
  refine step_append_grows hg s x 49 hop 36 i0 (.int .u64 0) 1 8 Try.underlying49 hi hz0 hz1 hz2 rfl (by decide) (some h) 0 0 [] hs (by simp) rfl (by simp) ⟨b, q, none⟩ n c (xs.map u64v) hx (by have := hr.1; simpa using this)
    (fun j u hu => by rw [Addr.add_lit]; exact hc j u hu) (by simp [u64v, Value.oneCell']) (by omega) (by simp [maxLen]; omega) (by omega) fun v' w' ho hgr => ?_
  rw [Nat.zero_add] at ho
  rw [List.nil_append] at ho
  obtain ⟨g, cap, rfl, hge, hrow⟩ := RowAt.of_own ho h1 hx64
  exact hK g cap w' hrow ((Fr.of_grown hgr).mono (by simp)) hge

theorem held_step {W0 w1 w2 : World} {p q : Addr} {u v : Value} {r : Nat} {t : TypeId} (h : w1.cell? p = some u ∧ w1.cell? q = some v ∧ Fr (fun k => k = r) W0 w1 ∧ ∃ x y, Blk w1 r t #[x, y]) (hf : Fr (fun _ => False) w1 w2) :
    w2.cell? p = some u ∧ w2.cell? q = some v ∧ Fr (fun k => k = r) W0 w2 ∧ ∃ x y, Blk w2 r t #[x, y] := by
  obtain ⟨h1, h2, h3, x, y, h4⟩ := h
  exact ⟨hf.cell h1 id, hf.cell h2 id, h3.then_ hf, x, y, h4.fr hf id⟩
theorem held_store {W0 w1 : World} {p q : Addr} {u v u' v' : Value} {r : Nat} {t : TypeId} (hp : p.block ≠ r) (hq : q.block ≠ r) (h : w1.cell? p = some u ∧ w1.cell? q = some v ∧ Fr (fun k => k = r) W0 w1 ∧ ∃ x y, Blk w1 r t #[x, y]) :
    ((w1.setCell ⟨r, 0, none⟩ u').setCell ⟨r, 1, none⟩ v').cell? p = some u ∧ ((w1.setCell ⟨r, 0, none⟩ u').setCell ⟨r, 1, none⟩ v').cell? q = some v ∧ Fr (fun k => k = r) W0 ((w1.setCell ⟨r, 0, none⟩ u').setCell ⟨r, 1, none⟩ v') ∧ ∃ x y, Blk ((w1.setCell ⟨r, 0, none⟩ u').setCell ⟨r, 1, none⟩ v') r t #[x, y] := by
  obtain ⟨h1, h2, h3, x, y, h4⟩ := h
  have hf : Fr (fun k => k = r) w1 ((w1.setCell ⟨r, 0, none⟩ u').setCell ⟨r, 1, none⟩ v') := ((Fr.refl (fun k => k = r) _).setCell (p := ⟨r, 0, none⟩) (.inl rfl) _).setCell (p := ⟨r, 1, none⟩) (.inl rfl) _
  exact ⟨hf.cell h1 hp, hf.cell h2 hq, h3.trans hf (fun k h => .inl h), u', v', (h4.set_ 0 u').set_ 1 v'⟩
theorem held_alloc (w : World) (o : Obj) : Fr (fun _ => False) w.drew (w.alloc o).drew := ⟨rfl, rfl, rfl, by simp, fun k hk _ => Below.heap_alloc w o k hk⟩
theorem held_alloc' (w : World) (o : Obj) : Fr (fun _ => False) w (w.alloc o) := (Fr.refl _ _).alloc _
theorem held_drew (w : World) : Fr (fun _ => False) w w.drew := (Fr.refl _ _).drew
theorem held_fr {W0 w' : World} {a b c : Prop} {S : Nat → Prop} (h : a ∧ b ∧ Fr S W0 w' ∧ c) : Fr S W0 w' := h.2.2.1
theorem held_blk {w' : World} {a b c : Prop} {r : Nat} {t : TypeId} (h : a ∧ b ∧ c ∧ ∃ x y, Blk w' r t #[x, y]) : ∃ x y, Blk w' r t #[x, y] := h.2.2.2

end Go.Proofs.Ytjdbjahgimlhbaa
