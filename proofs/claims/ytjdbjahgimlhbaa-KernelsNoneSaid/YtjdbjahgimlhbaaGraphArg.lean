/- A GRAPH THAT CAME IN, opened. -/
import Derived.Test.YtjdbjahgimlhbaaInts
import Derived.Test.YtjdbjahgimlhbaaEdMade
set_option linter.unusedVariables false
set_option maxRecDepth 100000
namespace Go.Proofs.Ytjdbjahgimlhbaa.frame
open Go.ChangeShapes Go.WideShapes Go.ChangeAt Go.RowKit Go.Deep
open Go.ChangeMaps (open_string shut_string)
open Gr (E)

section
variable {H : Type} {enc : TypeId × Value → H} {W W' : World} {base : Nat} {t : TypeId} {v : Value} {d : DataW H} {ps : List MemPlace}
theorem u8_nat {z : Int} (h : (Lit.int .u8 z).wf = true) : ∃ n : Nat, z = n ∧ n < 256 := by
  simp [Lit.wf, IntKind.min, IntKind.max, IntKind.signed, IntKind.bits] at h
  exact ⟨z.toNat, by omega, by omega⟩
theorem open_u8 (hv : Value.okWide Try.prog W .any base 5 v) (h : DataW.Trod enc Try.prog W 0 (fun _ => true) true 5 v d ps) : ∃ n : Nat, v = .int .u8 (n : Int) ∧ n < 256 := by
  obtain ⟨a, rfl, rfl, rfl, hw⟩ := open_int Try.underlying5 hv h
  obtain ⟨n, rfl, hn⟩ := u8_nat hw
  exact ⟨n, rfl, hn⟩
theorem pair8_cells {fuel : Nat} {cs : List Value} {x : DataW H × List MemPlace} (h : DataW.trod enc Try.prog W 0 (fun _ => true) true fuel 58 cs = some x) (hl : cs.length = 2) :
    ∃ e : E, cs = [.int .u8 (e.1 : Int), .int .u8 (e.2 : Int)] ∧ e.1 < 256 ∧ e.2 < 256 := by
  obtain ⟨xs, m, _, _, hcl, hxl, hi⟩ := DataW.trod_array Try.underlying58 h
  match cs, hl with
  | [u, v], _ =>
    have h0 := hi 0 (by omega)
    have h1 := hi 1 (by omega)
    simp only [show Try.prog.cellsOf 5 = 1 by kernel_rfl] at h0 h1
    rw [List.getElem?_eq_getElem (by omega)] at h0 h1
    obtain ⟨a, e0, _, w0⟩ := DataW.trod_int Try.underlying5 h0
    obtain ⟨b, e1, _, w1⟩ := DataW.trod_int Try.underlying5 h1
    obtain ⟨a, rfl, ha⟩ := u8_nat w0
    obtain ⟨b, rfl, hb⟩ := u8_nat w1
    simp at e0 e1
    exact ⟨(a, b), by rw [e0, e1], ha, hb⟩
theorem pairs8_cells {fuel : Nat} {cs : List Value} {x : DataW H × List MemPlace} (h : DataW.trod enc Try.prog W 0 (fun _ => true) true fuel 22 cs = some x) :
    ∃ A m c, ∃ l : List E, cs = [.slice A m c] ∧ Reads W W.heap.size 2 A m (gcells l) ∧ l.length = m ∧ m ≤ 9223372036854775807 ∧ (∀ e ∈ l, e.1 < 256 ∧ e.2 < 256) := by
  rcases open_slice Try.underlying22 h with ⟨hcs, _⟩ | ⟨a, len, cap, m, n, D, Pl, hcs, _, hl, hm, hmm, _, hV⟩
  · exact ⟨none, 0, 0, [], hcs, Reads.none_, rfl, by omega, by simp⟩
  · have hmm' : m = cap := by simpa using hmm
    rw [show Try.prog.cellsOf 58 = 2 by kernel_rfl] at hV
    obtain ⟨f, hf⟩ := choose_lt (α := E) (p := fun i e => W.cell? (a.add (i * 2)) = some (.int .u8 (e.1 : Int)) ∧ W.cell? (a.add (i * 2 + 1)) = some (.int .u8 (e.2 : Int)) ∧ e.1 < 256 ∧ e.2 < 256) (n := len) (fun i hi => by
      obtain ⟨cs', h1, h2⟩ := hV i (by omega)
      obtain ⟨_, hlen, hcell⟩ := World.cells?_some h1
      obtain ⟨e, rfl, e1, e2⟩ := pair8_cells h2 hlen
      have g0 := hcell 0 (by omega)
      have g1 := hcell 1 (by omega)
      rw [add_add] at g0 g1
      exact ⟨e, by simpa using g0, by simpa using g1, e1, e2⟩)
    refine ⟨some a, len, cap, (List.range len).map f, hcs, ⟨?_, fun h0 => ?_⟩, by simp, by unfold maxLen at hm; omega, ?_⟩
    · have : ∀ l : List E, (gcells l).length = l.length * 2 := fun l => by
        induction l with
        | nil => rfl
        | cons e l ih => simp only [gcells, List.flatMap_cons, List.length_append, List.length_cons, List.length_nil] at ih ⊢; omega
      rw [this]; simp
    · obtain ⟨h1, _⟩ := hf 0 h0
      have hb := World.block_lt_of_cell? W _ h1
      obtain ⟨b, o, s⟩ := a
      have hs : s = none := by simpa [Addr.add] using World.cell?_spot h1
      subst hs
      refine ⟨b, o, rfl, by simpa [Addr.add] using hb, fun j u hu => ?_⟩
      have hj : j < len * 2 := by
        have h2 := (List.getElem?_eq_some_iff.1 hu).1
        have : ∀ l : List E, (gcells l).length = l.length * 2 := fun l => by
          induction l with
          | nil => rfl
          | cons e l ih => simp only [gcells, List.flatMap_cons, List.length_append, List.length_cons, List.length_nil] at ih ⊢; omega
        rw [this] at h2; simpa using h2
      obtain ⟨c1, c2, _⟩ := hf (j / 2) (by omega)
      obtain ⟨d1, d2⟩ := gcells_at ((List.range len).map f) (j / 2) (f (j / 2)) (by simp [show j / 2 < len by omega])
      rw [Addr.add_lit] at c1 c2
      rcases Nat.mod_two_eq_zero_or_one j with h2 | h2
      · rw [show 2 * (j / 2) = j by omega] at d1
        rw [show j / 2 * 2 = j by omega] at c1
        rw [c1, ← hu, d1]
      · rw [show 2 * (j / 2) + 1 = j by omega] at d2
        rw [show j / 2 * 2 + 1 = j by omega] at c2
        rw [c2, ← hu, d2]
    · intro e he
      obtain ⟨i, hi, rfl⟩ := List.mem_map.1 he
      exact (hf i (List.mem_range.1 hi)).2.2
theorem open_graph (hv : Value.okWide Try.prog W .any base 24 v) (h : DataW.Trod enc Try.prog W 0 (fun _ => true) true 24 v d ps) :
    ∃ G A m c, ∃ l : List E, v = .agg #[.int .u8 ((G : Nat) : Int), .slice A m c] ∧ Reads W W.heap.size 2 A m (gcells l) ∧ l.length = m ∧ m ≤ 9223372036854775807 ∧ G < 256 ∧ (∀ e ∈ l, e.1 < 256 ∧ e.2 < 256) := by
  obtain ⟨cs, rfl, hsz⟩ := okWide_struct Try.underlying24 hv
  rw [show Try.prog.cellsOf 24 = 2 by kernel_rfl] at hsz
  obtain ⟨fuel, hf⟩ := h
  obtain ⟨y0, y1, n, _, hl, h0, h1⟩ := trod_struct2 Try.underlying24 hf
  obtain ⟨l⟩ := cs
  match l, hsz with
  | [u0, u1], _ =>
    simp only [show Try.prog.cellsOf 5 = 1 by kernel_rfl, show Try.prog.cellsOf 22 = 1 by kernel_rfl] at h0 h1
    obtain ⟨G, e0, _, w0⟩ := DataW.trod_int Try.underlying5 h0
    obtain ⟨A, m, c, l, e1, hr, hlm, hm, hx⟩ := pairs8_cells h1
    obtain ⟨G, rfl, hG⟩ := u8_nat w0
    simp [Value.cells] at e0 e1
    subst e0
    subst e1
    exact ⟨G, A, m, c, l, rfl, hr, hlm, hm, hG, hx⟩
theorem open_pair8 (hv : Value.okWide Try.prog W .any base 58 v) (h : DataW.Trod enc Try.prog W 0 (fun _ => true) true 58 v d ps) :
    ∃ a b : Nat, v = .agg #[.int .u8 (a : Int), .int .u8 (b : Int)] ∧ a < 256 ∧ b < 256 := by
  obtain ⟨cs, rfl, hsz⟩ := okWide_array Try.underlying58 hv
  rw [show Try.prog.cellsOf 58 = 2 by kernel_rfl] at hsz
  obtain ⟨fuel, hf⟩ := h
  obtain ⟨l⟩ := cs
  have hl : l.length = 2 := hsz
  obtain ⟨e, he, h1, h2⟩ := pair8_cells (cs := l) hf hl
  subst he
  exact ⟨e.1, e.2, rfl, h1, h2⟩
end
end Go.Proofs.Ytjdbjahgimlhbaa.frame
