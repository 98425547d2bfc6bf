/- A SHARD THAT CAME IN, opened. -/
import Derived.Test.YtknmoijbnplnoaaPair
set_option linter.unusedVariables false
set_option maxRecDepth 100000
namespace Go.Proofs.Ytknmoijbnplnoaa.frame
open Go.ChangeShapes Go.WideShapes Go.ChangeAt Go.RowKit Go.Deep
open Go.ChangeMaps (open_string shut_string)

section
variable {H : Type} {enc : TypeId × Value → H} {W W' : World} {base : Nat} {t : TypeId} {v : Value} {d : DataW H} {ps : List MemPlace}
theorem lists_cells {fuel : Nat} {cs : List Value} {x : DataW H × List MemPlace} (h : DataW.trod enc Try.prog W 0 (fun _ => true) true fuel 39 cs = some x) :
    ∃ A m c, ∃ L : List (List Int), cs = [.slice A m c] ∧ ListsAt W W.heap.size A m L ∧ m ≤ 9223372036854775807 := by
  rcases open_slice1 Try.underlying39 (by kernel_rfl) h with ⟨hcs, _⟩ | ⟨a, len, cap, m, n, V, D, Pl, hcs, _, hl, hm, hmm, _, hV⟩
  · exact ⟨none, 0, 0, [], hcs, ⟨rfl, [], Reads.none_, fun i l h => by simp at h⟩, by omega⟩
  · have hmm' : m = cap := by simpa using hmm
    obtain ⟨f, hf⟩ := choose_lt (α := List Int) (p := fun i zs => ∃ A' c, V i = .slice A' zs.length c ∧ Reads W W.heap.size 1 A' zs.length (zs.map (Value.int .i64)) ∧ zs.length ≤ 9223372036854775807) (n := len) (fun i hi => by
      obtain ⟨_, h2⟩ := hV i (by omega)
      obtain ⟨A', q, c, zs, e, hr, h3, h4, _⟩ := ints_cells Try.underlying84 Try.underlying3 (by kernel_rfl) h2
      have hz : zs.length = q := by have := hr.1; simpa using this
      subst hz
      refine ⟨zs, A', c, (List.cons.inj e).1, hr, ?_⟩
      unfold maxLen at h4
      omega)
    refine ⟨some a, len, cap, (List.range len).map f, hcs, ⟨by simp, (List.range len).map V, ⟨by simp, fun h0 => ?_⟩, fun i l hil => ?_⟩, by unfold maxLen at hm; omega⟩
    · obtain ⟨h1, _⟩ := hV 0 (by omega)
      have hb := World.block_lt_of_cell? W _ h1
      obtain ⟨b, o, s⟩ := a
      have hs : s = none := by simpa [Addr.add] using World.cell?_spot h1
      subst hs
      refine ⟨b, o, rfl, by simpa [Addr.add] using hb, fun j u hu => ?_⟩
      have hj : j < len := by
        have := (List.getElem?_eq_some_iff.1 hu).1
        simpa using this
      obtain ⟨h2, _⟩ := hV j (by omega)
      rw [Addr.add_lit] at h2
      rw [h2, ← hu]
      simp [hj]
    · have hi : i < len := by
        have := (List.getElem?_eq_some_iff.1 hil).1
        simpa using this
      have e : f i = l := by simpa [hi] using hil
      obtain ⟨A', c, e1, e2, e3⟩ := hf i hi
      rw [e] at e1 e2 e3
      exact ⟨A', c, by simp [hi, e1], e2, e3⟩

theorem open_shard (hv : Value.okWide Try.prog W .any base 41 v) (h : DataW.Trod enc Try.prog W 0 (fun _ => true) true 41 v d ps) :
    ∃ fr to A m c, ∃ L : List (List Int), v = .agg #[.int .i64 fr, .int .i64 to, .slice A m c] ∧ ListsAt W W.heap.size A m L ∧ m ≤ 9223372036854775807 := by
  obtain ⟨cs, rfl, hsz⟩ := okWide_struct Try.underlying41 hv
  rw [show Try.prog.cellsOf 41 = 3 by kernel_rfl] at hsz
  obtain ⟨fuel, hf⟩ := h
  obtain ⟨y0, y1, n, _, hl, h0, h1⟩ := trod_struct2 Try.underlying41 hf
  obtain ⟨l⟩ := cs
  match l, hsz with
  | [u0, u1, u2], _ =>
    simp only [show Try.prog.cellsOf 38 = 2 by kernel_rfl, show Try.prog.cellsOf 39 = 1 by kernel_rfl] at h0 h1
    obtain ⟨z0, z1, n', _, _, g0, g1⟩ := trod_struct2 Try.underlying38 h0
    simp only [show Try.prog.cellsOf 3 = 1 by kernel_rfl] at g0 g1
    obtain ⟨fr, e0, _⟩ := DataW.trod_int Try.underlying3 g0
    obtain ⟨to, e1, _⟩ := DataW.trod_int Try.underlying3 g1
    obtain ⟨A, m, c, L, e2, hL, hm⟩ := lists_cells h1
    simp [Value.cells] at e0 e1 e2
    subst e0
    subst e1
    subst e2
    exact ⟨_, _, _, _, _, L, rfl, hL, hm⟩
end
end Go.Proofs.Ytknmoijbnplnoaa.frame
