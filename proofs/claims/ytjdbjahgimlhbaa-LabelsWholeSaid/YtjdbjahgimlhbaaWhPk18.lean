/- Parts of the proof of several laws: no conditions of their own. -/
import Derived.Test.YtjdbjahgimlhbaaWhPk0
import Derived.ProofKit
import Derived.OpenShut
import Derived.ShutString
import Derived.ChangeOld
import Derived.Below
import Derived.Carry
import Derived.Deep.Slices
import Derived.Deep.Fields
import Derived.ChangeSame
import Derived.Test.YtjdbjahgimlhbaaWhPk1
import Derived.Test.YtjdbjahgimlhbaaWhPk17
section
set_option linter.unusedVariables false
namespace Go.Proofs.Ytjdbjahgimlhbaa.frame
open Go.ChangeShapes Go.WideShapes Go.ChangeAt Go.RowKit
open Go.ChangeMaps (open_string shut_string)

theorem own : ownKnob Try.prog.godebug = none := by kernel_rfl
theorem laidOut : laidOutB Try.prog = true := by kernel_rfl

section
variable {H : Type} {enc : TypeId × Value → H} {W W' : World} {base : Nat} {t : TypeId} {v : Value} {d : DataW H} {ps : List MemPlace}
theorem keep (hr : Try.prog.readableRec t = true) (hrow : t < Try.prog.types.size) (h : DataW.Trod enc Try.prog W 0 (fun _ => true) true t v d ps) (bel : Below W.heap.size W W') :
    DataW.Trod enc Try.prog W' 0 (fun b => decide (b < W.heap.size)) true t v d ps :=
  Below.trod laidOut hr hrow h bel (by obtain ⟨m, hm⟩ := h; exact DataW.trod_lt m _ _ _ hm)

/-- a slice of integers of one kind, as it came in -/
theorem open_ints' {P : Program} {k : IntKind} {e : TypeId} (ht : P.underlying t = some (.slice e)) (he : P.underlying e = some (.int k)) (hc : P.cellsOf e = 1) (hv : Value.okWide P W .any base t v) (h : DataW.Trod enc P W 0 (fun _ => true) true t v d ps) :
    ∃ A n c, ∃ zs : List Int, v = .slice A n c ∧ Reads W W.heap.size 1 A n (zs.map (Value.int k)) ∧ n ≤ c ∧ c ≤ maxLen ∧ (∀ z ∈ zs, (Lit.int k z).wf = true) := by
  obtain ⟨A, n, c, rfl⟩ := okWide_slice ht hv
  obtain ⟨fuel, hf⟩ := h
  rcases open_ints ht he hc hf with ⟨hcs, _⟩ | ⟨x, l, cp, zs, hcs, _, hl, hm, hz, hx, hcell, hwz⟩
  · simp [Value.cells] at hcs
    obtain ⟨rfl, rfl, rfl⟩ := hcs
    exact ⟨_, _, _, [], rfl, Reads.none_, Nat.le_refl _, by unfold maxLen; omega, by simp⟩
  · simp [Value.cells] at hcs
    obtain ⟨rfl, rfl, rfl⟩ := hcs
    have hz' : zs.length = c := by simpa using hz
    refine ⟨_, _, _, zs.take n, rfl, ⟨by simp; omega, fun hn => ?_⟩, hl, hm, fun z hz => hwz z (List.mem_of_mem_take hz)⟩
    have h0 := hcell 0 (by omega)
    have hb := World.block_lt_of_cell? W _ h0
    obtain ⟨b, o, s⟩ := x
    have hs : s = none := by simpa [Addr.add] using World.cell?_spot h0
    subst hs
    refine ⟨b, o, rfl, by simpa [Addr.add] using hb, fun j u hu => ?_⟩
    have hj : j < n := by
      have := (List.getElem?_eq_some_iff.1 hu).1
      simp at this
      omega
    have hc := hcell j (by omega)
    rw [Addr.add_lit] at hc
    rw [hc, ← hu]
    simp [List.getD, hj, show j < zs.length by omega]

theorem okWide_array {P : Program} {n : Nat} {e : TypeId} (ht : P.underlying t = some (.array n e)) (h : Value.okWide P W .any base t v) : ∃ cs, v = .agg cs ∧ cs.size = P.cellsOf t := by
  simp only [Value.okWide, ht] at h
  obtain ⟨cs, h1, h2, _⟩ := h
  exact ⟨cs, h1, h2⟩

theorem each_int {Q : Int → Prop} {k : IntKind} : ∀ cs : List Value, (∀ i, i < cs.length → ∃ z : Int, cs[i]? = some (.int k z) ∧ Q z) → ∃ zs : List Int, cs = zs.map (Value.int k) ∧ ∀ z ∈ zs, Q z
  | [], _ => ⟨[], rfl, by simp⟩
  | c :: cs, h => by
    obtain ⟨z, hz, hq⟩ := h 0 (by simp)
    obtain ⟨zs, hzs, hqs⟩ := each_int cs (fun i hi => by simpa using h (i + 1) (by simpa using hi))
    refine ⟨z :: zs, ?_, ?_⟩
    · simp at hz
      simp [hz, ← hzs]
    · intro y hy
      rcases List.mem_cons.1 hy with rfl | hy
      · exact hq
      · exact hqs y hy

/-- an array of integers by value -/
theorem open_arr {P : Program} {n : Nat} {e : TypeId} {k : IntKind} (ht : P.underlying t = some (.array n e)) (he : P.underlying e = some (.int k)) (hc : P.cellsOf e = 1) (hn : P.cellsOf t = n) (hv : Value.okWide P W .any base t v) (h : DataW.Trod enc P W 0 (fun _ => true) true t v d ps) :
    ∃ zs : List Int, v = .agg (zs.map (Value.int k)).toArray ∧ zs.length = n ∧ (∀ z ∈ zs, (Lit.int k z).wf = true) := by
  obtain ⟨cs, rfl, hsz⟩ := okWide_array ht hv
  obtain ⟨fuel, hf⟩ := h
  obtain ⟨xs, m, _, _, hl, hxl, hi⟩ := DataW.trod_array ht hf
  obtain ⟨l⟩ := cs
  have hlen : l.length = n := hsz.trans hn
  obtain ⟨zs, rfl, hq⟩ := each_int (Q := fun z => (Lit.int k z).wf = true) (k := k) l (fun i hil => by
    have h := hi i (by omega)
    rw [hc, Nat.mul_one] at h
    have e1 : ((Value.cells (.agg ⟨l⟩)).toList.drop i).take 1 = [l[i]] := by
      show (l.drop i).take 1 = _
      rw [List.drop_eq_getElem_cons hil]
      rfl
    rw [e1, List.getElem?_eq_getElem (by omega)] at h
    obtain ⟨z, hz, _, wz⟩ := DataW.trod_int he h
    simp only [List.cons.injEq, and_true] at hz
    exact ⟨z, by rw [List.getElem?_eq_getElem hil, hz], wz⟩)
  exact ⟨zs, rfl, by simpa using hlen, hq⟩

/-- integers of 64 bits as numbers -/
theorem u64_nums {zs : List Int} (hz : ∀ z ∈ zs, (Lit.int .u64 z).wf = true) : ∃ xs : List Nat, zs.map (Value.int .u64) = xs.map (fun x => .int .u64 ((x : Nat) : Int)) ∧ xs.length = zs.length ∧ (∀ x ∈ xs, x < 18446744073709551616) := by
  have hb : ∀ z ∈ zs, 0 ≤ z ∧ z < 18446744073709551616 := fun z hzz => by
    have := hz z hzz
    simp [Lit.wf, IntKind.min, IntKind.max, IntKind.signed, IntKind.bits] at this
    omega
  refine ⟨zs.map Int.toNat, ?_, by simp, fun x hx => ?_⟩
  · rw [List.map_map]
    apply List.map_congr_left
    intro z hzz
    have := hb z hzz
    simp
    omega
  · obtain ⟨z, hzz, rfl⟩ := List.mem_map.1 hx
    have := hb z hzz
    omega

set_option maxRecDepth 100000 in
theorem open_u64s (hv : Value.okWide Try.prog W .any base 49 v) (h : DataW.Trod enc Try.prog W 0 (fun _ => true) true 49 v d ps) :
    ∃ A n c, ∃ xs : List Nat, v = .slice A n c ∧ Reads W W.heap.size 1 A n (xs.map fun x => .int .u64 ((x : Nat) : Int)) ∧ n ≤ c ∧ c ≤ maxLen ∧ (∀ x ∈ xs, x < 18446744073709551616) := by
  obtain ⟨A, n, c, zs, rfl, hr, hn, hm, hz⟩ := open_ints' Try.underlying49 Try.underlying36 (by kernel_rfl) hv h
  have hb : ∀ z ∈ zs, 0 ≤ z ∧ z < 18446744073709551616 := fun z hzz => by
    have := hz z hzz
    simp [Lit.wf, IntKind.min, IntKind.max, IntKind.signed, IntKind.bits] at this
    omega
  have e : (zs.map Int.toNat).map (fun x => Value.int .u64 ((x : Nat) : Int)) = zs.map (Value.int .u64) := by
    rw [List.map_map]
    apply List.map_congr_left
    intro z hzz
    have := hb z hzz
    simp
    omega
  refine ⟨A, n, c, zs.map Int.toNat, rfl, by rw [e]; exact hr, hn, hm, fun x hx => ?_⟩
  obtain ⟨z, hzz, rfl⟩ := List.mem_map.1 hx
  have := hb z hzz
  omega
end

section
open Go.Deep
variable {H : Type} {enc : TypeId × Value → H} {P : Program} {w : World} {base : Nat} {spare : Nat → Bool} {held : Bool}
/- an argument that is a slice of structs of one-cell fields (the guide's extra-structs, 1) -/
theorem open_slice_fields {t e : TypeId} {fs : Array Field} {fuel : Nat} {cs : List Value} {x : DataW H × List MemPlace} (ht : P.underlying t = some (.slice e)) (he : P.underlying e = some (.struct fs))
    (hone : oneCellFields P fs = true) (hC : P.cellsOf e = fs.size) (h : DataW.trod enc P w base spare held fuel t cs = some x) :
    (cs = [.slice none 0 0] ∧ x = (.nil, [])) ∨
    ∃ (a : Addr) (len cap m : Nat) (D : Nat → DataW H) (Pl : Nat → List MemPlace), cs = [.slice (some a) len cap] ∧ base ≤ a.block ∧ len ≤ cap ∧ cap ≤ maxLen ∧ m = (if spare a.block then cap else len) ∧
      x = (.slice ((List.range len).map D) ((List.range (m - len)).map fun j => D (len + j)), MemPlace.row a (m * fs.size) ++ (List.range m).flatMap Pl) ∧
      ∀ i, i < m → ∃ (ys : List (DataW H × List MemPlace)) (n : Nat), D i = .agg (ys.map (·.1)) ∧ Pl i = ys.flatMap (·.2) ∧ ys.length = fs.size ∧
        ∀ (j : Nat) (f : Field), fs[j]? = some f → ∃ (v : Value) (y : DataW H × List MemPlace), w.cell? (a.add (i * fs.size + j)) = some v ∧ ys[j]? = some y ∧ DataW.trod enc P w base spare held n f.type [v] = some y := by
  rcases open_slice ht h with h0 | ⟨a, len, cap, m, n, D, Pl, hcs, hb, hl, hm, hmm, hx, hi⟩
  · exact .inl h0
  · refine .inr ⟨a, len, cap, m, D, Pl, hcs, hb, hl, hm, hmm, by rw [hC] at hx; exact hx, fun i him => ?_⟩
    obtain ⟨cs', hc, ht'⟩ := hi i him
    rw [hC] at hc
    obtain ⟨ys, n', hn', hy, hlen, hyl, hf⟩ := DataW.trod_struct he ht'
    obtain ⟨_, hcl, hat⟩ := World.cells?_some hc
    simp only [Prod.mk.injEq] at hy
    refine ⟨ys, n', hy.1, hy.2, hyl, fun j f hj => ?_⟩
    obtain ⟨ho, hk⟩ := hone_of hone j f hj
    have hjl : j < fs.size := (Array.getElem?_eq_some_iff.1 hj).1
    have hcell := hat j hjl
    have hv : cs'[j]? = some (cs'[j]'(by omega)) := List.getElem?_eq_getElem (by omega)
    have h1 := hf j f hj
    rw [ho, hk] at h1
    have hone' : (cs'.drop j).take 1 = [cs'[j]'(by omega)] := by
      rw [List.drop_eq_getElem_cons (by omega)]
      rfl
    rw [hone'] at h1
    have hys : ys[j]? = some (ys[j]'(by omega)) := List.getElem?_eq_getElem (by omega)
    refine ⟨_, _, ?_, hys, h1.trans hys⟩
    rw [← Go.Deep.add_add, hcell, hv]
end
end Go.Proofs.Ytjdbjahgimlhbaa.frame
end
section
set_option linter.unusedVariables false
set_option maxRecDepth 100000
namespace Go.Proofs.Ytjdbjahgimlhbaa.frame
open Go.ChangeShapes Go.WideShapes Go.ChangeAt Go.RowKit
open Go.ChangeMaps (open_string shut_string)

section
variable {H : Type} {enc : TypeId × Value → H} {W W' : World} {base : Nat} {t : TypeId} {v : Value} {d : DataW H} {ps : List MemPlace}
theorem ints_cells {P : Program} {k : IntKind} {e : TypeId} {fuel : Nat} {cs : List Value} {x : DataW H × List MemPlace} (ht : P.underlying t = some (.slice e)) (he : P.underlying e = some (.int k)) (hc : P.cellsOf e = 1) (hf : DataW.trod enc P W 0 (fun _ => true) true fuel t cs = some x) :
    ∃ A n c, ∃ zs : List Int, cs = [.slice A n c] ∧ Reads W W.heap.size 1 A n (zs.map (Value.int k)) ∧ n ≤ c ∧ c ≤ maxLen ∧ (∀ z ∈ zs, (Lit.int k z).wf = true) := by
  rcases open_ints ht he hc hf with ⟨hcs, _⟩ | ⟨x, l, cp, zs, hcs, _, hl, hm, hz, hx, hcell, hwz⟩
  · exact ⟨none, 0, 0, [], hcs, Reads.none_, Nat.le_refl _, by unfold maxLen; omega, by simp⟩
  · have hz' : zs.length = cp := by simpa using hz
    refine ⟨some x, l, cp, zs.take l, hcs, ⟨by simp; omega, fun hn => ?_⟩, hl, hm, fun z hz => hwz z (List.mem_of_mem_take hz)⟩
    have h0 := hcell 0 (by omega)
    have hb := World.block_lt_of_cell? W _ h0
    obtain ⟨b, o, s⟩ := x
    have hs : s = none := by simpa [Addr.add] using World.cell?_spot h0
    subst hs
    refine ⟨b, o, rfl, by simpa [Addr.add] using hb, fun j u hu => ?_⟩
    have hj : j < l := by
      have := (List.getElem?_eq_some_iff.1 hu).1
      simp at this
      omega
    have hc := hcell j (by omega)
    rw [Addr.add_lit] at hc
    rw [hc, ← hu]
    simp [List.getD, hj, show j < zs.length by omega]

theorem u64s_cells {fuel : Nat} {cs : List Value} {x : DataW H × List MemPlace} (hf : DataW.trod enc Try.prog W 0 (fun _ => true) true fuel 49 cs = some x) :
    ∃ A n c, ∃ xs : List Nat, cs = [.slice A n c] ∧ Reads W W.heap.size 1 A n (xs.map u64v) ∧ (∀ x ∈ xs, x < 18446744073709551616) := by
  obtain ⟨A, n, c, zs, h1, hr, hn, hm, hz⟩ := ints_cells Try.underlying49 Try.underlying36 (by kernel_rfl) hf
  obtain ⟨xs, hx, hxl, hxb⟩ := u64_nums hz
  refine ⟨A, n, c, xs, h1, ?_, hxb⟩
  rw [hx] at hr
  exact hr

end
end Go.Proofs.Ytjdbjahgimlhbaa.frame
end
section
set_option linter.unusedVariables false
set_option maxRecDepth 100000
namespace Go.Proofs.Ytjdbjahgimlhbaa.frame
open Go.ChangeShapes Go.WideShapes Go.ChangeAt Go.RowKit Go.Deep
open Go.ChangeMaps (open_string shut_string)
open Gr (E)

section
variable {H : Type} {enc : TypeId × Value → H} {W W' : World} {base : Nat} {t : TypeId} {v : Value} {d : DataW H} {ps : List MemPlace}
theorem u8_nat {z : Int} (h : (Lit.int .u8 z).wf = true) : ∃ n : Nat, z = n ∧ n < 256 := by
  simp [Lit.wf, IntKind.min, IntKind.max, IntKind.signed, IntKind.bits] at h
  exact ⟨z.toNat, by omega, by omega⟩
theorem open_u8 (hv : Value.okWide Try.prog W .any base 5 v) (h : DataW.Trod enc Try.prog W 0 (fun _ => true) true 5 v d ps) : ∃ n : Nat, v = .int .u8 (n : Int) ∧ n < 256 := by
  obtain ⟨a, rfl, rfl, rfl, hw⟩ := open_int Try.underlying5 hv h
  obtain ⟨n, rfl, hn⟩ := u8_nat hw
  exact ⟨n, rfl, hn⟩
theorem pair8_cells {fuel : Nat} {cs : List Value} {x : DataW H × List MemPlace} (h : DataW.trod enc Try.prog W 0 (fun _ => true) true fuel 58 cs = some x) (hl : cs.length = 2) :
    ∃ e : E, cs = [.int .u8 (e.1 : Int), .int .u8 (e.2 : Int)] ∧ e.1 < 256 ∧ e.2 < 256 := by
  obtain ⟨xs, m, _, _, hcl, hxl, hi⟩ := DataW.trod_array Try.underlying58 h
  match cs, hl with
  | [u, v], _ =>
    have h0 := hi 0 (by omega)
    have h1 := hi 1 (by omega)
    simp only [show Try.prog.cellsOf 5 = 1 by kernel_rfl] at h0 h1
    rw [List.getElem?_eq_getElem (by omega)] at h0 h1
    obtain ⟨a, e0, _, w0⟩ := DataW.trod_int Try.underlying5 h0
    obtain ⟨b, e1, _, w1⟩ := DataW.trod_int Try.underlying5 h1
    obtain ⟨a, rfl, ha⟩ := u8_nat w0
    obtain ⟨b, rfl, hb⟩ := u8_nat w1
    simp at e0 e1
    exact ⟨(a, b), by rw [e0, e1], ha, hb⟩
theorem pairs8_cells {fuel : Nat} {cs : List Value} {x : DataW H × List MemPlace} (h : DataW.trod enc Try.prog W 0 (fun _ => true) true fuel 22 cs = some x) :
    ∃ A m c, ∃ l : List E, cs = [.slice A m c] ∧ Reads W W.heap.size 2 A m (gcells l) ∧ l.length = m ∧ m ≤ 9223372036854775807 ∧ (∀ e ∈ l, e.1 < 256 ∧ e.2 < 256) := by
  rcases open_slice Try.underlying22 h with ⟨hcs, _⟩ | ⟨a, len, cap, m, n, D, Pl, hcs, _, hl, hm, hmm, _, hV⟩
  · exact ⟨none, 0, 0, [], hcs, Reads.none_, rfl, by omega, by simp⟩
  · have hmm' : m = cap := by simpa using hmm
    rw [show Try.prog.cellsOf 58 = 2 by kernel_rfl] at hV
    obtain ⟨f, hf⟩ := choose_lt (α := E) (p := fun i e => W.cell? (a.add (i * 2)) = some (.int .u8 (e.1 : Int)) ∧ W.cell? (a.add (i * 2 + 1)) = some (.int .u8 (e.2 : Int)) ∧ e.1 < 256 ∧ e.2 < 256) (n := len) (fun i hi => by
      obtain ⟨cs', h1, h2⟩ := hV i (by omega)
      obtain ⟨_, hlen, hcell⟩ := World.cells?_some h1
      obtain ⟨e, rfl, e1, e2⟩ := pair8_cells h2 hlen
      have g0 := hcell 0 (by omega)
      have g1 := hcell 1 (by omega)
      rw [add_add] at g0 g1
      exact ⟨e, by simpa using g0, by simpa using g1, e1, e2⟩)
    refine ⟨some a, len, cap, (List.range len).map f, hcs, ⟨?_, fun h0 => ?_⟩, by simp, by unfold maxLen at hm; omega, ?_⟩
    · have : ∀ l : List E, (gcells l).length = l.length * 2 := fun l => by
        induction l with
        | nil => rfl
        | cons e l ih => simp only [gcells, List.flatMap_cons, List.length_append, List.length_cons, List.length_nil] at ih ⊢; omega
      rw [this]; simp
    · obtain ⟨h1, _⟩ := hf 0 h0
      have hb := World.block_lt_of_cell? W _ h1
      obtain ⟨b, o, s⟩ := a
      have hs : s = none := by simpa [Addr.add] using World.cell?_spot h1
      subst hs
      refine ⟨b, o, rfl, by simpa [Addr.add] using hb, fun j u hu => ?_⟩
      have hj : j < len * 2 := by
        have h2 := (List.getElem?_eq_some_iff.1 hu).1
        have : ∀ l : List E, (gcells l).length = l.length * 2 := fun l => by
          induction l with
          | nil => rfl
          | cons e l ih => simp only [gcells, List.flatMap_cons, List.length_append, List.length_cons, List.length_nil] at ih ⊢; omega
        rw [this] at h2; simpa using h2
      obtain ⟨c1, c2, _⟩ := hf (j / 2) (by omega)
      obtain ⟨d1, d2⟩ := gcells_at ((List.range len).map f) (j / 2) (f (j / 2)) (by simp [show j / 2 < len by omega])
      rw [Addr.add_lit] at c1 c2
      rcases Nat.mod_two_eq_zero_or_one j with h2 | h2
      · rw [show 2 * (j / 2) = j by omega] at d1
        rw [show j / 2 * 2 = j by omega] at c1
        rw [c1, ← hu, d1]
      · rw [show 2 * (j / 2) + 1 = j by omega] at d2
        rw [show j / 2 * 2 + 1 = j by omega] at c2
        rw [c2, ← hu, d2]
    · intro e he
      obtain ⟨i, hi, rfl⟩ := List.mem_map.1 he
      exact (hf i (List.mem_range.1 hi)).2.2
theorem open_graph (hv : Value.okWide Try.prog W .any base 24 v) (h : DataW.Trod enc Try.prog W 0 (fun _ => true) true 24 v d ps) :
    ∃ G A m c, ∃ l : List E, v = .agg #[.int .u8 ((G : Nat) : Int), .slice A m c] ∧ Reads W W.heap.size 2 A m (gcells l) ∧ l.length = m ∧ m ≤ 9223372036854775807 ∧ G < 256 ∧ (∀ e ∈ l, e.1 < 256 ∧ e.2 < 256) := by
  obtain ⟨cs, rfl, hsz⟩ := okWide_struct Try.underlying24 hv
  rw [show Try.prog.cellsOf 24 = 2 by kernel_rfl] at hsz
  obtain ⟨fuel, hf⟩ := h
  obtain ⟨y0, y1, n, _, hl, h0, h1⟩ := trod_struct2 Try.underlying24 hf
  obtain ⟨l⟩ := cs
  match l, hsz with
  | [u0, u1], _ =>
    simp only [show Try.prog.cellsOf 5 = 1 by kernel_rfl, show Try.prog.cellsOf 22 = 1 by kernel_rfl] at h0 h1
    obtain ⟨G, e0, _, w0⟩ := DataW.trod_int Try.underlying5 h0
    obtain ⟨A, m, c, l, e1, hr, hlm, hm, hx⟩ := pairs8_cells h1
    obtain ⟨G, rfl, hG⟩ := u8_nat w0
    simp [Value.cells] at e0 e1
    subst e0
    subst e1
    exact ⟨G, A, m, c, l, rfl, hr, hlm, hm, hG, hx⟩
theorem open_pair8 (hv : Value.okWide Try.prog W .any base 58 v) (h : DataW.Trod enc Try.prog W 0 (fun _ => true) true 58 v d ps) :
    ∃ a b : Nat, v = .agg #[.int .u8 (a : Int), .int .u8 (b : Int)] ∧ a < 256 ∧ b < 256 := by
  obtain ⟨cs, rfl, hsz⟩ := okWide_array Try.underlying58 hv
  rw [show Try.prog.cellsOf 58 = 2 by kernel_rfl] at hsz
  obtain ⟨fuel, hf⟩ := h
  obtain ⟨l⟩ := cs
  have hl : l.length = 2 := hsz
  obtain ⟨e, he, h1, h2⟩ := pair8_cells (cs := l) hf hl
  subst he
  exact ⟨e.1, e.2, rfl, h1, h2⟩
end
end Go.Proofs.Ytjdbjahgimlhbaa.frame
end
