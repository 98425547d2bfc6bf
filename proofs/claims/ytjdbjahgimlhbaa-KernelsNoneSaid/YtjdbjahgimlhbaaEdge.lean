/- THE DOCUMENT's EDGES, by contract: Less, put. An edge: two cells. -/
import Derived.Test.YtjdbjahgimlhbaaBase
import Derived.Test.YtjdbjahgimlhbaaGrPlain
import Derived.Deep.MidRow
import Derived.Deep.RegionHeld3
set_option linter.unusedVariables false
set_option maxRecDepth 100000
namespace Go.Proofs.Ytjdbjahgimlhbaa
open Go.RowKit
open Gr (E)

def ev (e : E) : Value := .agg #[.int .i64 (e.1 : Int), .int .i64 (e.2 : Int)]
def ecells (l : List E) : List Value := l.flatMap fun e => [.int .i64 (e.1 : Int), .int .i64 (e.2 : Int)]
theorem ecells_len (l : List E) : (ecells l).length = l.length * 2 := by
  induction l with
  | nil => rfl
  | cons e l ih => simp only [ecells, List.flatMap_cons, List.length_append, List.length_cons, List.length_nil] at ih ⊢; omega
theorem ecells_app (a b : List E) : ecells (a ++ b) = ecells a ++ ecells b := by simp [ecells]
theorem ecells_at : ∀ (l : List E) (k : Nat) (e : E), l[k]? = some e → (ecells l)[2 * k]? = some (.int .i64 (e.1 : Int)) ∧ (ecells l)[2 * k + 1]? = some (.int .i64 (e.2 : Int))
  | [], k, e, h => by simp at h
  | x :: l, 0, e, h => by
    obtain rfl : x = e := by simpa using h
    simp [ecells]
  | x :: l, k + 1, e, h => by
    have := ecells_at l k e (by simpa using h)
    simp only [ecells, List.flatMap_cons] at this ⊢
    rw [show 2 * (k + 1) = 2 * k + 1 + 1 by omega, show 2 * k + 1 + 1 + 1 = (2 * k + 1) + 1 + 1 by omega]
    simpa using this
theorem ecells_take (l : List E) (k : Nat) : (ecells l).take (k * 2) = ecells (l.take k) := by
  induction l generalizing k with
  | nil => simp [ecells]
  | cons e l ih =>
    cases k with
    | zero => simp [ecells]
    | succ k =>
      rw [show (k + 1) * 2 = k * 2 + 1 + 1 by omega]
      have := ih k
      simp only [ecells, List.flatMap_cons, List.take_succ_cons] at this ⊢
      simp [this]
theorem ecells_one {l : List E} : ∀ u ∈ ecells l, u.oneCell' = true := by
  intro u hu
  obtain ⟨e, _, he⟩ := List.mem_flatMap.1 hu
  simp at he
  rcases he with rfl | rfl <;> simp [Value.oneCell']
/-- a slice of edges -/
abbrev EdgesAt (w : World) (A : Option Addr) (l : List E) : Prop := Reads w w.heap.size 2 A l.length (ecells l)
theorem EdgesAt.cells {w : World} {A : Option Addr} {l : List E} (h : EdgesAt w A l) {k : Nat} (hk : k < l.length) :
    ∃ b o, A = some ⟨b, o, none⟩ ∧ b < w.heap.size ∧ w.rangeAt b (o + 2 * k) [.int .i64 ((l[k]).1 : Int), .int .i64 ((l[k]).2 : Int)] := by
  obtain ⟨b, o, e, hb, hc⟩ := h.2 (by omega)
  obtain ⟨h1, h2⟩ := ecells_at l k _ (List.getElem?_eq_getElem hk)
  refine ⟨b, o, e, hb, fun j v hj => ?_⟩
  match j, hj with
  | 0, hj => obtain rfl := Option.some.inj hj; have := hc _ _ h1; simpa [Nat.add_assoc] using this
  | 1, hj => obtain rfl := Option.some.inj hj; have := hc _ _ h2; simpa [Nat.add_assoc] using this
theorem edge_size : (Try.prog.info? 40).map (·.size) = some 2 := by kernel_rfl
theorem edge_info : (Try.prog.info? 40).map (fun i => (i.zero, i.size, i.bytes)) = some (some (.agg #[.int .i64 0, .int .i64 0]), 2, 16) := by kernel_rfl

theorem less8_any (a b : E) (w : World) : Calls Try.prog 104 #[ev a, ev b] w fun e w' => e = .returned (.bool (Gr.less a b)) ∧ Fr (fun _ => False) w w' := by
  obtain ⟨a1, a2⟩ := a
  obtain ⟨b1, b2⟩ := b
  unfold ev
  by_cases h1 : a1 < b1
  · have hr : Gr.less (a1, a2) (b1, b2) = true := by simp [Gr.less, h1]
    rw [hr]
    clear hr
    go_enter Try.func104, Try.ntmps104
    go_wp2
    go_ret
    exact ⟨rfl, ((Fr.refl _ _).alloc _).alloc _⟩
  · by_cases h2 : a1 = b1
    · subst h2
      by_cases h3 : a2 < b2
      · have hr : Gr.less (a1, a2) (a1, b2) = true := by simp [Gr.less, h3]
        rw [hr]
        clear hr
        go_enter Try.func104, Try.ntmps104
        go_wp2
        go_ret
        exact ⟨rfl, ((Fr.refl _ _).alloc _).alloc _⟩
      · have hr : Gr.less (a1, a2) (a1, b2) = false := by simp [Gr.less]; omega
        rw [hr]
        clear hr
        go_enter Try.func104, Try.ntmps104
        go_wp2
        go_ret
        exact ⟨rfl, ((Fr.refl _ _).alloc _).alloc _⟩
    · have hr : Gr.less (a1, a2) (b1, b2) = false := by simp [Gr.less, h1, h2]
      rw [hr]
      clear hr
      have h4 : ((a1 : Int) == (b1 : Int)) = false := by simp; omega
      go_enter Try.func104, Try.ntmps104
      go_wp2
      go_ret
      exact ⟨rfl, ((Fr.refl _ _).alloc _).alloc _⟩
end Go.Proofs.Ytjdbjahgimlhbaa
