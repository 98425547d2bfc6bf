/- SHARDS AND LISTS THAT ARE WRITTEN OUT. -/
import Derived.Test.YtjdbjahgimlhbaaJobA
set_option linter.unusedVariables false
set_option maxRecDepth 100000
namespace Go.Proofs.Ytjdbjahgimlhbaa
open Go.RowKit

theorem reads_one {w : World} {g : Nat} {v : Int} (h : Blk w g 3 #[.int .i64 v]) : Reads w w.heap.size 1 (some ⟨g, 0, none⟩) [v].length ([v].map (Value.int .i64)) := Reads.blk h rfl
theorem reads_lit {w : World} {t : TypeId} {ys : List Nat} {v : List Value} (hv : v = ys.map u64v) : Reads (w.alloc (.cells v.toArray t)) (w.alloc (.cells v.toArray t)).heap.size 1 (some ⟨w.heap.size, 0, none⟩) ys.length (ys.map u64v) := by
  subst hv
  exact Reads.blk (Blk.new w t _) (by simp)
theorem four {w : World} {t1 t2 t3 t4 : TypeId} {c1 c2 c3 c4 : Array Value} (W : World) (hW : W = (((w.alloc (.cells c1 t1)).alloc (.cells c2 t2)).alloc (.cells c3 t3)).alloc (.cells c4 t4)) :
    Fr (fun _ => False) w W ∧ Blk W w.heap.size t1 c1 ∧ Blk W (w.heap.size + 1) t2 c2 ∧ Blk W (w.heap.size + 1 + 1) t3 c3 ∧ Blk W (w.heap.size + 1 + 1 + 1) t4 c4 := by
  subst hW
  refine ⟨((((Fr.refl _ _).alloc _).alloc _).alloc _).alloc _, (((Blk.new w t1 c1).alloc _).alloc _).alloc _, ?_, ?_, ?_⟩
  · have := ((Blk.new (w.alloc (.cells c1 t1)) t2 c2).alloc (.cells c3 t3)).alloc (.cells c4 t4)
    simpa using this
  · have := (Blk.new ((w.alloc (.cells c1 t1)).alloc (.cells c2 t2)) t3 c3).alloc (.cells c4 t4)
    simpa using this
  · have := Blk.new (((w.alloc (.cells c1 t1)).alloc (.cells c2 t2)).alloc (.cells c3 t3)) t4 c4
    simpa using this
theorem ls_two {w : World} {B C D : Nat} {x y : Int} (hB : Blk w B 64 #[.slice (some ⟨C, 0, none⟩) 1 1, .slice (some ⟨D, 0, none⟩) 1 1]) (hC : Blk w C 3 #[.int .i64 x]) (hD : Blk w D 3 #[.int .i64 y]) :
    LsAt w [.slice (some ⟨C, 0, none⟩) 1 1, .slice (some ⟨D, 0, none⟩) 1 1] (some ⟨B, 0, none⟩) 2 [[x], [y]] := by
  refine ⟨rfl, Reads.blk hB rfl, fun i l hl => ?_⟩
  match i, hl with
  | 0, hl => obtain rfl := Option.some.inj hl; exact ⟨_, _, rfl, reads_one hC, by simp⟩
  | 1, hl => obtain rfl := Option.some.inj hl; exact ⟨_, _, rfl, reads_one hD, by simp⟩
theorem same_eq (A A' : Option Addr) (n c m d B : Nat) (xs : List Nat) (w : World) (ha : Reads w B 1 A n (xs.map u64v)) (hb : Reads w B 1 A' m (xs.map u64v)) (hn : n ≤ 256) :
    Calls Try.prog 29 #[.slice A n c, .slice A' m d] w fun e w' => e = .returned (.bool true) ∧ Fr (fun _ => False) w w' := by
  refine (same_any A A' n c m d B xs xs w ha hb (by omega)).mono ?_
  rintro e w' ⟨rfl, hf⟩
  exact ⟨by simp, hf⟩
def sel {α : Type} (b : Bool) (x y : α) : α := if b then x else y
/-- a row read, and held against one that is written out -/
theorem same_lit (A : Option Addr) (n c m d : Nat) (xs ys : List Nat) (w : World) (t : TypeId) (v : Array Value) (hv : v = (ys.map u64v).toArray) (hr : Reads w w.heap.size 1 A n (xs.map u64v)) (hm : m = ys.length) (hn : n ≤ 256) :
    Calls Try.prog 29 #[.slice A n c, .slice (some ⟨w.heap.size, 0, none⟩) m d] (w.alloc (.cells v t)) fun e w' => e = .returned (.bool (decide (xs = ys))) ∧ Fr (fun _ => False) w w' := by
  subst hv
  subst hm
  have F : Fr (fun _ => False) w (w.alloc (.cells (ys.map u64v).toArray t)) := (Fr.refl _ _).alloc _
  refine (same_any A _ n c ys.length d (w.alloc (.cells (ys.map u64v).toArray t)).heap.size xs ys _ (hr.up F) (Reads.blk (Blk.new w t _) (by simp)) (by omega)).mono ?_
  rintro e w' ⟨rfl, hf⟩
  exact ⟨rfl, F.then_ hf⟩
end Go.Proofs.Ytjdbjahgimlhbaa
