/- PLAIN LAW of edges turned round. No program in sight. -/
import Derived.Test.YtjdbjahgimlhbaaGrStep
import Derived.Test.YtjdbjahgimlhbaaEdMade
set_option linter.unusedVariables false
namespace Go.Proofs.Ytjdbjahgimlhbaa.Gr
open Go.RowKit

def sw (e : E) : E := (e.2, e.1)
theorem ends_sw (n : Nat) (e : E) : ends2 n (sw e) = sw (ends2 n e) := rfl
theorem turned_mem (G : Nat) (l : List E) (e : E) : e ∈ madeE G l ↔ e ∈ (madeE G (l.map sw)).map sw := by
  have key : ∀ (l : List E) (e : E), e ∈ madeE G l → sw e ∈ madeE G (l.map sw) := fun l e h => by
    unfold madeE at *
    rw [normal_mem] at *
    unfold filt at *
    obtain ⟨h1, h2⟩ := List.mem_filter.1 h
    obtain ⟨x, hx, rfl⟩ := List.mem_map.1 h1
    refine List.mem_filter.2 ⟨List.mem_map.2 ⟨sw x, List.mem_map.2 ⟨x, hx, rfl⟩, ends_sw _ _⟩, ?_⟩
    simp [sw] at h2 ⊢
    exact fun h => h2 h.symm
  have ss : ∀ l : List E, (l.map sw).map sw = l := fun l => by rw [List.map_map]; exact List.map_id _
  constructor
  · intro h
    exact List.mem_map.2 ⟨sw e, key l e h, rfl⟩
  · intro h
    obtain ⟨x, hx, rfl⟩ := List.mem_map.1 h
    have := key (l.map sw) x hx
    rwa [ss] at this
theorem labels_flat (xs : List Nat) (l : List E) (s : List Nat) : (flat l).foldl (labels.step xs) s = l.foldl (fun s e => labels.step xs s ((e.1 : Int), (e.2 : Int), 0)) s := by
  unfold flat
  rw [List.foldl_map]
  rfl
theorem turned_fold (G : Nat) (xs : List Nat) (l : List E) (s : List Nat) : (flat (madeE G (l.map sw))).foldl (labels.step xs) s = (flat (madeE G l)).foldl (labels.step xs) s := by
  rw [labels_flat, labels_flat]
  have h := foldl_same (fun (s : List Nat) (e : E) => labels.step xs s ((e.1 : Int), (e.2 : Int), 0)) (fun s x y => labels_comm xs s _ _) (fun s x => labels_same xs s _) (madeE G l) ((madeE G (l.map sw)).map sw) s (turned_mem G l)
  rw [h, List.foldl_map]
  congr 1
  funext s e
  exact labels_turn xs s _ _ _ _
end Go.Proofs.Ytjdbjahgimlhbaa.Gr
