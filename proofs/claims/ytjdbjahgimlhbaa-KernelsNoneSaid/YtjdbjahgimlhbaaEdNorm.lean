/- THE DOCUMENT's EDGES: Normal, by contract (edges that may be). -/
import Derived.Test.YtjdbjahgimlhbaaEdPut
set_option linter.unusedVariables false
set_option maxRecDepth 100000
namespace Go.Proofs.Ytjdbjahgimlhbaa
open Go.RowKit
open Gr (E)

def nrm (l : List E) (k : Nat) : List E := Gr.normal (l.take k)
theorem nrm_next {l : List E} {k : Nat} (h : k < l.length) : nrm l (k + 1) = Gr.put (nrm l k) l[k] := by
  unfold nrm Gr.normal
  rw [List.take_succ_eq_append_getElem h, List.foldl_append]
  rfl
theorem nrm_len (l : List E) (k : Nat) : (nrm l k).length ≤ k := by
  have := Gr.normal_len (l.take k)
  unfold nrm
  simp at this ⊢
  omega
theorem put_pos (l : List E) (x : E) : 0 < (Gr.put l x).length := by
  have : x ∈ Gr.put l x := (Gr.put_mem l x x).2 (.inl rfl)
  exact List.length_pos_of_mem this
theorem normal_any (A : Option Addr) (N m c : Nat) (l : List E) (w : World) (h : EdgesAt w A l) (hm : l.length = m) (hmx : m ≤ 4000) (h1 : 1 ≤ N) (h2 : N ≤ 256) (hok : ∀ e ∈ l, e.1 < N ∧ e.2 < N ∧ e.1 ≠ e.2) :
    Calls Try.prog 49 #[.int .i64 (N : Int), .slice A m c] w fun e w' => ∃ A' c', e = .returned (.tuple #[.slice A' (Gr.normal l).length c', .int .i64 0]) ∧ (Gr.normal l).length ≤ c' ∧ EdgesAt w' A' (Gr.normal l) ∧ Fr (fun _ => False) w w' := by
  have H := hide h
  have HM := hide hm
  have HOK := hide hok
  clear h hm hok
  go_enter Try.func49, Try.ntmps49
  go_wp2_with fail
  go_loopw [6, 7] (fun o i wr => ∃ (k : Nat) (A' : Option Addr) (q c' : Nat), k ≤ m ∧ i = .int .i64 k ∧ o = .slice A' q c' ∧ q ≤ c' ∧ q ≤ k ∧ Hid ((nrm l k).length = q ∧ EdgesAt wr A' (nrm l k) ∧ Fr (fun _ => False) w wr ∧ (q = 0 → A' = none ∧ c' = 0))) (fun _ i _ => m - (intOf i).toNat)
  case atStart => exact ⟨0, none, 0, 0, by omega, rfl, rfl, by omega, by omega, by simp [nrm, Gr.normal], ⟨by simp [nrm, Gr.normal, ecells], fun h => absurd h (by simp [nrm, Gr.normal])⟩, Fr.refl _ _, fun _ => ⟨rfl, rfl⟩⟩
  case round =>
    obtain ⟨k, A', q, c', hk, rfl, rfl, hqc, hqk, HI⟩ := hrel
    by_cases hlt : k < m
    · have lk : k < l.length := by rw [HM.out]; exact hlt
      obtain ⟨b, o, rfl, hb, hr⟩ := EdgesAt.cells (k := k) (show EdgesAt wr A l from H.out.up HI.out.2.2.1) lk
      have HNX := hide (nrm_next lk)
      obtain ⟨o1, o2, o3⟩ := HOK.out _ (List.getElem_mem lk)
      have y0 := hr 0 _ rfl
      have y1 := hr 1 _ rfl
      rw [Nat.mul_comm 2 k, Nat.add_zero] at y0
      rw [Nat.mul_comm 2 k] at y1
      clear hr
      generalize l[k]'lk = y at *
      obtain ⟨y1', y2'⟩ := y
      simp only at o1 o2 o3 y0 y1
      have hne : ((y1' : Int) == (y2' : Int)) = false := by simp; omega
      go_wp2_with fail
      go_at_call 80
      have FA := hide ((Fr.refl (fun _ => False) wr).alloc (.cells #[.int .i64 (y1' : Int), .int .i64 (y2' : Int)] 40))
      have HIE := hide (HI.out.2.1.up FA.out)
      refine (put_any A' q c' (nrm l k) (y1', y2') _ (by have := HIE.out; rw [HI.out.1] at this; exact this) HI.out.1 (by omega) hqc HI.out.2.2.2).mono ?_
      rintro e w2 ⟨A2, c2, rfl, hc2, hr2, hf2⟩
      rw [← HNX.out] at hc2 hr2 ⊢
      have HQ := hide (show (nrm l (k + 1)).length = (nrm l (k + 1)).length ∧ EdgesAt w2 A2 (nrm l (k + 1)) ∧ Fr (fun _ => False) w w2 ∧ ((nrm l (k + 1)).length = 0 → A2 = none ∧ c2 = 0) from
        ⟨rfl, hr2, HI.out.2.2.1.then_ (FA.out.then_ hf2), fun h => by rw [HNX.out] at h; have := put_pos (nrm l k) (y1', y2'); omega⟩)
      have hk1 := nrm_len l (k + 1)
      obtain ⟨q2, hq2⟩ : ∃ q2, (nrm l (k + 1)).length = q2 := ⟨_, rfl⟩
      rw [hq2] at hc2 hk1 ⊢
      clear hr2 hf2
      go_wp2
      go_roundw
      case rel => exact ⟨k + 1, A2, q2, c2, by omega, by go_num, rfl, hc2, hk1, hq2, HQ.out.2.1, HQ.out.2.2.1, fun h => HQ.out.2.2.2 (by rw [hq2]; exact h)⟩
      case measure => simp [intOf]; omega
    · obtain rfl : k = m := by omega
      have hall : nrm l k = Gr.normal l := by unfold nrm; rw [List.take_of_length_le (by rw [HM.out]; omega)]
      have HALL := hide hall
      clear hall
      go_wp2
      go_ret2
      exact ⟨A', c', by rw [← HALL.out, HI.out.1]; rfl, by rw [← HALL.out, HI.out.1]; exact hqc, by rw [← HALL.out]; exact HI.out.2.1, HI.out.2.2.1⟩
end Go.Proofs.Ytjdbjahgimlhbaa
