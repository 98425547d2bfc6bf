/- Parts of the proof of several laws: no conditions of their own. -/
import Derived.Test.YtjdbjahgimlhbaaWhPk15
import Derived.Test.YtjdbjahgimlhbaaWhPk11
import Derived.Test.YtjdbjahgimlhbaaWhPk2
section
set_option linter.unusedVariables false
set_option maxRecDepth 100000
namespace Go.Proofs.Ytjdbjahgimlhbaa
open Go.RowKit
open Gr (E)

set_option maxHeartbeats 1600000 in
theorem sortedf_ok (Bs len cap : Nat) (A : Option Addr) (l : List E) (hz : l.length = len) (hlen : len ≤ 100000) (hs : Gr.Sorted l) (w : World) (hBs : Bs < w.heap.size) (hc : w.cell? ⟨Bs, 0, none⟩ = some (.slice A len cap)) (hI : ESlice w.heap.size w A l) :
    Calls Try.prog 112 #[.func (.func 130) #[] #[.pointer (some ⟨Bs, 0, none⟩)], .func (.func 114) #[] #[]] w fun e w' => ∃ A' c', e = .returned (.slice A' len c') ∧ EdgesAt w' A' l ∧ Fr (fun _ => False) w w' := by
  subst hz
  have H := hide (collect_ok Bs l.length cap A l rfl hlen w hBs hc hI)
  have HS := hide (fun (v : Value) (W : World) (ho : W.ownsRow w.heap.size 40 2 v l.length (ecells l)) => sortf_own ho hs (by omega))
  clear hI hc hs
  go_enter Try.func112, Try.ntmps112
  go_wp2_with fail
  go_at_call 128
  refine H.out.mono ?_
  rintro e w1 ⟨v, rfl, hown, hf⟩
  have HO := hide hown
  have HF := hide hf
  obtain ⟨A', c', rfl⟩ := Reads.own_val hown
  have hlt := hown.lt
  clear hown hf
  go_wp2_with fail
  go_at_call 129
  refine (HS.out (.slice A' l.length c') w1 HO.out).mono ?_
  rintro e w2 ⟨rfl, hg, hown⟩
  have HR := hide (show EdgesAt w2 A' l from Reads.of_own hown)
  have HF2 := hide (HF.out.grown hg (fun k hk => .inr (hlt k hk).1))
  clear hg hown hlt
  go_wp2
  go_ret
  exact ⟨A', c', rfl, HR.out, HF2.out⟩
theorem tnormal_ok (A : Option Addr) (n m c : Nat) (l : List E) (w : World) (h : EdgesAt w A l) (hm : l.length = m) (hmx : m ≤ 4000) (hs : Gr.Sorted l) (h1 : 1 ≤ n) (h2 : n ≤ 256) (hl : ∀ e ∈ l, e.1 < n ∧ e.2 < n ∧ e.1 ≠ e.2) :
    Calls Try.prog 96 #[.int .i64 (n : Int), .slice A m c] w fun e w' => ∃ A' c', e = .returned (.tuple #[.slice A' m c', .int .i64 0]) ∧ EdgesAt w' A' l ∧ Fr (fun _ => False) w w' := by
  obtain ⟨W1, hW1⟩ : ∃ W1, W1 = w.alloc (.cells #[.int .i64 (n : Int)] 3) := ⟨_, rfl⟩
  have F1 : Fr (fun _ => False) w W1 := by rw [hW1]; exact (Fr.refl _ _).alloc _
  have c0 : W1.cell? ⟨w.heap.size, 0, none⟩ = some (.int .i64 (n : Int)) := by rw [hW1]; simp
  have lt1 : w.heap.size < W1.heap.size := by rw [hW1]; simp
  have hE1 : EdgesAt W1 A l := h.up F1
  have HM := hide (may_ok n W1 h1 h2)
  have HC := hide (contf_ok A n m c w.heap.size l W1 hE1 hm (by omega) lt1 c0 hl)
  obtain ⟨q0, q1⟩ : (∃ z, w.heap.size = z) ∧ True := ⟨⟨_, rfl⟩, trivial⟩
  have HS := hide (fun (W : World) (hf : Fr (fun _ => False) W1 W) => by
    have hE := hE1.up hf
    have hf2 : Fr (fun _ => False) W (W.alloc (.cells #[.slice A m c] 26)) := (Fr.refl _ _).alloc _
    exact sortedf_ok W.heap.size m c A l hm (by omega) hs (W.alloc (.cells #[.slice A m c] 26)) (by simp) (by simp) (ESlice.of (hE.up hf2)))
  have HK := hide (fun (B : Option Addr) (d : Nat) (W : World) (hE : EdgesAt W B l) => compact_ok B m d l W hE hm (by omega) hs)
  have HF1 := hide F1
  have HZ := hide hW1
  have b1 : decide ((4096 : Int) < (m : Int)) = false := by simp; omega
  have b2 : decide (4096 < m) = false := by simp; omega
  clear h hs hl F1 hE1 hW1 q1
  go_enter Try.func96, Try.ntmps96
  go_wp2_with fail
  rw [← HZ.out]
  go_at_call 109
  refine HM.out.mono ?_
  rintro e w1 ⟨rfl, rfl⟩
  go_wp2_with fail
  go_at_call 110
  refine HC.out.mono ?_
  rintro e w2 ⟨rfl, hf⟩
  have HF2 := hide hf
  clear hf
  go_wp2_with fail
  go_at_call 113
  refine (values_ok A m c w2).mono ?_
  rintro e w3 ⟨rfl, rfl⟩
  go_wp2_with fail
  go_at_call 112
  refine (HS.out _ HF2.out).mono ?_
  rintro e w4 ⟨B, d, rfl, hE, hf⟩
  have HE4 := hide hE
  have HF4 := hide ((HF2.out.alloc (.cells #[.slice A m c] 26)).then_ hf)
  clear hE hf
  go_wp2_with fail
  go_at_call 111
  refine (HK.out _ _ _ HE4.out).mono ?_
  rintro e w5 ⟨rfl, hf⟩
  have HE5 := hide (HE4.out.up hf)
  have HF5 := hide (HF1.out.then_ (HF4.out.then_ hf))
  clear hf
  go_wp2
  go_ret2
  exact ⟨_, _, rfl, HE5.out, HF5.out⟩
end Go.Proofs.Ytjdbjahgimlhbaa
end
section
set_option linter.unusedVariables false
namespace Go.Proofs.Ytjdbjahgimlhbaa
open Go.RowKit
open Gr (E T)

theorem stop_lt {d : Nat → Bool} {b j : Nat} (h : j + 1 < stopAt d b) : d j = false := by
  unfold stopAt at h
  cases hf : (List.range b).find? d with
  | none =>
    rw [hf] at h
    have := List.find?_eq_none.1 hf j (List.mem_range.2 (by simp only at h; omega))
    simpa using this
  | some r =>
    rw [hf] at h
    simp only at h
    have := (List.find?_range_eq_some (i := r) (p := d)).1 hf
    have := this.2.2 j (by omega)
    simpa using this
/-- a job ends, being done -/
def KEnd (k arg n : Nat) (l : List E) : Prop := 1 ≤ kruns k arg n l ∧ kdn (kdOf k arg) n [Gr.flat l] (kruns k arg n l - 1) = true
theorem KEnd.at {k arg n : Nat} {l : List E} (h : KEnd k arg n l) {r : Nat} (hr : r < kruns k arg n l) : kdn (kdOf k arg) n [Gr.flat l] r = decide (r + 1 = kruns k arg n l) := by
  by_cases he : r + 1 = kruns k arg n l
  · have h2 := h.2
    rw [← he, Nat.add_sub_cancel] at h2
    rw [h2]; simp [he]
  · rw [stop_lt (b := bnd k arg n) (show r + 1 < stopAt (kdn (kdOf k arg) n [Gr.flat l]) (bnd k arg n) from by show r + 1 < kruns k arg n l; omega)]
    simp [he]
theorem stop_le (d : Nat → Bool) (b : Nat) : stopAt d b ≤ b := by
  unfold stopAt
  cases hf : (List.range b).find? d with
  | none => exact Nat.le_refl _
  | some r =>
    have := (List.find?_range_eq_some (i := r) (p := d)).1 hf
    have := List.mem_range.1 (this.2.1)
    simp only
    omega
theorem kruns_le (k arg n : Nat) (l : List E) : kruns k arg n l ≤ bnd k arg n := stop_le _ _
end Go.Proofs.Ytjdbjahgimlhbaa
end
section
set_option linter.unusedVariables false
namespace Go.Proofs.Ytjdbjahgimlhbaa.Gr

def pick (y : List Nat) (i m : Nat) : Nat := if i < y.length then y.getD i 0 % m else 0
theorem pick_lt (y : List Nat) (i : Nat) {m : Nat} (h : 0 < m) : pick y i m < m := by
  unfold pick
  split
  · exact Nat.mod_lt _ h
  · exact h
/-- behind i picks: those picked, those left -/
def ord (many : Nat) (y : List Nat) : Nat → List Nat × List Nat
  | 0 => ([], List.range many)
  | i + 1 => ((ord many y i).1 ++ [(ord many y i).2.getD (pick y i (ord many y i).2.length) 0], (ord many y i).2.take (pick y i (ord many y i).2.length) ++ (ord many y i).2.drop (pick y i (ord many y i).2.length + 1))
theorem ord_ok (many : Nat) (y : List Nat) : ∀ i, i ≤ many → ((ord many y i).1 ++ (ord many y i).2).Perm (List.range many) ∧ (ord many y i).1.length = i ∧ (ord many y i).2.length = many - i
  | 0, _ => ⟨List.Perm.refl _, rfl, by simp [ord]⟩
  | i + 1, h => by
    obtain ⟨h1, h2, h3⟩ := ord_ok many y i (by omega)
    have hk := pick_lt y i (m := (ord many y i).2.length) (by omega)
    unfold ord
    generalize ord many y i = p at *
    obtain ⟨o, l⟩ := p
    simp only at h1 h2 h3 hk ⊢
    generalize pick y i l.length = k at *
    refine ⟨?_, by simp [h2], by simp; omega⟩
    have hs : l = l.take k ++ l.getD k 0 :: l.drop (k + 1) := by
      rw [List.getD_eq_getElem?_getD, List.getElem?_eq_getElem hk, Option.getD_some, ← List.drop_eq_getElem_cons hk, List.take_append_drop]
    refine List.Perm.trans ?_ h1
    rw [List.append_assoc]
    apply List.Perm.append_left
    refine List.Perm.trans ?_ (List.Perm.of_eq hs.symm)
    exact (List.perm_middle (a := l.getD k 0) (l₁ := l.take k) (l₂ := l.drop (k + 1))).symm
def order (many : Nat) (y : List Nat) : List Nat := (ord many y many).1
theorem order_perm (many : Nat) (y : List Nat) : (order many y).Perm (List.range many) := by
  obtain ⟨h1, h2, h3⟩ := ord_ok many y many (Nat.le_refl _)
  have : (ord many y many).2 = [] := List.eq_nil_of_length_eq_zero (by omega)
  rw [this, List.append_nil] at h1
  exact h1
theorem order_len (many : Nat) (y : List Nat) : (order many y).length = many := (ord_ok many y many (Nat.le_refl _)).2.1
theorem order_lt (many : Nat) (y : List Nat) : ∀ k ∈ order many y, k < many := by
  intro k hk
  simpa using (order_perm many y).mem_iff.1 hk
end Go.Proofs.Ytjdbjahgimlhbaa.Gr
end
