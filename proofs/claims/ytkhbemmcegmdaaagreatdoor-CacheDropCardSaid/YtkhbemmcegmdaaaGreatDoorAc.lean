/- Acts as a list; carousellaw07.Great, by contract. -/
import Derived.Test.YtkhbemmcegmdaaaGreatDoorDs
import Derived.Test.YtkhbemmcegmdaaaGreatDoorCq
set_option linter.all false
set_option linter.unusedVariables false
set_option maxRecDepth 100000
namespace Go.Proofs.YtkhbemmcegmdaaaGreatDoor
open Go.RowKit

structure ActWf (a : CAct) : Prop where
  kind : a.kind < 256
  lo : -9223372036854775808 ≤ a.i
  hi : a.i ≤ 9223372036854775807
  name : a.name.length ≤ 9223372036854775807
  data : a.data.length ≤ 9223372036854775807
structure ActsR (w : World) (B : Nat) (A : Option Addr) (n : Nat) (l : List CAct) : Prop where
  len : l.length = n
  wf : ∀ a ∈ l, ActWf a
  cells : ∀ (i : Nat) (a : CAct), l[i]? = some a → ∃ b o, A = some ⟨b, o, none⟩ ∧ b < B ∧ ∀ (j : Nat) (v : Value), (actc a)[j]? = some v → w.cell? ⟨b, o + i * 5 + j, none⟩ = some v
section
variable {w w' : World} {B : Nat} {A : Option Addr} {n : Nat} {l : List CAct} {S : Nat → Prop}
theorem ActsR.fr (h : ActsR w B A n l) (hf : Fr S w w') (hB : B ≤ w.heap.size) (hs : ∀ k, S k → B ≤ k) : ActsR w' B A n l :=
  ⟨h.len, h.wf, fun i a ha => by
    obtain ⟨b, o, e, hb, hc⟩ := h.cells i a ha
    exact ⟨b, o, e, hb, fun j v hv => hf.cell (hc j v hv) (fun hS => Nat.lt_irrefl _ (Nat.lt_of_lt_of_le hb (hs b hS)))⟩⟩
theorem ActsR.at (h : ActsR w B A n l) {k : Nat} (hk : k < n) : ∃ (a : CAct) (b o : Nat), l[k]? = some a ∧ a ∈ l ∧ A = some ⟨b, o, none⟩ ∧ b < B ∧ w.cell? ⟨b, o + k * 5, none⟩ = some (.int .u8 (a.kind : Int)) ∧ w.cell? ⟨b, o + k * 5 + 1, none⟩ = some (.string ⟨a.name.toArray⟩) ∧
    w.cell? ⟨b, o + k * 5 + 2, none⟩ = some (.int .i64 a.i) ∧ w.cell? ⟨b, o + k * 5 + 3, none⟩ = some (.string ⟨a.data.toArray⟩) ∧ w.cell? ⟨b, o + k * 5 + 4, none⟩ = some (.int .u8 (a.x.toNat : Int)) := by
  have hk2 : k < l.length := by rw [h.len]; exact hk
  obtain ⟨b, o, e, hb, hc⟩ := h.cells k l[k] (List.getElem?_eq_getElem hk2)
  exact ⟨l[k], b, o, List.getElem?_eq_getElem hk2, List.getElem_mem hk2, e, hb, hc 0 _ rfl, hc 1 _ rfl, hc 2 _ rfl, hc 3 _ rfl, hc 4 _ rfl⟩
/-- none of these is great -/
def Small (a : CAct) : Prop := a.name.length ≤ 40 ∧ a.data.length ≤ 400
theorem great_ok (h : ActsR w B A n l) (many : Nat) (c : Nat) (hm : many ≤ 1000) (hn : n ≤ 9223372036854775807) : Calls Tryz.prog 23 #[.slice A n c, .int .i64 (many : Int)] w fun e w' => (e = .returned (.bool true) ∨ (e = .returned (.bool false) ∧ n ≤ many ∧ ∀ a ∈ l, Small a)) ∧ w = w' := by
  by_cases hmn : many < n
  · have b0 : (n : Int) > (many : Int) := by omega
    have b1 : (many : Int) < (n : Int) := by omega
    clear h hmn hm
    go_enter Tryz.func23, Tryz.ntmps23
    go_wp2
    go_ret
    exact ⟨.inl rfl, rfl⟩
  · have b0 : ¬ (n : Int) > (many : Int) := by omega
    have b1 : ¬ (many : Int) < (n : Int) := by omega
    have HH := hide h
    have HM := hide hmn
    clear h hmn
    go_enter Tryz.func23, Tryz.ntmps23
    go_wp2
    go_loopw [5] (fun i wr => ∃ k : Nat, i = .int .i64 (k : Int) ∧ k ≤ n ∧ wr = w ∧ ∀ a ∈ l.take k, Small a) (fun i _ => n - (intOf i).toNat)
    case atStart => exact ⟨0, rfl, by omega, rfl, by simp⟩
    case round =>
      obtain ⟨k, rfl, hk, rfl, hs⟩ := hrel
      by_cases hlt : k < n
      · obtain ⟨a, b, o, hka, hal, rfl, hb, s0, s1, s2, s3, s4⟩ := HH.out.at hlt
        have hwf := HH.out.wf a hal
        have g0 : (0 : Int) ≤ (k : Int) := by omega
        have g1 : (k : Int) < (n : Int) := by omega
        have HSM := hide hs
        have HKA := hide hka
        obtain ⟨q, hq⟩ : ∃ q, a.name.length = q := ⟨_, rfl⟩
        obtain ⟨r, hr⟩ : ∃ r, a.data.length = r := ⟨_, rfl⟩
        have z0 : (⟨a.name.toArray⟩ : ByteArray).size = q := by rw [← hq]; simp [ByteArray.size]
        have z1 : (⟨a.data.toArray⟩ : ByteArray).size = r := by rw [← hr]; simp [ByteArray.size]
        have HQ := hide hq
        have HR := hide hr
        have hq2 : q ≤ 9223372036854775807 := by rw [← hq]; exact hwf.name
        have hr2 : r ≤ 9223372036854775807 := by rw [← hr]; exact hwf.data
        clear hs hka hal hwf hq hr
        by_cases h1 : 40 < q
        · have b2 : (q : Int) > 40 := by omega
          have b3 : (40 : Int) < (q : Int) := by omega
          go_wp2
          go_ret
          exact ⟨.inl rfl, rfl⟩
        · have b2 : ¬ (q : Int) > 40 := by omega
          have b3 : ¬ (40 : Int) < (q : Int) := by omega
          by_cases h2 : 400 < r
          · have b4 : (r : Int) > 400 := by omega
            have b5 : (400 : Int) < (r : Int) := by omega
            go_wp2
            go_ret
            exact ⟨.inl rfl, rfl⟩
          · have b4 : ¬ (r : Int) > 400 := by omega
            have b5 : ¬ (400 : Int) < (r : Int) := by omega
            go_wp2
            go_roundw
            case rel =>
              refine ⟨k + 1, by go_num, by omega, by first | rfl | trivial, fun y hy => ?_⟩
              rw [List.take_add_one, HKA.out] at hy
              rcases List.mem_append.1 hy with hy | hy
              · exact HSM.out y hy
              · simp at hy
                subst hy
                exact ⟨by rw [HQ.out]; omega, by rw [HR.out]; omega⟩
            case measure => simp [intOf]; omega
      · obtain rfl : k = n := by omega
        have HSM := hide hs
        clear hs
        go_wp2
        go_ret
        refine ⟨.inr ⟨rfl, by have := HM.out; omega, fun y hy => HSM.out y ?_⟩, rfl⟩
        rw [List.take_of_length_le (by rw [HH.out.len]; exact Nat.le_refl _)]
        exact hy
theorem Small.ok {a : CAct} (h : Small a) (hw : ActWf a) : ActOk a := ⟨hw.kind, h.1, h.2, hw.lo, hw.hi⟩
end
end Go.Proofs.YtkhbemmcegmdaaaGreatDoor
