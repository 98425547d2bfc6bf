/- THE LAWS' OWN HELPERS (chapter 5's): texts compared, texts made. -/
import Derived.Test.YtghnjmgjokbopaaDoorPgPlain
set_option linter.unusedVariables false
set_option maxRecDepth 100000
namespace Go.Proofs.YtghnjmgjokbopaaDoor
open Go.RowKit

theorem texts_any (A A' : Option Addr) (n c m d B : Nat) (L M : List (List UInt8)) (w : World) (ha : Reads w B 1 A n (L.map strv)) (hb : Reads w B 1 A' m (M.map strv)) (hn : n ≤ 9223372036854775807) :
    Calls Tryd.prog 11 #[.slice A n c, .slice A' m d] w fun e w' => e = .returned (.bool (L == M)) ∧ Fr (fun _ => False) w w' := by
  have la : L.length = n := by have := ha.1; simpa using this
  have lb : M.length = m := by have := hb.1; simpa using this
  by_cases hnm : n = m
  · have hb1 : ((n : Int) != (m : Int)) = false := by simp [hnm]
    have LA := hide la
    have LB := hide lb
    have HNM := hide hnm
    have hle : n ≤ m := by omega
    have HA := hide ha
    have HB := hide hb
    clear la lb hnm ha hb
    go_enter Tryd.func11, Tryd.ntmps11
    go_wp2
    go_loopw [5] (fun i wr => ∃ k q : Nat, k ≤ n ∧ i = .int .i64 k ∧ wr = w.drewN q ∧ Hid (L.take k = M.take k)) (fun i _ => n - (intOf i).toNat)
    case atStart => exact ⟨0, 0, by omega, rfl, rfl, hide rfl⟩
    case round =>
      obtain ⟨k, q, hk, rfl, rfl, HK⟩ := hrel
      by_cases hkn : k < n
      · obtain ⟨b1, o1, u1, rfl, _, hu1, hc1⟩ := HA.out.at_ hkn
        obtain ⟨b2, o2, u2, rfl, _, hu2, hc2⟩ := HB.out.at_ (show k < m by omega)
        have lx : k < L.length := by rw [LA.out]; omega
        have ly : k < M.length := by rw [LB.out]; omega
        obtain rfl : u1 = strv L[k] := by simp [lx] at hu1; exact hu1.symm
        obtain rfl : u2 = strv M[k] := by simp [ly] at hu2; exact hu2.symm
        have HT1 := hide (List.take_succ_eq_append_getElem lx)
        have HT2 := hide (List.take_succ_eq_append_getElem ly)
        have HNE : Hid (L[k] ≠ M[k] → (L == M) = false) := by
          intro h
          rw [beq_eq_false_iff_ne]
          intro e
          subst e
          exact h rfl
        unfold strv at hc1 hc2
        have hkm : k < m := by omega
        clear hu1 hu2
        generalize L[k] = x at *
        generalize M[k] = y at *
        clear lx ly
        by_cases hxy : x = y
        · have hbe : (x == y) = true := by simp [hxy]
          have HXY := hide hxy
          clear hxy HNE
          go_wp2
          go_quiet (fail)
          go_wp2
          go_roundw
          case rel => exact ⟨k + 1, _, by omega, by go_num, rfl, hide (by rw [HT1.out, HT2.out, HK.out, HXY.out])⟩
          case measure => simp [intOf]; omega
        · have hbe : (x == y) = false := by simp [hxy]
          have HN := hide (HNE.out hxy)
          clear hxy HNE
          go_wp2
          go_quiet (fail)
          go_wp2
          go_ret
          exact ⟨by rw [HN.out]; rfl, ((Fr.refl _ _).drewN _).drewN _⟩
      · have he : (L == M) = true := by
          have h := HK.out
          have hnm := HNM.out
          rw [List.take_of_length_le (by rw [LA.out]; omega), List.take_of_length_le (by rw [LB.out]; omega)] at h
          simpa using h
        have HN := hide he
        clear he
        go_wp2
        go_ret
        exact ⟨by rw [HN.out]; rfl, (Fr.refl _ _).drewN _⟩
  · have hb1 : ((n : Int) != (m : Int)) = true := by simp; omega
    have hne : (L == M) = false := by
      rw [beq_eq_false_iff_ne]
      rintro rfl
      exact hnm (la.symm.trans lb)
    rw [hne]
    clear la lb hnm hne
    go_enter Tryd.func11, Tryd.ntmps11
    go_wp2
    go_ret
    exact ⟨rfl, Fr.refl _ _⟩

def GreatTold (n many : Nat) (L : List (List UInt8)) (e : Ending) : Prop := ∃ b, e = .returned (.bool b) ∧ (b = false → n ≤ many ∧ ∀ l ∈ L, l.length ≤ 300)
theorem great_any (A : Option Addr) (n c B many : Nat) (L : List (List UInt8)) (w : World) (ha : Reads w B 1 A n (L.map strv)) (hn : n ≤ 9223372036854775807) (hm : many ≤ 1000) :
    Calls Tryd.prog 15 #[.slice A n c, .int .i64 (many : Int)] w fun e w' => GreatTold n many L e ∧ w = w' := by
  have la : L.length = n := by have := ha.1; simpa using this
  have LA := hide la
  have HA := hide ha
  clear la ha
  by_cases hg : many < n
  · go_enter Tryd.func15, Tryd.ntmps15
    go_wp2
    go_ret
    exact ⟨⟨_, rfl, by intro h; cases h⟩, rfl⟩
  · go_enter Tryd.func15, Tryd.ntmps15
    go_wp2
    go_loop [5] (fun i => ∃ k : Nat, k ≤ n ∧ i = .int .i64 k ∧ Hid (∀ l ∈ L.take k, l.length ≤ 300)) (fun i => n - (intOf i).toNat)
    case atStart => exact ⟨0, by omega, rfl, by simp [Hid]⟩
    case round =>
      obtain ⟨k, hk, rfl, HK⟩ := hrel
      by_cases hkn : k < n
      · obtain ⟨b1, o1, u1, rfl, _, hu1, hc1⟩ := HA.out.at_ hkn
        have lx : k < L.length := by rw [LA.out]; omega
        obtain rfl : u1 = strv L[k] := by simp [lx] at hu1; exact hu1.symm
        have HT := hide (List.take_succ_eq_append_getElem lx)
        unfold strv at hc1
        clear hu1
        generalize L[k] = x at *
        clear lx
        by_cases hx : x.length ≤ 300
        · have HN : Hid (∀ l ∈ L.take (k + 1), l.length ≤ 300) := by
            intro l hl
            rw [HT.out] at hl
            rcases List.mem_append.1 hl with hl | hl
            · exact HK.out l hl
            · simp at hl; subst hl; exact hx
          go_wp2
          go_round
          case rel => exact ⟨k + 1, by omega, by go_num, HN⟩
          case measure => simp [intOf]; omega
        · go_wp2
          go_ret
          exact ⟨⟨_, rfl, by intro h; cases h⟩, rfl⟩
      · have HN : Hid (∀ l ∈ L, l.length ≤ 300) := by
          have h := HK.out
          rw [List.take_of_length_le (by rw [LA.out]; omega)] at h
          exact h
        go_wp2
        go_ret
        exact ⟨⟨_, rfl, fun _ => ⟨by omega, HN.out⟩⟩, rfl⟩

def someB (l : List UInt8) (n : Nat) : List UInt8 := (List.range n).map fun i => l.getD (i % l.length) 0
def b8v (c : UInt8) : Value := .int .u8 (c.toNat : Int)
theorem someB_len (l : List UInt8) (n : Nat) : (someB l n).length = n := by simp [someB]
theorem b8_set {l : List UInt8} {n k : Nat} (h : k < n) (c : UInt8) (hc : c = l.getD (k % l.length) 0) :
    ((((someB l n).take k ++ List.replicate (n - k) 0).map b8v).toArray).setIfInBounds k (b8v c) = (((someB l n).take (k + 1) ++ List.replicate (n - (k + 1)) 0).map b8v).toArray := by
  subst hc
  have hl : k < (someB l n).length := by rw [someB_len]; exact h
  have hg : (someB l n)[k] = l.getD (k % l.length) 0 := by simp [someB]
  rw [List.setIfInBounds_toArray, ← List.map_set]
  congr 2
  rw [List.set_append_right _ _ (by simp; omega)]
  simp only [List.length_take, show min k (someB l n).length = k by omega, Nat.sub_self]
  rw [show n - k = (n - (k + 1)) + 1 by omega, List.replicate_succ, List.set_cons_zero, List.take_succ_eq_append_getElem hl, hg, List.append_assoc]
  rfl
theorem some_any (l : List UInt8) (many : Nat) (w : World) (h0 : 1 ≤ l.length) (h1 : l.length ≤ 1000) (hm : many ≤ 1000) :
    Calls Tryd.prog 25 #[.string ⟨l.toArray⟩, .int .i64 (many : Int)] w fun e w' => e = .returned (.string ⟨(someB l many).toArray⟩) ∧ Fr (fun _ => False) w w' := by
  have hmk := zeros_made many hm (many : Int) rfl
  have hne : l.isEmpty = false := by cases l with | nil => simp at h0 | cons _ _ => rfl
  have HB : Hid (Blk (w.alloc (.cells (List.replicate many (Value.int .u8 0)).toArray 5)) w.heap.size 5 (((someB l many).take 0 ++ List.replicate (many - 0) 0).map b8v).toArray ∧ Fr (fun _ => False) w (w.alloc (.cells (List.replicate many (Value.int .u8 0)).toArray 5))) := by
    refine ⟨?_, (Fr.refl _ _).alloc _⟩
    have h := Blk.new w 5 (List.replicate many (Value.int .u8 0)).toArray
    have e : (((someB l many).take 0 ++ List.replicate (many - 0) 0).map b8v) = List.replicate many (Value.int .u8 0) := by simp [b8v]
    rw [e]
    exact h
  go_enter Tryd.func25, Tryd.ntmps25
  go_wp2
  go_loopw [6] (fun i wr => ∃ k : Nat, k ≤ many ∧ i = .int .i64 k ∧ Hid (Blk wr w.heap.size 5 (((someB l many).take k ++ List.replicate (many - k) 0).map b8v).toArray ∧ Fr (fun _ => False) w wr)) (fun i _ => many - (intOf i).toNat)
  case atStart => exact ⟨0, by omega, rfl, by simpa using HB⟩
  case round =>
    obtain ⟨k, hk, rfl, HI⟩ := hrel
    by_cases hlt : k < many
    · have hmd : k % l.length < l.length := Nat.mod_lt _ (by omega)
      have hc : wr.cell? ⟨w.heap.size, k, none⟩ = some (.int .u8 0) := by
        rw [HI.out.1.cell k]
        have : k < (((someB l many).take k ++ List.replicate (many - k) 0).map b8v).length := by simp [someB_len]; omega
        rw [List.getElem?_toArray, List.getElem?_eq_getElem this]
        simp [List.getElem_append_right, someB_len, show min k many = k by omega, b8v]
      have hf := HI.out.1.frozen k
      have hgd : (⟨l.toArray⟩ : ByteArray)[k % l.length]'(by show k % l.length < l.toArray.size; simpa using hmd) = l.getD (k % l.length) 0 := by
        show l.toArray[k % l.length] = _
        simp [List.getD, hmd]
      have HZ : Hid (Blk (wr.setCell ⟨w.heap.size, k, none⟩ (.int .u8 (((⟨l.toArray⟩ : ByteArray)[k % l.length]'(by show k % l.length < l.toArray.size; simpa using hmd)).toNat : Int))) w.heap.size 5 (((someB l many).take (k + 1) ++ List.replicate (many - (k + 1)) 0).map b8v).toArray ∧ Fr (fun _ => False) w (wr.setCell ⟨w.heap.size, k, none⟩ (.int .u8 (((⟨l.toArray⟩ : ByteArray)[k % l.length]'(by show k % l.length < l.toArray.size; simpa using hmd)).toNat : Int)))) := by
        refine ⟨?_, HI.out.2.setCell (p := ⟨w.heap.size, k, none⟩) (.inr (Nat.le_refl _)) _⟩
        rw [← b8_set hlt _ hgd]
        exact HI.out.1.set_ k _
      clear HI hgd
      go_wp2
      go_roundw
      case rel => exact ⟨k + 1, by omega, by go_num, HZ⟩
      case measure => simp [intOf]; omega
    · obtain rfl : k = many := by omega
      have hB := HI.out.1
      rw [List.take_of_length_le (by rw [someB_len]; omega), Nat.sub_self, List.replicate_zero, List.append_nil] at hB
      have hcv := run_convert_bytes_back (P := Tryd.prog) wr 34 9 5 ⟨w.heap.size, 0, none⟩ k (someB l k) Tryd.underlying34 Tryd.underlying5 Tryd.underlying9 (by
        intro j hj
        rw [show (⟨w.heap.size, 0, none⟩ : Addr).add j = ⟨w.heap.size, j, none⟩ by rw [Addr.add_lit, Nat.zero_add], hB.cell j]
        simp [hj, b8v])
      rw [someB_len] at hcv
      have HF := hide HI.out.2
      clear HI hB
      go_wp2
      go_ret
      exact ⟨rfl, HF.out⟩
end Go.Proofs.YtghnjmgjokbopaaDoor
