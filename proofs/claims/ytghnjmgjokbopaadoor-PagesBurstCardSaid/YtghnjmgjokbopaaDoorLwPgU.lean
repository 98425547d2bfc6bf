/- THE LAW Burst, walked. -/
import Derived.Test.YtghnjmgjokbopaaDoorPgDoes
set_option linter.unusedVariables false
set_option maxRecDepth 100000
namespace Go.Proofs.YtghnjmgjokbopaaDoor
open Go.RowKit

theorem bits_xor_u8_nat (a b : Nat) (ha : a < 256) (hb : b < 256) : bits .xor .u8 (a : Int) (b : Int) = ((a ^^^ b : Nat) : Int) := by
  have hx : a ^^^ b < 2 ^ 8 := Nat.xor_lt_two_pow (by omega) (by omega)
  have h1 : (BitVec.ofInt 8 (a : Int)).toNat = a := by
    rw [BitVec.ofInt_natCast, BitVec.toNat_ofNat]; exact Nat.mod_eq_of_lt (by omega)
  have h2 : (BitVec.ofInt 8 (b : Int)).toNat = b := by
    rw [BitVec.ofInt_natCast, BitVec.toNat_ofNat]; exact Nat.mod_eq_of_lt (by omega)
  show IntKind.u8.wrap ((BitVec.ofInt 8 (a : Int) ^^^ BitVec.ofInt 8 (b : Int)).toNat : Int) = _
  rw [BitVec.toNat_xor, h1, h2]
  simp [IntKind.wrap, IntKind.bits, IntKind.signed]
  omega
/-- a block of bytes with the run-time's mark behind its last cell -/
def Fbl (w : World) (g : Nat) (cs : Array Value) (m : Nat) : Prop := w.heap[g]? = some (.cells cs 5 (m, m + 1))
section
variable {w w' : World} {g m : Nat} {cs : Array Value}
theorem Fbl.lt (h : Fbl w g cs m) : g < w.heap.size := by
  rcases Nat.lt_or_ge g w.heap.size with hlt | hge
  · exact hlt
  · unfold Fbl at h; rw [Array.getElem?_eq_none hge] at h; cases h
theorem Fbl.cell (h : Fbl w g cs m) (i : Nat) : w.cell? ⟨g, i, none⟩ = cs[i]? := cell_of_row w g i cs 5 (m, m + 1) h
theorem Fbl.frozen (h : Fbl w g cs m) (i : Nat) (hi : i < m) : w.frozen? ⟨g, i, none⟩ = false := by
  unfold Fbl at h
  simp [World.frozen?, h]
  omega
theorem Fbl.drew (h : Fbl w g cs m) : Fbl w.drew g cs m := h
theorem Fbl.set_ (h : Fbl w g cs m) (i : Nat) (u : Value) : Fbl (w.setCell ⟨g, i, none⟩ u) g (cs.setIfInBounds i u) m := by
  unfold Fbl at h ⊢
  simp [World.setCell, h, Array.getElem?_modify]
end
theorem row_set {n m : Nat} {f f' : Nat → UInt8} (R : List Value) (hm : m < n) (h : ∀ j, j ≠ m → f' j = f j) :
    ((((List.range n).map f).map b8v ++ R).toArray).setIfInBounds m (b8v (f' m)) = (((List.range n).map f').map b8v ++ R).toArray := by
  rw [List.setIfInBounds_toArray, List.set_append_left _ _ (by simpa using hm), ← List.map_set]
  congr 3
  apply List.ext_getElem
  · simp
  · intro i h1 h2
    rw [List.getElem_set]
    split
    · next e => subst e; simp
    · next e => simp; exact (h i (fun x => e x.symm)).symm
def bu (p : List UInt8) (k z i j : Nat) : UInt8 := p.getD j 0 ^^^ (if k ≤ j ∧ j < k + i then (le4b z).getD (j - k) 0 else 0)
theorem bu_zero (p : List UInt8) (h : p.length = 128) (k z : Nat) : (List.range 128).map (bu p k z 0) = p := by
  apply List.ext_getElem
  · simp [h]
  · intro i h1 h2
    have : ¬ (k ≤ i ∧ i < k) := by omega
    simp [bu, this, h2]
theorem xorB_get : ∀ (x y : List UInt8) (i : Nat), (xorB x y)[i]? = (x[i]?).bind fun a => (y[i]?).map fun b => a ^^^ b
  | [], y, i => by simp [xorB]
  | a :: x, [], i => by cases i <;> simp [xorB]
  | a :: x, b :: y, 0 => by simp [xorB]
  | a :: x, b :: y, i + 1 => by simp [xorB, xorB_get x y i]
theorem bu_four (p : List UInt8) (h : p.length = 128) (k z : Nat) (hk : k ≤ 124) : (List.range 128).map (bu p k z 4) = xorB p (List.replicate k 0 ++ le4b z ++ List.replicate (124 - k) 0) := by
  apply List.ext_getElem?
  intro i
  rw [xorB_get]
  by_cases hi : i < 128
  · have hp : i < p.length := by omega
    rw [List.getElem?_map, List.getElem?_range hi, List.getElem?_eq_getElem hp]
    have h4 : (le4b z).length = 4 := rfl
    by_cases h1 : i < k
    · rw [List.append_assoc, List.getElem?_append_left (by simpa using h1)]
      have : ¬ (k ≤ i ∧ i < k + 4) := by omega
      simp [bu, this, hp, h1]
    · by_cases h2 : i < k + 4
      · rw [List.append_assoc, List.getElem?_append_right (by simp; omega), List.getElem?_append_left (by simp [h4]; omega)]
        have hq : i - k < (le4b z).length := by omega
        simp only [List.length_replicate]
        rw [List.getElem?_eq_getElem hq]
        have : k ≤ i ∧ i < k + 4 := by omega
        simp [bu, this, hp, hq]
      · rw [List.getElem?_append_right (by simp [h4]; omega)]
        have : ¬ (k ≤ i ∧ i < k + 4) := by omega
        have h5 : i - (k + 4) < 124 - k := by omega
        simp [bu, this, hp, h4, h5]
  · rw [List.getElem?_eq_none (by simp; omega), List.getElem?_eq_none (by omega)]
    rfl
theorem bu_round {w wr : World} {g cap k z j : Nat} {p : List UInt8} {v : Int} {o : Nat} (h : Fbl wr g (((List.range 128).map (bu p k z j)).map b8v ++ List.replicate (cap - 128) (Value.int .u8 0)).toArray cap ∧ Fr (fun _ => False) w wr) (hg : w.heap.size ≤ g)
    (ho : o = k + j) (hk : k + j < 128) (hj : j < 4) (hv : v = (((le4b z).getD j 0).toNat : Int)) :
    Fbl (wr.setCell ⟨g, o, none⟩ (.int .u8 (bits .xor .u8 ((bu p k z j (k + j)).toNat : Int) v))).drew g (((List.range 128).map (bu p k z (j + 1))).map b8v ++ List.replicate (cap - 128) (Value.int .u8 0)).toArray cap ∧ Fr (fun _ => False) w (wr.setCell ⟨g, o, none⟩ (.int .u8 (bits .xor .u8 ((bu p k z j (k + j)).toNat : Int) v))).drew := by
  subst ho
  refine ⟨?_, (h.2.setCell (p := ⟨g, k + j, none⟩) (.inr hg) _).drew⟩
  have hs := h.1.set_ (k + j) (b8v (bu p k z (j + 1) (k + j)))
  rw [row_set (f := bu p k z j) (f' := bu p k z (j + 1)) _ hk (fun i hi => by
    unfold bu
    congr 1
    by_cases h1 : k ≤ i ∧ i < k + j
    · rw [if_pos h1, if_pos (by omega)]
    · rw [if_neg h1, if_neg (by omega)])] at hs
  have e : Value.int .u8 (bits .xor .u8 ((bu p k z j (k + j)).toNat : Int) v) = b8v (bu p k z (j + 1) (k + j)) := by
    rw [hv, bits_xor_u8_nat _ _ (UInt8.toNat_lt _) (UInt8.toNat_lt _)]
    have hx : bu p k z (j + 1) (k + j) = bu p k z j (k + j) ^^^ (le4b z).getD j 0 := by
      unfold bu
      rw [if_pos (by omega), if_neg (by omega), show k + j - k = j by omega]
      simp
    rw [hx]
    simp [b8v]
  rw [e]
  exact hs.drew
theorem law_burst (s : ByteArray) (hs : s.size ≤ 9223372036854775807) (a z : Nat) (ha : a < 256) (hz : z < 4294967296) (w : World) :
    Calls Tryd.prog 7 #[.string s, .int .u8 (a : Int), .int .u32 (z : Int)] w fun e w' => e = .returned (.bool true) ∧ Fr (fun _ => False) w w' := by
  by_cases hl : 122 < s.size
  · go_enter Tryd.func7, Tryd.ntmps7
    go_wp2_with fail
    go_at_call 9
    refine (pg_enc_long s hl _).mono ?_
    rintro e w1 ⟨rfl, rfl⟩
    go_wp2_with fail
    go_at_call 14
    refine (does_any _).mono ?_
    rintro e w6 ⟨rfl, hf⟩
    have HF := hide hf
    clear hf
    go_wp2
    go_ret
    exact ⟨rfl, HF.out⟩
  have HE := hide (fun w => pg_enc s (by omega) w)
  by_cases hz0 : z = 0
  · subst hz0
    generalize encB s.data.toList = p at *
    go_enter Tryd.func7, Tryd.ntmps7
    go_wp2_with fail
    go_at_call 9
    refine (HE.out _).mono ?_
    rintro e w1 ⟨rfl, hf⟩
    have HF := hide hf
    clear hf
    go_wp2_with fail
    go_at_call 14
    refine (does_any _).mono ?_
    rintro e w6 ⟨rfl, hf⟩
    have HF := hide (HF.out.then_ hf)
    have hd : decide (122 < (s.size : Int)) = false := decide_eq_false (by omega)
    clear hf
    go_wp2
    go_ret
    exact ⟨by simp [hd], HF.out⟩
  have hdl : s.data.toList.length ≤ 122 := by simp; omega
  have hpl : (encB s.data.toList).length = 128 := encB_len hdl
  have HP := hide (page_enc hdl)
  generalize encB s.data.toList = p at *
  have hps : (⟨p.toArray⟩ : ByteArray).size = 128 := by show p.toArray.size = 128; simp [hpl]
  have HPL := hide hpl
  clear hpl hdl
  go_enter Tryd.func7, Tryd.ntmps7
  go_wp2_with fail
  go_at_call 9
  refine (HE.out _).mono ?_
  rintro e w1 ⟨rfl, hf⟩
  obtain ⟨k, hk, hk4⟩ : ∃ k : Nat, (a : Int) % 125 = (k : Int) ∧ k ≤ 124 := ⟨a % 125, by omega, by omega⟩
  have hcv := run_bytes_of_string (P := Tryd.prog) w1 9 34 5 ⟨p.toArray⟩ Tryd.underlying9 Tryd.underlying34 Tryd.underlying5
  rw [hps] at hcv
  obtain ⟨cap, hcap⟩ : ∃ cap, grownCap w1 128 0 5 = cap := ⟨_, rfl⟩
  rw [hcap] at hcv
  have hc128 : 128 ≤ cap := by rw [← hcap]; exact grownCap_ge _ _ _ _
  have HB : Hid (Fbl (w1.drew.alloc (.cells (bytesRow ⟨p.toArray⟩ cap) 5 ((bytesRow ⟨p.toArray⟩ cap).size, (bytesRow ⟨p.toArray⟩ cap).size + 1))) w1.heap.size (((List.range 128).map (bu p k z 0)).map b8v ++ List.replicate (cap - 128) (Value.int .u8 0)).toArray cap ∧
      Fr (fun _ => False) w (w1.drew.alloc (.cells (bytesRow ⟨p.toArray⟩ cap) 5 ((bytesRow ⟨p.toArray⟩ cap).size, (bytesRow ⟨p.toArray⟩ cap).size + 1)))) := by
    refine ⟨?_, hf.drew.alloc _⟩
    have hb : bytesRow ⟨p.toArray⟩ cap = (((List.range 128).map (bu p k z 0)).map b8v ++ List.replicate (cap - 128) (Value.int .u8 0)).toArray := by
      rw [bu_zero p HPL.out k z]
      unfold bytesRow
      rw [hps]
      simp [b8v]
    rw [hb]
    have hsz : (((List.range 128).map (bu p k z 0)).map b8v ++ List.replicate (cap - 128) (Value.int .u8 0)).toArray.size = cap := by simp; omega
    rw [hsz]
    exact heap_alloc_new w1.drew _
  have HW : w.heap.size ≤ w1.heap.size := hf.size
  obtain ⟨w2, hw2⟩ : ∃ w2, w1.drew.alloc (.cells (bytesRow ⟨p.toArray⟩ cap) 5 ((bytesRow ⟨p.toArray⟩ cap).size, (bytesRow ⟨p.toArray⟩ cap).size + 1)) = w2 := ⟨_, rfl⟩
  rw [hw2] at hcv HB
  clear hw2 hcap hf
  go_wp2_with fail
  go_loopw [11] (fun i wr => ∃ j : Nat, j ≤ 4 ∧ i = .int .i64 j ∧ Hid (Fbl wr w1.heap.size (((List.range 128).map (bu p k z j)).map b8v ++ List.replicate (cap - 128) (Value.int .u8 0)).toArray cap ∧ Fr (fun _ => False) w wr)) (fun i _ => 4 - (intOf i).toNat)
  case atStart => exact ⟨0, by omega, rfl, HB.out⟩
  case round =>
    obtain ⟨j, hj, rfl, HI⟩ := hrel
    by_cases hlt : j < 4
    · have hkj : k + j < 128 := by omega
      have hc : wr.cell? ⟨w1.heap.size, k + j, none⟩ = some (.int .u8 ((bu p k z j (k + j)).toNat : Int)) := by
        rw [HI.out.1.cell, List.getElem?_toArray, List.getElem?_append_left (by simpa using hkj)]
        simp [hkj, b8v]
      have hf := HI.out.1.frozen (k + j) (by omega)
      have HN := hide (fun (v : Int) (o : Nat) (ho : o = k + j) (hv : v = (((le4b z).getD j 0).toNat : Int)) => bu_round (w := w) HI.out (g := w1.heap.size) (o := o) (v := v) HW ho hkj hlt hv)
      generalize bu p k z j (k + j) = x at *
      have hx := x.toNat_lt
      clear HI
      obtain rfl | rfl | rfl | rfl : j = 0 ∨ j = 1 ∨ j = 2 ∨ j = 3 := by omega
      · try simp only [Nat.add_zero] at hc hf
        go_wp2_with fail
        go_region
        go_wp2
        go_roundw
        case rel => exact ⟨1, by omega, by go_num, HN.out _ _ (by omega) (by simp [le4b] <;> omega)⟩
        case measure => simp [intOf]
      · try simp only [Nat.add_zero] at hc hf
        go_wp2_with fail
        go_region
        go_wp2
        go_roundw
        case rel => exact ⟨2, by omega, by go_num, HN.out _ _ (by omega) (by simp [le4b] <;> omega)⟩
        case measure => simp [intOf]
      · try simp only [Nat.add_zero] at hc hf
        go_wp2_with fail
        go_region
        go_wp2
        go_roundw
        case rel => exact ⟨3, by omega, by go_num, HN.out _ _ (by omega) (by simp [le4b] <;> omega)⟩
        case measure => simp [intOf]
      · try simp only [Nat.add_zero] at hc hf
        go_wp2_with fail
        go_region
        go_wp2
        go_roundw
        case rel => exact ⟨4, by omega, by go_num, HN.out _ _ (by omega) (by simp [le4b] <;> omega)⟩
        case measure => simp [intOf]
    · obtain rfl : j = 4 := by omega
      have hfb := HI.out.1
      rw [bu_four p HPL.out k z hk4] at hfb
      have HBUR := hide (burst p k z HP.out hk4 hz hz0)
      obtain ⟨q, hq⟩ : ∃ q, xorB p (List.replicate k 0 ++ le4b z ++ List.replicate (124 - k) 0) = q := ⟨_, rfl⟩
      have hql : q.length = 128 := by rw [← hq, ← bu_four p HPL.out k z hk4]; simp
      rw [hq] at hfb HBUR
      have hcb := run_convert_bytes_back (P := Tryd.prog) wr 34 9 5 ⟨w1.heap.size, 0, none⟩ cap q Tryd.underlying34 Tryd.underlying5 Tryd.underlying9 (by
        intro j hj
        rw [show (⟨w1.heap.size, 0, none⟩ : Addr).add j = ⟨w1.heap.size, j, none⟩ by rw [Addr.add_lit, Nat.zero_add], hfb.cell j, List.getElem?_toArray, List.getElem?_append_left (by simpa using hj)]
        simp [hj, b8v])
      rw [hql] at hcb
      have HD := hide (fun w => pg_dec ⟨q.toArray⟩ w (by show q.toArray.size ≤ _; simp [hql]))
      rw [show (⟨q.toArray⟩ : ByteArray).data.toList = q by simp, HBUR.out] at HD
      unfold decR at HD
      rw [if_neg (by simp)] at HD
      have HF := hide HI.out.2
      clear HI hfb hq hql HBUR
      go_wp2_with fail
      go_at_call 16
      refine (HD.out _).mono ?_
      rintro e w3 ⟨rfl, hf⟩
      have HF := hide (HF.out.then_ hf)
      clear hf
      go_wp2_with fail
      go_at_call 14
      refine (does_any _).mono ?_
      rintro e w6 ⟨rfl, hf⟩
      have HF := hide (HF.out.then_ hf)
      clear hf
      go_wp2
      go_ret
      exact ⟨rfl, HF.out⟩
end Go.Proofs.YtghnjmgjokbopaaDoor
