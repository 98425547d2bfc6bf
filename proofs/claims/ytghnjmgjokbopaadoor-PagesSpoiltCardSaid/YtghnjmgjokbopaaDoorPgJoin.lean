/- PAGES: the data of pages, the program's and the reference's. -/
import Derived.Test.YtghnjmgjokbopaaDoorPgSplit
import Derived.Test.YtghnjmgjokbopaaDoorBuild
set_option linter.unusedVariables false
set_option maxRecDepth 100000
namespace Go.Proofs.YtghnjmgjokbopaaDoor
open Go.RowKit

/-- pages that are joined: each is one; all but the last are full; none is empty but a first one -/
def jOk (first : Bool) : List (List UInt8) → Bool
  | [] => true
  | p :: L => pageB p && ((L.isEmpty || decide (122 ≤ (datB p).length)) && (first || !(datB p).isEmpty)) && jOk false L
def joinB (L : List (List UInt8)) : Bool := !L.isEmpty && jOk true L
def flatB (L : List (List UInt8)) : List UInt8 := (L.map datB).flatten
def joinR (b : Bool) (L : List (List UInt8)) : Value := if b then .tuple #[.string ⟨(flatB L).toArray⟩, .int .i64 0] else .tuple #[.string ⟨#[]⟩, .int .i64 50]
theorem flatB_snoc (L : List (List UInt8)) (p : List UInt8) : flatB (L ++ [p]) = flatB L ++ datB p := by simp [flatB]
theorem datB_le (p : List UInt8) (h : pageB p = true) : (datB p).length ≤ 122 := by
  obtain ⟨h1, h2, _⟩ := (pageB_iff p).1 h
  rw [datB_len p h1 h2]
  exact h2
theorem bc_append (l : List UInt8) (d : List UInt8) : Lib.byteCells l ++ Lib.strCells ⟨d.toArray⟩ = Lib.byteCells (l ++ d) := by simp [Lib.byteCells, Lib.strCells]
theorem jOk_next {a first : Bool} {p : List UInt8} {L R : List (List UInt8)} {k : Nat} (h : a = jOk first (R.drop k)) (hd : R.drop k = p :: R.drop (k + 1)) :
    a = (pageB p && (((R.drop (k + 1)).isEmpty || decide (122 ≤ (datB p).length)) && (first || !(datB p).isEmpty)) && jOk false (R.drop (k + 1))) := by rw [h, hd]; rfl

theorem isb_fr {B b : Nat} {bs : List Value} {w w' : World} (h : Lib.IsBuilder 49 5 B b bs w) (hf : Fr (fun _ => False) w w') : Lib.IsBuilder 49 5 B b bs w' := by
  have key : ∀ p, Lib.BuilderAt 49 5 B b p bs w → Lib.BuilderAt 49 5 B b p bs w' := by
    rintro p ⟨hB, v, hb, hown, hne⟩
    have hlt : b < w.heap.size := by
      rcases Nat.lt_or_ge b w.heap.size with h' | h'
      · exact h'
      · simp [Array.getElem?_eq_none h'] at hb
    exact ⟨hB, v, (hf.block b hlt id).trans hb, own_fr hown hf (fun _ _ h => h), hne⟩
  exact h.elim (fun h => .inl (key _ h)) (fun h => .inr (key _ h))

theorem pg_join (A : Option Addr) (n c : Nat) (L : List (List UInt8)) (B : Nat) (w : World) (hr : Reads w B 1 A n (L.map strv)) (hB : B ≤ w.heap.size) (hn : n ≤ 1000) (hmx : ∀ l ∈ L, l.length ≤ 9223372036854775807) :
    Calls Tryd.prog 18 #[.slice A n c] w fun e w' => e = .returned (joinR (joinB L) L) ∧ Fr (fun _ => False) w w' := by
  have hl : L.length = n := by have := hr.1; simpa using this
  have HL := hide hl
  have HR := hide hr
  have HX := hide hmx
  have H0 : Hid (Lib.IsBuilder 49 5 w.heap.size w.heap.size (Lib.byteCells []) (w.alloc (.cells #[.pointer none, .slice none 0 0] 49)) ∧ Below w.heap.size w (w.alloc (.cells #[.pointer none, .slice none 0 0] 49))) :=
    ⟨.inl ⟨Nat.le_refl _, _, heap_alloc_new w _, World.ownsRow_nil _ _ _ _, by simp [Value.ownBlock]⟩, (Below.refl _ _).alloc (Nat.le_refl _) _⟩
  clear hl hr hmx
  go_enter Tryd.func18, Tryd.ntmps18
  go_wp2_with fail
  go_loopw [12] (fun i wr => ∃ k : Nat, k ≤ n ∧ i = .int .i64 k ∧ Hid (jOk true L = jOk (decide (k = 0)) (L.drop k)) ∧ Hid (Lib.IsBuilder 49 5 w.heap.size w.heap.size (Lib.byteCells (flatB (L.take k))) wr ∧ Below w.heap.size w wr ∧ (flatB (L.take k)).length ≤ 122 * k)) (fun i _ => n - (intOf i).toNat)
  case atStart => exact ⟨0, by omega, rfl, rfl, H0.out.1, H0.out.2, by simp [flatB]⟩
  case round =>
    obtain ⟨k, hk, rfl, HK, HI⟩ := hrel
    by_cases hlt : k < n
    · obtain ⟨b, o, u, rfl, hb, hu, hc⟩ := (HR.out.below (HI.out.2.1.mono hB)).at_ hlt
      have lk : k < L.length := by rw [HL.out]; exact hlt
      rw [List.getElem?_map, List.getElem?_eq_getElem lk] at hu
      obtain rfl := Option.some.inj hu
      have hd : L.drop k = L[k] :: L.drop (k + 1) := List.drop_eq_getElem_cons lk
      have HN := hide (jOk_next (L := L) HK.out hd)
      have ht : L.take (k + 1) = L.take k ++ [L[k]] := List.take_succ_eq_append_getElem lk
      have HT : Hid (flatB (L.take (k + 1)) = flatB (L.take k) ++ datB L[k]) := by unfold Hid; rw [ht, flatB_snoc]
      have HD := hide (fun w => pg_dec ⟨L[k].toArray⟩ w (by show L[k].toArray.size ≤ _; simpa using HX.out _ (List.getElem_mem lk)))
      have hlast : (((k : Int)) == (n : Int) - 1) = (L.drop (k + 1)).isEmpty := by
        rw [Bool.eq_iff_iff]
        simp [HL.out]
        omega
      have HW := hide (fun (d : List UInt8) (hd : d.length ≤ 122) w1 (hb : Lib.IsBuilder 49 5 w.heap.size w.heap.size (Lib.byteCells (flatB (L.take k))) w1) (hB1 : Below w.heap.size w w1) =>
        bld_write w.heap.size w.heap.size _ ⟨d.toArray⟩ w1 hb (by rw [Lib.byteCells_length]; have := HI.out.2.2; show _ + d.toArray.size ≤ _; simp; omega) hB1.size)
      unfold strv at hc
      generalize L[k] = p at *
      generalize (L.drop (k + 1)).isEmpty = bl at *
      clear hd ht lk
      cases hp : pageB p
      · rw [show (⟨p.toArray⟩ : ByteArray).data.toList = p by simp, hp] at HD
        have HE : Hid (joinB L = false) := by unfold Hid joinB; rw [HN.out, hp]; simp
        clear hp
        go_wp2_with fail
        go_at_call 16
        refine (HD.out _).mono ?_
        rintro e w1 ⟨rfl, hf⟩
        have HF := hide (Fr.of_below HI.out.2.1 (fun _ => False) |>.then_ hf)
        clear hf
        unfold decR
        go_wp2
        go_ret2
        exact ⟨by rw [HE.out]; rfl, HF.out⟩
      · rw [show (⟨p.toArray⟩ : ByteArray).data.toList = p by simp, hp] at HD
        have HDL := datB_le p hp
        rw [hp] at HN
        unfold decR at HD
        generalize datB p = d at *
        rw [if_pos rfl] at HD
        have HLAST := hide hlast
        have HB1 := hide (fun w1 (hf : Fr (fun _ => False) wr w1) => And.intro (isb_fr HI.out.1 hf) (HI.out.2.1.trans (hf.below HI.out.2.1.size (fun _ h => h.elim))))
        have HBAD : Hid (((bl || decide (122 ≤ d.length)) && (decide (k = 0) || !d.isEmpty)) = false → joinB L = false) := by
          intro h
          unfold joinB
          rw [HN.out, h]
          simp
        have HGOOD : Hid (((bl || decide (122 ≤ d.length)) && (decide (k = 0) || !d.isEmpty)) = true → jOk true L = jOk (decide (k + 1 = 0)) (L.drop (k + 1))) := by
          intro h
          rw [HN.out, h]
          simp
        have HWW := hide (fun w1 (hf : Fr (fun _ => False) wr w1) => HW.out d HDL w1 (HB1.out w1 hf).1 (HB1.out w1 hf).2)
        have HNEXT := hide (fun w1 w2 (hf : Fr (fun _ => False) wr w1) (h1 : Lib.IsBuilder 49 5 w.heap.size w.heap.size (Lib.byteCells (flatB (L.take k)) ++ Lib.strCells ⟨d.toArray⟩) w2) (h2 : Below w.heap.size w1 w2) =>
          show Lib.IsBuilder 49 5 w.heap.size w.heap.size (Lib.byteCells (flatB (L.take (k + 1)))) w2 ∧ Below w.heap.size w w2 ∧ (flatB (L.take (k + 1))).length ≤ 122 * (k + 1) from
          ⟨by rw [HT.out, ← bc_append]; exact h1, (HB1.out w1 hf).2.trans h2, by rw [HT.out]; have := HI.out.2.2; simp; omega⟩)
        have HBF := hide (fun w1 (hf : Fr (fun _ => False) wr w1) => (Fr.of_below HI.out.2.1 (fun _ => False)).then_ hf)
        clear hp HN HT HI hlast HW HB1 HDL hu
        cases bl
        · have hlast := HLAST.out
          by_cases hsh : d.length < 122
          · have HE := HBAD.out (by rw [decide_eq_false (by omega)]; rfl)
            have HEH := hide HE
            clear HE
            go_wp2_with fail
            go_at_call 16
            refine (HD.out _).mono ?_
            rintro e w1 ⟨rfl, hf⟩
            have HF := hide (HBF.out w1 hf)
            clear hf
            go_wp2
            go_ret2
            exact ⟨by rw [HEH.out]; rfl, HF.out⟩
          · have hemp : d.isEmpty = false := by cases d <;> simp at hsh ⊢
            have HG := hide (HGOOD.out (by rw [decide_eq_true (by omega), hemp]; simp))
            go_wp2_with fail
            go_at_call 16
            refine (HD.out _).mono ?_
            rintro e w1 ⟨rfl, hf⟩
            have HW1 := hide (HWW.out w1 hf)
            have HN1 := hide (fun w2 h1 h2 => HNEXT.out w1 w2 hf h1 h2)
            clear hf
            go_wp2_with fail
            go_at_call 27
            refine HW1.out.mono ?_
            rintro e w2 ⟨rfl, h1, h2⟩
            have HZ := hide (HN1.out w2 h1 h2)
            clear h1 h2
            go_wp2
            go_roundw
            case rel => exact ⟨k + 1, by omega, by go_num, HG, HZ⟩
            case measure => simp [intOf]; omega
        · have hlast := HLAST.out
          cases hemp : d.isEmpty
          · have HG := hide (HGOOD.out (by rw [hemp]; simp))
            clear HBAD
            go_wp2_with fail
            go_at_call 16
            refine (HD.out _).mono ?_
            rintro e w1 ⟨rfl, hf⟩
            have HW1 := hide (HWW.out w1 hf)
            have HN1 := hide (fun w2 h1 h2 => HNEXT.out w1 w2 hf h1 h2)
            clear hf
            go_wp2_with fail
            go_at_call 27
            refine HW1.out.mono ?_
            rintro e w2 ⟨rfl, h1, h2⟩
            have HZ := hide (HN1.out w2 h1 h2)
            clear h1 h2
            go_wp2
            go_roundw
            case rel => exact ⟨k + 1, by omega, by go_num, HG, HZ⟩
            case measure => simp [intOf]; omega
          · by_cases hk0 : 0 < k
            · have HE := HBAD.out (by rw [hemp]; simp; omega)
              have HEH := hide HE
              clear HE
              go_wp2_with fail
              go_at_call 16
              refine (HD.out _).mono ?_
              rintro e w1 ⟨rfl, hf⟩
              have HF := hide (HBF.out w1 hf)
              clear hf
              go_wp2
              go_ret2
              exact ⟨by rw [HEH.out]; rfl, HF.out⟩
            · have h0 : k = 0 := by omega
              have HG := hide (HGOOD.out (by simp [h0]))
              clear h0
              go_wp2_with fail
              go_at_call 16
              refine (HD.out _).mono ?_
              rintro e w1 ⟨rfl, hf⟩
              have HW1 := hide (HWW.out w1 hf)
              have HN1 := hide (fun w2 h1 h2 => HNEXT.out w1 w2 hf h1 h2)
              clear hf
              go_wp2_with fail
              go_at_call 27
              refine HW1.out.mono ?_
              rintro e w2 ⟨rfl, h1, h2⟩
              have HZ := hide (HN1.out w2 h1 h2)
              clear h1 h2
              go_wp2
              go_roundw
              case rel => exact ⟨k + 1, by omega, by go_num, HG, HZ⟩
              case measure => simp [intOf]; omega
    · obtain rfl : k = n := by omega
      have hz : L.take k = L := List.take_of_length_le (by rw [HL.out]; omega)
      have hz2 : jOk true L = true := by rw [HK.out, List.drop_of_length_le (by rw [HL.out]; omega)]; rfl
      rw [hz] at HI
      have HI' := HI.out
      have HS := hide (Tryd.Builder_String_any w.heap.size w.heap.size (flatB L) wr HI'.1 HI'.2.1.size)
      have HBW := hide HI'.2.1
      clear HI HI' hz
      by_cases hk0 : k = 0
      · have HE : Hid (joinB L = false) := by
          have : L = [] := List.eq_nil_of_length_eq_zero (HL.out.trans hk0)
          subst this
          rfl
        subst hk0
        clear hz2
        go_wp2
        go_ret2
        exact ⟨by rw [HE.out]; rfl, Fr.of_below HBW.out _⟩
      · have hke : (((k : Int)) == 0) = false := by simp; omega
        have HE : Hid (joinB L = true) := by
          unfold Hid joinB
          rw [hz2]
          cases L with
          | nil => exact absurd HL.out.symm hk0
          | cons _ _ => rfl
        clear hz2 hk0
        go_wp2_with fail
        go_at_call 28
        refine HS.out.mono ?_
        rintro e w1 ⟨rfl, hb⟩
        have HF := hide (Fr.of_below (HBW.out.trans hb) (fun _ => False))
        clear hb
        go_wp2
        go_ret2
        exact ⟨by rw [HE.out]; rfl, HF.out⟩

def rjoinB (L : List (List UInt8)) : Bool := L.all pageB && (splitB (flatB L) == L)
theorem flatB_len (L : List (List UInt8)) (h : L.all pageB = true) : (flatB L).length ≤ 122 * L.length := by
  induction L with
  | nil => simp [flatB]
  | cons p L ih =>
    simp only [List.all_cons, Bool.and_eq_true] at h
    have h1 := datB_le p h.1
    have h2 := ih h.2
    show (datB p ++ flatB L).length ≤ _
    simp
    omega
theorem rpg_join (A : Option Addr) (n c : Nat) (L : List (List UInt8)) (B : Nat) (w : World) (hr : Reads w B 1 A n (L.map strv)) (hB : B ≤ w.heap.size) (hn : n ≤ 90) (hmx : ∀ l ∈ L, l.length ≤ 9223372036854775807) :
    Calls Tryd.prog 19 #[.slice A n c] w fun e w' => e = .returned (joinR (rjoinB L) L) ∧ Fr (fun _ => False) w w' := by
  have hl : L.length = n := by have := hr.1; simpa using this
  have HL := hide hl
  have HR := hide hr
  have HX := hide hmx
  clear hl hr hmx
  go_enter Tryd.func19, Tryd.ntmps19
  go_wp2_with fail
  go_loopw [4, 5] (fun x i wr => ∃ (k : Nat) (s : ByteArray), k ≤ n ∧ i = .int .i64 k ∧ x = .string s ∧ s.size ≤ 122 * k ∧ Hid (s = ⟨(flatB (L.take k)).toArray⟩ ∧ (L.take k).all pageB = true ∧ Fr (fun _ => False) w wr)) (fun _ i _ => n - (intOf i).toNat)
  case atStart => exact ⟨0, ⟨#[]⟩, by omega, rfl, rfl, Nat.le_refl _, rfl, rfl, Fr.refl _ _⟩
  case round =>
    obtain ⟨k, s, hk, rfl, rfl, hs, HI⟩ := hrel
    by_cases hlt : k < n
    · obtain ⟨b, o, u, rfl, hb, hu, hc⟩ := (HR.out.below (HI.out.2.2.below hB (fun _ h => h.elim))).at_ hlt
      have lk : k < L.length := by rw [HL.out]; exact hlt
      rw [List.getElem?_map, List.getElem?_eq_getElem lk] at hu
      obtain rfl := Option.some.inj hu
      have ht : L.take (k + 1) = L.take k ++ [L[k]] := List.take_succ_eq_append_getElem lk
      have HT : Hid (flatB (L.take (k + 1)) = flatB (L.take k) ++ datB L[k]) := by unfold Hid; rw [ht, flatB_snoc]
      have HAll : Hid (pageB L[k] = true → (L.take (k + 1)).all pageB = true) := by
        intro h
        rw [ht, List.all_append, HI.out.2.1]
        simpa using h
      have HBAD : Hid (pageB L[k] = false → rjoinB L = false) := by
        intro h
        unfold rjoinB
        have : L.all pageB = false := by
          rw [Bool.eq_false_iff]
          intro e
          have := List.all_eq_true.1 e _ (List.getElem_mem lk)
          rw [h] at this
          cases this
        rw [this]
        rfl
      have HD := hide (fun w => rpg_dec ⟨L[k].toArray⟩ w (by show L[k].toArray.size ≤ _; simpa using HX.out _ (List.getElem_mem lk)))
      unfold strv at hc
      generalize L[k] = p at *
      clear ht lk hu
      cases hp : pageB p
      · rw [show (⟨p.toArray⟩ : ByteArray).data.toList = p by simp, hp] at HD
        have HE := hide (HBAD.out hp)
        clear hp HBAD HAll HT
        go_wp2_with fail
        go_at_call 17
        refine (HD.out _).mono ?_
        rintro e w1 ⟨rfl, hf⟩
        have HF := hide (HI.out.2.2.then_ hf)
        clear hf
        unfold decR
        go_wp2
        go_ret2
        exact ⟨by rw [HE.out]; rfl, HF.out⟩
      · rw [show (⟨p.toArray⟩ : ByteArray).data.toList = p by simp, hp] at HD
        have HA1 := hide (HAll.out hp)
        have hdl := datB_le p hp
        unfold decR at HD
        rw [if_pos rfl] at HD
        clear hp HBAD HAll
        generalize datB p = d at *
        go_wp2_with fail
        go_at_call 17
        refine (HD.out _).mono ?_
        rintro e w1 ⟨rfl, hf⟩
        have hsz : (s ++ (⟨d.toArray⟩ : ByteArray)).size = s.size + d.length := by
          rw [ByteArray.size_append]; rfl
        have HZ : Hid ((s ++ ⟨d.toArray⟩ : ByteArray) = ⟨(flatB (L.take (k + 1))).toArray⟩ ∧ (L.take (k + 1)).all pageB = true ∧ Fr (fun _ => False) w w1) :=
          ⟨by rw [HI.out.1, bytes_append, ← HT.out], HA1.out, HI.out.2.2.then_ hf⟩
        have hszz : s.size + d.length ≤ 122 * (k + 1) := by omega
        clear hf
        go_wp2
        go_roundw
        case rel => exact ⟨k + 1, _, by omega, by go_num, rfl, by rw [hsz]; exact hszz, HZ⟩
        case measure => simp [intOf]; omega
    · obtain rfl : k = n := by omega
      have hz : L.take k = L := List.take_of_length_le (by rw [HL.out]; omega)
      rw [hz] at HI
      obtain ⟨hse, hall, hfr⟩ := HI.out
      subst hse
      have HAL := hide hall
      have HFR := hide hfr
      have HQ : Hid (rjoinB L = (splitB (flatB L) == L)) := by unfold Hid rjoinB; rw [hall]; rfl
      have HS := hide (fun w => rpg_split _ ⟨(flatB L).toArray⟩ w (Nat.le_refl _) (by omega))
      rw [show (⟨(flatB L).toArray⟩ : ByteArray).data.toList = flatB L by simp] at HS
      have HOUT : Hid (Value.tuple #[.string ⟨(flatB L).toArray⟩, .int .i64 0] = joinR true L) := rfl
      generalize splitB (flatB L) = Q at *
      clear hz HI hall hfr
      generalize flatB L = D at *
      go_wp2_with fail
      go_at_call 13
      refine (HS.out _).mono ?_
      rintro e w1 ⟨A', c', rfl, _, _, hr', hf⟩
      have HF := hide (HFR.out.then_ hf)
      have HRQ := hide hr'
      clear hf hr'
      by_cases hlen : Q.length = k
      · have hle : ((Q.length : Int) != (k : Int)) = false := by simp [hlen]
        have HLEN := hide hlen
        clear hlen
        go_wp2_with fail
        go_loopw [9] (fun i wr => ∃ (j q : Nat), j ≤ Q.length ∧ i = .int .i64 j ∧ wr = w1.drewN q ∧ Hid (Q.take j = L.take j)) (fun i _ => Q.length - (intOf i).toNat)
        case atStart => exact ⟨0, 0, by omega, rfl, rfl, rfl⟩
        case round =>
          obtain ⟨j, q, hj, rfl, rfl, HJ⟩ := hrel
          by_cases hjl : j < Q.length
          · obtain ⟨b1, o1, u1, rfl, _, hu1, hc1⟩ := HRQ.out.at_ hjl
            have hR2 := (HR.out.below (HF.out.below hB (fun _ h => h.elim))).at_ (show j < k by rw [← HLEN.out]; exact hjl)
            obtain ⟨b2, o2, u2, rfl, _, hu2, hc2⟩ := hR2
            have lq : j < Q.length := hjl
            have ll : j < L.length := by rw [HL.out, ← HLEN.out]; exact hjl
            have hjk : j < k := by rw [← HLEN.out]; exact hjl
            rw [List.getElem?_map, List.getElem?_eq_getElem lq] at hu1
            rw [List.getElem?_map, List.getElem?_eq_getElem ll] at hu2
            obtain rfl := Option.some.inj hu1
            obtain rfl := Option.some.inj hu2
            have HT1 := hide (List.take_succ_eq_append_getElem lq)
            have HT2 := hide (List.take_succ_eq_append_getElem ll)
            unfold strv at hc1 hc2
            have HNE : Hid (Q[j] ≠ L[j] → (Q == L) = false) := by
              intro h
              rw [beq_eq_false_iff_ne]
              intro e
              subst e
              exact h rfl
            clear hu1 hu2
            generalize Q[j] = x at *
            generalize L[j] = y at *
            clear lq ll
            by_cases hxy : x = y
            · have hbe : (x == y) = true := by simp [hxy]
              have HXY := hide hxy
              clear hxy HNE
              go_wp2
              go_quiet (fail)
              go_wp2
              go_roundw
              case rel => exact ⟨j + 1, _, by omega, by go_num, rfl, hide (by rw [HT1.out, HT2.out, HJ.out, HXY.out])⟩
              case measure => simp [intOf]; omega
            · have hbe : (x == y) = false := by simp [hxy]
              have HE := hide (HNE.out hxy)
              clear hxy HNE
              go_wp2
              go_quiet (fail)
              go_wp2
              go_ret2
              exact ⟨by rw [HQ.out, HE.out]; rfl, (HF.out.drewN _).drewN _⟩
          · have HE : Hid ((Q == L) = true) := by
              have h := HJ.out
              rw [List.take_of_length_le (by omega), List.take_of_length_le (by rw [HL.out, ← HLEN.out]; omega)] at h
              simpa [Hid] using h
            go_wp2
            go_ret2
            exact ⟨by rw [HQ.out, HE.out, ← HOUT.out]; rfl, HF.out.drewN _⟩
      · have hle : ((Q.length : Int) != (k : Int)) = true := by simp; omega
        have HE : Hid ((Q == L) = false) := by
          unfold Hid
          rw [beq_eq_false_iff_ne]
          intro e
          exact hlen (by rw [e, HL.out])
        clear hlen
        go_wp2
        go_ret2
        exact ⟨by rw [HQ.out, HE.out]; rfl, HF.out⟩
end Go.Proofs.YtghnjmgjokbopaaDoor
