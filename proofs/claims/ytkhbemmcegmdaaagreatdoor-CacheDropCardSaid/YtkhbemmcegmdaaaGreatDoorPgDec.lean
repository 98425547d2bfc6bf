/- PAGES: the data of a page, the program's and the reference's. -/
import Derived.Test.YtkhbemmcegmdaaaGreatDoorPgSum
import Derived.Deep.RegionHeld3
import Derived.Deep.QuietTactic
import Derived.BigQuiet
set_option linter.all false
set_option linter.unusedVariables false
set_option maxRecDepth 100000
namespace Go.Proofs.YtkhbemmcegmdaaaGreatDoor
open Go.RowKit

def manyB (p : List UInt8) : Nat := 256 * (p.getD 0 0).toNat + (p.getD 1 0).toNat
def zerosB (l : List UInt8) : Bool := l.all (· == 0)
def pageB (p : List UInt8) : Bool := decide (p.length = 128) && (sumB (p.take 124) == p.drop 124) && decide (manyB p ≤ 122) && zerosB ((p.take 124).drop (2 + manyB p))
def datB (p : List UInt8) : List UInt8 := (p.drop 2).take (manyB p)
theorem held_drew (w : World) : Fr (fun _ => False) w w.drew := (Fr.refl _ _).drew
theorem held_f {w0 w w' : World} (h : Fr (fun _ => False) w0 w) (hf : Fr (fun _ => False) w w') : Fr (fun _ => False) w0 w' := h.then_ hf

theorem ext_toList (s : ByteArray) (a b : Nat) : (s.extract a b).toList = (s.data.toList.take b).drop a := by
  rw [ByteArray.toList_eq]
  simp [ByteArray.data_extract, List.drop_take]
theorem or_256 (a b : Nat) (ha : a < 256) (hb : b < 256) : bits .or .i64 ((a : Int) * 256) (b : Int) = ((256 * a + b : Nat) : Int) := by
  have h1 : (BitVec.ofInt 64 ((256 * a : Nat) : Int)).toNat = 256 * a := by
    rw [BitVec.ofInt_natCast, BitVec.toNat_ofNat]; exact Nat.mod_eq_of_lt (by omega)
  have h2 : (BitVec.ofInt 64 (b : Int)).toNat = b := by
    rw [BitVec.ofInt_natCast, BitVec.toNat_ofNat]; exact Nat.mod_eq_of_lt (by omega)
  have h3 : 256 * a + b = 256 * a ||| b := Nat.two_pow_add_eq_or_of_lt (i := 8) hb a
  rw [show (a : Int) * 256 = ((256 * a : Nat) : Int) by omega]
  show IntKind.i64.wrap ((BitVec.ofInt 64 ((256 * a : Nat) : Int) ||| BitVec.ofInt 64 (b : Int)).toNat : Int) = _
  rw [BitVec.toNat_or, h1, h2, ← h3]
  simp [IntKind.wrap, IntKind.bits, IntKind.signed]
  omega
theorem dropWhile_nil {p : UInt8 → Bool} {l : List UInt8} : l.dropWhile p = [] ↔ ∀ x ∈ l, p x = true := by
  induction l with
  | nil => simp
  | cons a l ih =>
    rw [List.dropWhile_cons]
    split
    · rename_i h; simp [ih, h]
    · rename_i h; simp [h]
theorem trim_zeros (l : List UInt8) : (Lib.trimB l 0).isEmpty = zerosB l := by
  rw [Bool.eq_iff_iff, List.isEmpty_iff]
  unfold Lib.trimB Lib.trimLeftB zerosB
  rw [dropWhile_nil, List.all_eq_true]
  constructor
  · intro h x hx
    by_cases h0 : (x == 0) = true
    · exact h0
    · refine h x ?_
      unfold Lib.trimRightB
      rw [List.mem_reverse]
      have hm : x ∈ l.reverse.takeWhile (· == 0) ++ l.reverse.dropWhile (· == 0) := by rw [List.takeWhile_append_dropWhile]; simpa using hx
      rcases List.mem_append.1 hm with hm | hm
      · exact absurd (List.all_eq_true.1 List.all_takeWhile x hm) h0
      · exact hm
  · intro h x hx
    unfold Lib.trimRightB at hx
    rw [List.mem_reverse] at hx
    exact h x (by simpa using (List.dropWhile_suffix _).subset hx)

theorem ofNat_toNat_ (x : UInt8) {n : Nat} (h : n % 256 = x.toNat) : UInt8.ofNat n = x := by
  apply UInt8.toNat.inj
  simpa using h
/-- a page is the page of its own data -/
theorem page_iff (p : List UInt8) (h : p.length = 128) (hm : manyB p ≤ 122) : (encB (datB p) = p) ↔ (sumB (p.take 124) = p.drop 124 ∧ zerosB ((p.take 124).drop (2 + manyB p)) = true) := by
  match p, h with
  | p0 :: p1 :: r, h =>
    have hr : r.length = 126 := by simpa using h
    have h0 := p0.toNat_lt
    have h1 := p1.toNat_lt
    have hM : manyB (p0 :: p1 :: r) = 256 * p0.toNat + p1.toNat := rfl
    generalize hmm : manyB (p0 :: p1 :: r) = m at *
    have hd : datB (p0 :: p1 :: r) = r.take m := by unfold datB; rw [hmm]; rfl
    have hdl : (r.take m).length = m := by simp; omega
    have e0 : UInt8.ofNat (m / 256) = p0 := ofNat_toNat_ p0 (by omega)
    have e1 : UInt8.ofNat m = p1 := ofNat_toNat_ p1 (by omega)
    have hB : bodyB (r.take m) = p0 :: p1 :: (r.take m ++ List.replicate (122 - m) 0) := by
      unfold bodyB
      rw [hdl, e0, e1]
      simp
    have ht : (p0 :: p1 :: r).take 124 = p0 :: p1 :: r.take 122 := rfl
    have hdr : (p0 :: p1 :: r).drop 124 = r.drop 122 := rfl
    have hz : ((p0 :: p1 :: r).take 124).drop (2 + m) = (r.take 122).drop m := by
      rw [ht, show 2 + m = m + 2 by omega]; rfl
    rw [hd, hz, ht, hdr]
    have hsplit : r.take 122 = r.take m ++ (r.take 122).drop m := by
      have := (List.take_append_drop m (r.take 122)).symm
      rw [List.take_take, Nat.min_eq_left hm] at this
      exact this
    have hzl : ((r.take 122).drop m).length = 122 - m := by simp; omega
    have hrr : p0 :: p1 :: r = (p0 :: p1 :: r.take 122) ++ r.drop 122 := by simp
    unfold encB
    rw [hB]
    constructor
    · intro e
      rw [hrr] at e
      have e' := List.append_inj e (by simp; omega)
      have e2 : r.take m ++ List.replicate (122 - m) 0 = r.take m ++ (r.take 122).drop m := by rw [← hsplit]; simpa using e'.1
      have e3 := List.append_cancel_left e2
      refine ⟨?_, ?_⟩
      · rw [← e'.2, ← e'.1]
      · rw [← e3]; simp [zerosB]
    · rintro ⟨e2, e3⟩
      have e4 : (r.take 122).drop m = List.replicate (122 - m) 0 := by
        rw [List.eq_replicate_iff]
        refine ⟨hzl, fun b hb => ?_⟩
        have := List.all_eq_true.1 e3 b hb
        simpa using this
      have e5 : p0 :: p1 :: (r.take m ++ List.replicate (122 - m) 0) = p0 :: p1 :: r.take 122 := by rw [← e4, ← hsplit]
      rw [e5, e2]
      exact hrr.symm
theorem datB_len (p : List UInt8) (h : p.length = 128) (hm : manyB p ≤ 122) : (datB p).length = manyB p := by
  unfold datB
  simp
  omega
theorem pageB_iff (p : List UInt8) : pageB p = true ↔ (p.length = 128 ∧ manyB p ≤ 122 ∧ encB (datB p) = p) := by
  unfold pageB
  simp only [Bool.and_eq_true, decide_eq_true_eq, beq_iff_eq]
  constructor
  · rintro ⟨⟨⟨h1, h2⟩, h3⟩, h4⟩
    exact ⟨h1, h3, (page_iff p h1 h3).2 ⟨h2, h4⟩⟩
  · rintro ⟨h1, h2, h3⟩
    have := (page_iff p h1 h2).1 h3
    exact ⟨⟨⟨h1, this.1⟩, h2⟩, this.2⟩
def rpageB (p : List UInt8) : Bool := decide (p.length = 128) && decide (manyB p ≤ 122) && (encB (datB p) == p)
theorem rpageB_eq (p : List UInt8) : rpageB p = pageB p := by
  rw [Bool.eq_iff_iff, pageB_iff]
  simp [rpageB, and_assoc]
def decR (b : Bool) (p : List UInt8) : Value := if b then .tuple #[.string ⟨(datB p).toArray⟩, .int .i64 0] else .tuple #[.string ⟨#[]⟩, .int .i64 50]

theorem ext_eq (s : ByteArray) (a b : Nat) : s.extract a b = ⟨((s.data.toList.take b).drop a).toArray⟩ := by
  apply ByteArray.ext
  apply Array.ext'
  simp [ByteArray.data_extract, List.drop_take]
theorem dat_ext (s : ByteArray) (m : Nat) (h : m = manyB s.data.toList) : s.extract 2 (2 + m) = ⟨(datB s.data.toList).toArray⟩ := by
  rw [ext_eq, datB, ← h, List.drop_take, show 2 + m - 2 = m by omega]
theorem many_eq (s : ByteArray) (h : s.size = 128) : 256 * (s[0]'(by omega)).toNat + (s[1]'(by omega)).toNat = manyB s.data.toList := by
  have h0 : 0 < s.data.toList.length := by simp [h]
  have h1 : 1 < s.data.toList.length := by simp [h]
  unfold manyB
  have e0 : s.data.toList.getD 0 0 = s.data.toList[0] := by rw [List.getD, List.getElem?_eq_getElem h0]; rfl
  have e1 : s.data.toList.getD 1 0 = s.data.toList[1] := by rw [List.getD, List.getElem?_eq_getElem h1]; rfl
  rw [e0, e1]
  rfl

set_option maxHeartbeats 1600000 in
theorem pg_dec (s : ByteArray) (w : World) (hs : s.size ≤ 9223372036854775807) : Calls Tryz.prog 37 #[.string s] w fun e w' => e = .returned (decR (pageB s.data.toList) s.data.toList) ∧ Fr (fun _ => False) w w' := by
  have D := hide (held_drew w)
  by_cases h : s.size = 128
  · have hx : (s.extract 0 124).size = 124 := by simp [h]
    have HS := hide (fun w => pg_sum (s.extract 0 124) (by omega) w)
    have hb0 := (s[0]'(by omega)).toNat_lt
    have hb1 := (s[1]'(by omega)).toNat_lt
    have hl : s.data.toList.length = s.size := by simp
    have hor := or_256 s[0].toNat s[1].toNat hb0 hb1
    have HM := hide (many_eq s h)
    have HP : Hid (pageB s.data.toList = ((sumB (List.take 124 s.data.toList) == s.data.toList.drop 124) && decide (manyB s.data.toList ≤ 122) && zerosB ((s.data.toList.take 124).drop (2 + manyB s.data.toList)))) := by
      unfold Hid pageB
      rw [decide_eq_true (hl.trans h), Bool.true_and]
    have e124 : (s.extract 124 128).toList = s.data.toList.drop 124 := by rw [ext_toList, List.take_of_length_le (by omega)]
    obtain ⟨b, hb⟩ : ∃ b, (sumB (List.take 124 s.data.toList) == (s.extract 124 128).toList) = b := ⟨_, rfl⟩
    have HB : Hid ((sumB (List.take 124 s.data.toList) == s.data.toList.drop 124) = b) := by rw [← e124]; exact hb
    generalize 256 * s[0].toNat + s[1].toNat = m at *
    have ht : Lib.trimB (List.take (124 - (2 + m)) (List.drop (2 + m) s.data.toList)) 0 = Lib.trimB ((s.data.toList.take 124).drop (2 + m)) 0 := by rw [List.drop_take]
    clear hl e124
    cases b
    · have HR : Hid (pageB s.data.toList = false) := by rw [HP.out, HB.out]; rfl
      clear ht
      go_enter Tryz.func37, Tryz.ntmps37
      go_wp2
      go_region_held3 (fun w' => Fr (fun _ => False) w w')
        (first | exact D.out | exact held_f (by assumption) hf)
        (first | (go_at_call 60; refine (HS.out _).mono ?_; rintro e w1 ⟨rfl, hf⟩))
      have HF := hide (held_f D.out hf)
      clear hf
      go_wp2
      go_ret2
      exact ⟨by rw [HR.out]; rfl, HF.out⟩
    · by_cases hm : m ≤ 122
      · have htz := trim_zeros ((s.data.toList.take 124).drop (2 + m))
        obtain ⟨bz, hz⟩ : ∃ bz, zerosB ((s.data.toList.take 124).drop (2 + m)) = bz := ⟨_, rfl⟩
        have hte : (Lib.trimB (List.take (124 - (2 + m)) (List.drop (2 + m) s.data.toList)) 0).isEmpty = bz := by rw [ht, htz, hz]
        have HR : Hid (pageB s.data.toList = bz) := by rw [HP.out, HB.out, ← HM.out, hz, decide_eq_true hm]; rfl
        have HX := hide (dat_ext s m HM.out)
        clear ht htz hz
        cases bz
        all_goals
          go_enter Tryz.func37, Tryz.ntmps37
          go_wp2
          go_region_held3 (fun w' => Fr (fun _ => False) w w')
            (first | exact D.out | exact held_f (by assumption) hf)
            (first | (go_at_call 60; refine (HS.out _).mono ?_; rintro e w1 ⟨rfl, hf⟩))
          have HF := hide (held_f D.out hf)
          clear hf
          go_wp2
          go_quiet (fail)
          go_wp2_with fail
          go_at_call 83
          refine (Tryz.strings_Trim_one _ 0 (by decide) _ (by simp; omega)).mono ?_
          rintro e w2 ⟨rfl, hw⟩
          have HF2 : Hid (Fr (fun _ => False) w w2) := by
            rcases hw with rfl | rfl
            · exact HF.out.drewN _
            · exact (HF.out.drewN _).drew
          clear hw
          go_wp2
          go_ret2
        · exact ⟨by rw [HR.out]; rfl, HF2.out⟩
        · exact ⟨by rw [HR.out, HX.out]; rfl, HF2.out⟩
      · have HR : Hid (pageB s.data.toList = false) := by rw [HP.out, HB.out, ← HM.out, decide_eq_false hm]; rfl
        clear ht
        go_enter Tryz.func37, Tryz.ntmps37
        go_wp2
        go_region_held3 (fun w' => Fr (fun _ => False) w w')
          (first | exact D.out | exact held_f (by assumption) hf)
          (first | (go_at_call 60; refine (HS.out _).mono ?_; rintro e w1 ⟨rfl, hf⟩))
        have HF := hide (held_f D.out hf)
        clear hf
        go_wp2
        go_quiet (fail)
        go_wp2
        go_ret2
        exact ⟨by rw [HR.out]; rfl, HF.out.drewN _⟩
  · have hl : s.data.toList.length = s.size := by simp
    have HR : Hid (pageB s.data.toList = false) := by unfold Hid pageB; rw [decide_eq_false (by omega)]; rfl
    have hne : ((s.size : Int) != 128) = true := by simp; omega
    clear hl
    go_enter Tryz.func37, Tryz.ntmps37
    go_wp2
    go_region
    go_wp2
    go_ret2
    exact ⟨by rw [HR.out]; rfl, D.out⟩

set_option maxHeartbeats 1600000 in
theorem rpg_dec (s : ByteArray) (w : World) (hs : s.size ≤ 9223372036854775807) : Calls Tryz.prog 122 #[.string s] w fun e w' => e = .returned (decR (pageB s.data.toList) s.data.toList) ∧ Fr (fun _ => False) w w' := by
  have D := hide (held_drew w)
  rw [← rpageB_eq]
  by_cases h : s.size = 128
  · have hb0 := (s[0]'(by omega)).toNat_lt
    have hb1 := (s[1]'(by omega)).toNat_lt
    have hl : s.data.toList.length = s.size := by simp
    have hor : (256 : Int) * ((s[0].toNat : Nat) : Int) + ((s[1].toNat : Nat) : Int) = ((256 * s[0].toNat + s[1].toNat : Nat) : Int) := by omega
    have HM := hide (many_eq s h)
    have HP : Hid (rpageB s.data.toList = (decide (manyB s.data.toList ≤ 122) && (encB (datB s.data.toList) == s.data.toList))) := by
      unfold Hid rpageB
      rw [decide_eq_true (hl.trans h), Bool.true_and]
    generalize 256 * s[0].toNat + s[1].toNat = m at *
    have HX := hide (dat_ext s m HM.out)
    by_cases hm : m ≤ 122
    · have hx : (s.extract 2 (2 + m)).size ≤ 122 := by simp; omega
      have HE := hide (fun w => rpg_enc (s.extract 2 (2 + m)) hx w)
      have hdd : (s.extract 2 (2 + m)).data.toList = datB s.data.toList := by rw [HX.out]
      rw [hdd] at HE
      have HR : Hid (rpageB s.data.toList = (encB (datB s.data.toList) == s.data.toList)) := by rw [HP.out, ← HM.out, decide_eq_true hm]; rfl
      obtain ⟨be, hbe⟩ : ∃ be, (encB (datB s.data.toList) == s.data.toList) = be := ⟨_, rfl⟩
      have HBE := hide hbe
      have hcmp : (encB (datB s.data.toList) == s.toList) = be := by rw [ByteArray.toList_eq]; exact hbe
      have hcmp2 : (!(encB (datB s.data.toList) == s.toList)) = !be := by rw [hcmp]
      clear hl hbe hdd hx
      generalize encB (datB s.data.toList) = q at *
      cases be
      all_goals
        go_enter Tryz.func122, Tryz.ntmps122
        go_wp2
        go_quiet (fail)
        go_wp2_with fail
        go_at_call 112
        refine (HE.out _).mono ?_
        rintro e w2 ⟨rfl, hf⟩
        have HF := hide ((Fr.refl (fun _ => False) w).drewN _ |>.then_ hf)
        clear hf
        go_wp2
        go_ret2
      · exact ⟨by rw [HR.out, HBE.out]; rfl, HF.out⟩
      · exact ⟨by rw [HR.out, HBE.out, HX.out]; rfl, HF.out⟩
    · have HR : Hid (rpageB s.data.toList = false) := by rw [HP.out, ← HM.out, decide_eq_false hm]; rfl
      clear hl
      go_enter Tryz.func122, Tryz.ntmps122
      go_wp2
      go_quiet (fail)
      go_wp2
      go_ret2
      exact ⟨by rw [HR.out]; rfl, (Fr.refl _ _).drewN _⟩
  · have hl : s.data.toList.length = s.size := by simp
    have HR : Hid (rpageB s.data.toList = false) := by unfold Hid rpageB; rw [decide_eq_false (by omega)]; rfl
    have hne : ((s.size : Int) != 128) = true := by simp; omega
    clear hl
    go_enter Tryz.func122, Tryz.ntmps122
    go_wp2
    go_ret2
    exact ⟨by rw [HR.out]; rfl, Fr.refl _ _⟩
end Go.Proofs.YtkhbemmcegmdaaaGreatDoor
