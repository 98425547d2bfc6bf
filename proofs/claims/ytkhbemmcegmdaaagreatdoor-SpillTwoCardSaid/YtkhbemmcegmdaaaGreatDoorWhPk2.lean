/- Parts of the proof of several laws: no conditions of their own. -/
import Derived.Test.YtkhbemmcegmdaaaGreatDoorWhPk1
import Derived.Deep.RegionHeld3
import Derived.Deep.QuietTactic
import Derived.BigQuiet
import Derived.Laws.OwnMore
import Derived.Test.YtkhbemmcegmdaaaGreatDoorWhPk0
section
set_option linter.all false
set_option linter.unusedVariables false
set_option maxRecDepth 100000
namespace Go.Proofs.YtkhbemmcegmdaaaGreatDoor
open Go.RowKit

def manyB (p : List UInt8) : Nat := 256 * (p.getD 0 0).toNat + (p.getD 1 0).toNat
def zerosB (l : List UInt8) : Bool := l.all (· == 0)
def pageB (p : List UInt8) : Bool := decide (p.length = 128) && (sumB (p.take 124) == p.drop 124) && decide (manyB p ≤ 122) && zerosB ((p.take 124).drop (2 + manyB p))
def datB (p : List UInt8) : List UInt8 := (p.drop 2).take (manyB p)
theorem held_drew (w : World) : Fr (fun _ => False) w w.drew := (Fr.refl _ _).drew
theorem held_f {w0 w w' : World} (h : Fr (fun _ => False) w0 w) (hf : Fr (fun _ => False) w w') : Fr (fun _ => False) w0 w' := h.then_ hf

theorem ext_toList (s : ByteArray) (a b : Nat) : (s.extract a b).toList = (s.data.toList.take b).drop a := by
  rw [ByteArray.toList_eq]
  simp [ByteArray.data_extract, List.drop_take]
theorem or_256 (a b : Nat) (ha : a < 256) (hb : b < 256) : bits .or .i64 ((a : Int) * 256) (b : Int) = ((256 * a + b : Nat) : Int) := by
  have h1 : (BitVec.ofInt 64 ((256 * a : Nat) : Int)).toNat = 256 * a := by
    rw [BitVec.ofInt_natCast, BitVec.toNat_ofNat]; exact Nat.mod_eq_of_lt (by omega)
  have h2 : (BitVec.ofInt 64 (b : Int)).toNat = b := by
    rw [BitVec.ofInt_natCast, BitVec.toNat_ofNat]; exact Nat.mod_eq_of_lt (by omega)
  have h3 : 256 * a + b = 256 * a ||| b := Nat.two_pow_add_eq_or_of_lt (i := 8) hb a
  rw [show (a : Int) * 256 = ((256 * a : Nat) : Int) by omega]
  show IntKind.i64.wrap ((BitVec.ofInt 64 ((256 * a : Nat) : Int) ||| BitVec.ofInt 64 (b : Int)).toNat : Int) = _
  rw [BitVec.toNat_or, h1, h2, ← h3]
  simp [IntKind.wrap, IntKind.bits, IntKind.signed]
  omega
theorem dropWhile_nil {p : UInt8 → Bool} {l : List UInt8} : l.dropWhile p = [] ↔ ∀ x ∈ l, p x = true := by
  induction l with
  | nil => simp
  | cons a l ih =>
    rw [List.dropWhile_cons]
    split
    · rename_i h; simp [ih, h]
    · rename_i h; simp [h]
theorem trim_zeros (l : List UInt8) : (Lib.trimB l 0).isEmpty = zerosB l := by
  rw [Bool.eq_iff_iff, List.isEmpty_iff]
  unfold Lib.trimB Lib.trimLeftB zerosB
  rw [dropWhile_nil, List.all_eq_true]
  constructor
  · intro h x hx
    by_cases h0 : (x == 0) = true
    · exact h0
    · refine h x ?_
      unfold Lib.trimRightB
      rw [List.mem_reverse]
      have hm : x ∈ l.reverse.takeWhile (· == 0) ++ l.reverse.dropWhile (· == 0) := by rw [List.takeWhile_append_dropWhile]; simpa using hx
      rcases List.mem_append.1 hm with hm | hm
      · exact absurd (List.all_eq_true.1 List.all_takeWhile x hm) h0
      · exact hm
  · intro h x hx
    unfold Lib.trimRightB at hx
    rw [List.mem_reverse] at hx
    exact h x (by simpa using (List.dropWhile_suffix _).subset hx)

theorem ofNat_toNat_ (x : UInt8) {n : Nat} (h : n % 256 = x.toNat) : UInt8.ofNat n = x := by
  apply UInt8.toNat.inj
  simpa using h
/-- a page is the page of its own data -/
theorem page_iff (p : List UInt8) (h : p.length = 128) (hm : manyB p ≤ 122) : (encB (datB p) = p) ↔ (sumB (p.take 124) = p.drop 124 ∧ zerosB ((p.take 124).drop (2 + manyB p)) = true) := by
  match p, h with
  | p0 :: p1 :: r, h =>
    have hr : r.length = 126 := by simpa using h
    have h0 := p0.toNat_lt
    have h1 := p1.toNat_lt
    have hM : manyB (p0 :: p1 :: r) = 256 * p0.toNat + p1.toNat := rfl
    generalize hmm : manyB (p0 :: p1 :: r) = m at *
    have hd : datB (p0 :: p1 :: r) = r.take m := by unfold datB; rw [hmm]; rfl
    have hdl : (r.take m).length = m := by simp; omega
    have e0 : UInt8.ofNat (m / 256) = p0 := ofNat_toNat_ p0 (by omega)
    have e1 : UInt8.ofNat m = p1 := ofNat_toNat_ p1 (by omega)
    have hB : bodyB (r.take m) = p0 :: p1 :: (r.take m ++ List.replicate (122 - m) 0) := by
      unfold bodyB
      rw [hdl, e0, e1]
      simp
    have ht : (p0 :: p1 :: r).take 124 = p0 :: p1 :: r.take 122 := rfl
    have hdr : (p0 :: p1 :: r).drop 124 = r.drop 122 := rfl
    have hz : ((p0 :: p1 :: r).take 124).drop (2 + m) = (r.take 122).drop m := by
      rw [ht, show 2 + m = m + 2 by omega]; rfl
    rw [hd, hz, ht, hdr]
    have hsplit : r.take 122 = r.take m ++ (r.take 122).drop m := by
      have := (List.take_append_drop m (r.take 122)).symm
      rw [List.take_take, Nat.min_eq_left hm] at this
      exact this
    have hzl : ((r.take 122).drop m).length = 122 - m := by simp; omega
    have hrr : p0 :: p1 :: r = (p0 :: p1 :: r.take 122) ++ r.drop 122 := by simp
    unfold encB
    rw [hB]
    constructor
    · intro e
      rw [hrr] at e
      have e' := List.append_inj e (by simp; omega)
      have e2 : r.take m ++ List.replicate (122 - m) 0 = r.take m ++ (r.take 122).drop m := by rw [← hsplit]; simpa using e'.1
      have e3 := List.append_cancel_left e2
      refine ⟨?_, ?_⟩
      · rw [← e'.2, ← e'.1]
      · rw [← e3]; simp [zerosB]
    · rintro ⟨e2, e3⟩
      have e4 : (r.take 122).drop m = List.replicate (122 - m) 0 := by
        rw [List.eq_replicate_iff]
        refine ⟨hzl, fun b hb => ?_⟩
        have := List.all_eq_true.1 e3 b hb
        simpa using this
      have e5 : p0 :: p1 :: (r.take m ++ List.replicate (122 - m) 0) = p0 :: p1 :: r.take 122 := by rw [← e4, ← hsplit]
      rw [e5, e2]
      exact hrr.symm
theorem datB_len (p : List UInt8) (h : p.length = 128) (hm : manyB p ≤ 122) : (datB p).length = manyB p := by
  unfold datB
  simp
  omega
theorem pageB_iff (p : List UInt8) : pageB p = true ↔ (p.length = 128 ∧ manyB p ≤ 122 ∧ encB (datB p) = p) := by
  unfold pageB
  simp only [Bool.and_eq_true, decide_eq_true_eq, beq_iff_eq]
  constructor
  · rintro ⟨⟨⟨h1, h2⟩, h3⟩, h4⟩
    exact ⟨h1, h3, (page_iff p h1 h3).2 ⟨h2, h4⟩⟩
  · rintro ⟨h1, h2, h3⟩
    have := (page_iff p h1 h2).1 h3
    exact ⟨⟨⟨h1, this.1⟩, h2⟩, this.2⟩
def rpageB (p : List UInt8) : Bool := decide (p.length = 128) && decide (manyB p ≤ 122) && (encB (datB p) == p)
theorem rpageB_eq (p : List UInt8) : rpageB p = pageB p := by
  rw [Bool.eq_iff_iff, pageB_iff]
  simp [rpageB, and_assoc]
def decR (b : Bool) (p : List UInt8) : Value := if b then .tuple #[.string ⟨(datB p).toArray⟩, .int .i64 0] else .tuple #[.string ⟨#[]⟩, .int .i64 50]

theorem ext_eq (s : ByteArray) (a b : Nat) : s.extract a b = ⟨((s.data.toList.take b).drop a).toArray⟩ := by
  apply ByteArray.ext
  apply Array.ext'
  simp [ByteArray.data_extract, List.drop_take]
theorem dat_ext (s : ByteArray) (m : Nat) (h : m = manyB s.data.toList) : s.extract 2 (2 + m) = ⟨(datB s.data.toList).toArray⟩ := by
  rw [ext_eq, datB, ← h, List.drop_take, show 2 + m - 2 = m by omega]
theorem many_eq (s : ByteArray) (h : s.size = 128) : 256 * (s[0]'(by omega)).toNat + (s[1]'(by omega)).toNat = manyB s.data.toList := by
  have h0 : 0 < s.data.toList.length := by simp [h]
  have h1 : 1 < s.data.toList.length := by simp [h]
  unfold manyB
  have e0 : s.data.toList.getD 0 0 = s.data.toList[0] := by rw [List.getD, List.getElem?_eq_getElem h0]; rfl
  have e1 : s.data.toList.getD 1 0 = s.data.toList[1] := by rw [List.getD, List.getElem?_eq_getElem h1]; rfl
  rw [e0, e1]
  rfl

set_option maxHeartbeats 1600000 in
theorem pg_dec (s : ByteArray) (w : World) (hs : s.size ≤ 9223372036854775807) : Calls Tryz.prog 37 #[.string s] w fun e w' => e = .returned (decR (pageB s.data.toList) s.data.toList) ∧ Fr (fun _ => False) w w' := by
  have D := hide (held_drew w)
  by_cases h : s.size = 128
  · have hx : (s.extract 0 124).size = 124 := by simp [h]
    have HS := hide (fun w => pg_sum (s.extract 0 124) (by omega) w)
    have hb0 := (s[0]'(by omega)).toNat_lt
    have hb1 := (s[1]'(by omega)).toNat_lt
    have hl : s.data.toList.length = s.size := by simp
    have hor := or_256 s[0].toNat s[1].toNat hb0 hb1
    have HM := hide (many_eq s h)
    have HP : Hid (pageB s.data.toList = ((sumB (List.take 124 s.data.toList) == s.data.toList.drop 124) && decide (manyB s.data.toList ≤ 122) && zerosB ((s.data.toList.take 124).drop (2 + manyB s.data.toList)))) := by
      unfold Hid pageB
      rw [decide_eq_true (hl.trans h), Bool.true_and]
    have e124 : (s.extract 124 128).toList = s.data.toList.drop 124 := by rw [ext_toList, List.take_of_length_le (by omega)]
    obtain ⟨b, hb⟩ : ∃ b, (sumB (List.take 124 s.data.toList) == (s.extract 124 128).toList) = b := ⟨_, rfl⟩
    have HB : Hid ((sumB (List.take 124 s.data.toList) == s.data.toList.drop 124) = b) := by rw [← e124]; exact hb
    generalize 256 * s[0].toNat + s[1].toNat = m at *
    have ht : Lib.trimB (List.take (124 - (2 + m)) (List.drop (2 + m) s.data.toList)) 0 = Lib.trimB ((s.data.toList.take 124).drop (2 + m)) 0 := by rw [List.drop_take]
    clear hl e124
    cases b
    · have HR : Hid (pageB s.data.toList = false) := by rw [HP.out, HB.out]; rfl
      clear ht
      go_enter Tryz.func37, Tryz.ntmps37
      go_wp2
      go_region_held3 (fun w' => Fr (fun _ => False) w w')
        (first | exact D.out | exact held_f (by assumption) hf)
        (first | (go_at_call 60; refine (HS.out _).mono ?_; rintro e w1 ⟨rfl, hf⟩))
      have HF := hide (held_f D.out hf)
      clear hf
      go_wp2
      go_ret2
      exact ⟨by rw [HR.out]; rfl, HF.out⟩
    · by_cases hm : m ≤ 122
      · have htz := trim_zeros ((s.data.toList.take 124).drop (2 + m))
        obtain ⟨bz, hz⟩ : ∃ bz, zerosB ((s.data.toList.take 124).drop (2 + m)) = bz := ⟨_, rfl⟩
        have hte : (Lib.trimB (List.take (124 - (2 + m)) (List.drop (2 + m) s.data.toList)) 0).isEmpty = bz := by rw [ht, htz, hz]
        have HR : Hid (pageB s.data.toList = bz) := by rw [HP.out, HB.out, ← HM.out, hz, decide_eq_true hm]; rfl
        have HX := hide (dat_ext s m HM.out)
        clear ht htz hz
        cases bz
        all_goals
          go_enter Tryz.func37, Tryz.ntmps37
          go_wp2
          go_region_held3 (fun w' => Fr (fun _ => False) w w')
            (first | exact D.out | exact held_f (by assumption) hf)
            (first | (go_at_call 60; refine (HS.out _).mono ?_; rintro e w1 ⟨rfl, hf⟩))
          have HF := hide (held_f D.out hf)
          clear hf
          go_wp2
          go_quiet (fail)
          go_wp2_with fail
          go_at_call 83
          refine (Tryz.strings_Trim_one _ 0 (by decide) _ (by simp; omega)).mono ?_
          rintro e w2 ⟨rfl, hw⟩
          have HF2 : Hid (Fr (fun _ => False) w w2) := by
            rcases hw with rfl | rfl
            · exact HF.out.drewN _
            · exact (HF.out.drewN _).drew
          clear hw
          go_wp2
          go_ret2
        · exact ⟨by rw [HR.out]; rfl, HF2.out⟩
        · exact ⟨by rw [HR.out, HX.out]; rfl, HF2.out⟩
      · have HR : Hid (pageB s.data.toList = false) := by rw [HP.out, HB.out, ← HM.out, decide_eq_false hm]; rfl
        clear ht
        go_enter Tryz.func37, Tryz.ntmps37
        go_wp2
        go_region_held3 (fun w' => Fr (fun _ => False) w w')
          (first | exact D.out | exact held_f (by assumption) hf)
          (first | (go_at_call 60; refine (HS.out _).mono ?_; rintro e w1 ⟨rfl, hf⟩))
        have HF := hide (held_f D.out hf)
        clear hf
        go_wp2
        go_quiet (fail)
        go_wp2
        go_ret2
        exact ⟨by rw [HR.out]; rfl, HF.out.drewN _⟩
  · have hl : s.data.toList.length = s.size := by simp
    have HR : Hid (pageB s.data.toList = false) := by unfold Hid pageB; rw [decide_eq_false (by omega)]; rfl
    have hne : ((s.size : Int) != 128) = true := by simp; omega
    clear hl
    go_enter Tryz.func37, Tryz.ntmps37
    go_wp2
    go_region
    go_wp2
    go_ret2
    exact ⟨by rw [HR.out]; rfl, D.out⟩

set_option maxHeartbeats 1600000 in
theorem rpg_dec (s : ByteArray) (w : World) (hs : s.size ≤ 9223372036854775807) : Calls Tryz.prog 122 #[.string s] w fun e w' => e = .returned (decR (pageB s.data.toList) s.data.toList) ∧ Fr (fun _ => False) w w' := by
  have D := hide (held_drew w)
  rw [← rpageB_eq]
  by_cases h : s.size = 128
  · have hb0 := (s[0]'(by omega)).toNat_lt
    have hb1 := (s[1]'(by omega)).toNat_lt
    have hl : s.data.toList.length = s.size := by simp
    have hor : (256 : Int) * ((s[0].toNat : Nat) : Int) + ((s[1].toNat : Nat) : Int) = ((256 * s[0].toNat + s[1].toNat : Nat) : Int) := by omega
    have HM := hide (many_eq s h)
    have HP : Hid (rpageB s.data.toList = (decide (manyB s.data.toList ≤ 122) && (encB (datB s.data.toList) == s.data.toList))) := by
      unfold Hid rpageB
      rw [decide_eq_true (hl.trans h), Bool.true_and]
    generalize 256 * s[0].toNat + s[1].toNat = m at *
    have HX := hide (dat_ext s m HM.out)
    by_cases hm : m ≤ 122
    · have hx : (s.extract 2 (2 + m)).size ≤ 122 := by simp; omega
      have HE := hide (fun w => rpg_enc (s.extract 2 (2 + m)) hx w)
      have hdd : (s.extract 2 (2 + m)).data.toList = datB s.data.toList := by rw [HX.out]
      rw [hdd] at HE
      have HR : Hid (rpageB s.data.toList = (encB (datB s.data.toList) == s.data.toList)) := by rw [HP.out, ← HM.out, decide_eq_true hm]; rfl
      obtain ⟨be, hbe⟩ : ∃ be, (encB (datB s.data.toList) == s.data.toList) = be := ⟨_, rfl⟩
      have HBE := hide hbe
      have hcmp : (encB (datB s.data.toList) == s.toList) = be := by rw [ByteArray.toList_eq]; exact hbe
      have hcmp2 : (!(encB (datB s.data.toList) == s.toList)) = !be := by rw [hcmp]
      clear hl hbe hdd hx
      generalize encB (datB s.data.toList) = q at *
      cases be
      all_goals
        go_enter Tryz.func122, Tryz.ntmps122
        go_wp2
        go_quiet (fail)
        go_wp2_with fail
        go_at_call 112
        refine (HE.out _).mono ?_
        rintro e w2 ⟨rfl, hf⟩
        have HF := hide ((Fr.refl (fun _ => False) w).drewN _ |>.then_ hf)
        clear hf
        go_wp2
        go_ret2
      · exact ⟨by rw [HR.out, HBE.out]; rfl, HF.out⟩
      · exact ⟨by rw [HR.out, HBE.out, HX.out]; rfl, HF.out⟩
    · have HR : Hid (rpageB s.data.toList = false) := by rw [HP.out, ← HM.out, decide_eq_false hm]; rfl
      clear hl
      go_enter Tryz.func122, Tryz.ntmps122
      go_wp2
      go_quiet (fail)
      go_wp2
      go_ret2
      exact ⟨by rw [HR.out]; rfl, (Fr.refl _ _).drewN _⟩
  · have hl : s.data.toList.length = s.size := by simp
    have HR : Hid (rpageB s.data.toList = false) := by unfold Hid rpageB; rw [decide_eq_false (by omega)]; rfl
    have hne : ((s.size : Int) != 128) = true := by simp; omega
    clear hl
    go_enter Tryz.func122, Tryz.ntmps122
    go_wp2
    go_ret2
    exact ⟨by rw [HR.out]; rfl, Fr.refl _ _⟩
end Go.Proofs.YtkhbemmcegmdaaaGreatDoor
end
section
set_option linter.all false
set_option linter.unusedVariables false
set_option maxRecDepth 100000
namespace Go.Proofs.YtkhbemmcegmdaaaGreatDoor
open Go.RowKit

theorem str_info : (Tryz.prog.info? 9).map (fun i => (i.zero, i.size, i.bytes)) = some (some (.string ⟨#[]⟩), 1, 16) := by kernel_rfl
def strv (l : List UInt8) : Value := .string ⟨l.toArray⟩
/-- data in parts of 122 bytes -/
def chunks (d : List UInt8) : List (List UInt8) := if h : 122 < d.length then d.take 122 :: chunks (d.drop 122) else [d]
termination_by d.length
decreasing_by simp; omega
theorem chunks_long {d : List UInt8} (h : 122 < d.length) : chunks d = d.take 122 :: chunks (d.drop 122) := by rw [chunks]; rw [dif_pos h]
theorem chunks_short {d : List UInt8} (h : d.length ≤ 122) : chunks d = [d] := by rw [chunks]; rw [dif_neg (by omega)]
def splitB (d : List UInt8) : List (List UInt8) := (chunks d).map encB
theorem splitB_long {d : List UInt8} (h : 122 < d.length) : splitB d = encB (d.take 122) :: splitB (d.drop 122) := by rw [splitB, chunks_long h]; rfl
theorem splitB_short {d : List UInt8} (h : d.length ≤ 122) : splitB d = [encB d] := by rw [splitB, chunks_short h]; rfl
theorem chunks_count (n : Nat) : ∀ d : List UInt8, d.length ≤ n → (chunks d).length ≤ 1 + d.length / 122 := by
  induction n with
  | zero => intro d h; rw [chunks_short (by omega)]; simp
  | succ n ih =>
    intro d h
    by_cases hl : 122 < d.length
    · rw [chunks_long hl]
      have := ih (d.drop 122) (by simp; omega)
      simp at this ⊢
      omega
    · rw [chunks_short (by omega)]
      simp

theorem own_fr {w w' : World} {base n : Nat} {e : TypeId} {v : Value} {xs : List Value} {S : Nat → Prop} (h : w.ownsRow base e 1 v n xs) (hf : Fr S w w') (hn : ∀ k, v.ownBlock = some k → ¬ S k) : w'.ownsRow base e 1 v n xs := by
  obtain ⟨h1, h2⟩ := h
  refine ⟨h1, ?_⟩
  rcases h2 with h2 | ⟨g, cap, cur, rfl, hb, hg, h3⟩
  · exact .inl h2
  · have hlt : g < w.heap.size := by
      rcases Nat.lt_or_ge g w.heap.size with h | h
      · exact h
      · rw [Array.getElem?_eq_none h] at hg; cases hg
    exact .inr ⟨g, cap, cur, rfl, hb, (hf.block g hlt (hn g rfl)).trans hg, h3⟩

/-- pages that are being made -/
structure PgAt (W0 : World) (lb : Nat) (xs : List (List UInt8)) (w : World) : Prop where
  ge : W0.heap.size ≤ lb
  fr : Fr (fun _ => False) W0 w
  row : ∃ v, Blk w lb 166 #[v] ∧ w.ownsRow W0.heap.size 9 1 v xs.length (xs.map strv) ∧ v.ownBlock ≠ some lb

theorem pg_add (W0 : World) (lb : Nat) (xs : List (List UInt8)) (s : ByteArray) (w : World) (h : PgAt W0 lb xs w) (hs : s.size ≤ 122) (hn : xs.length ≤ 1000) :
    Calls Tryz.prog 99 #[.pointer (some ⟨lb, 0, none⟩), .string s] w fun e w' => e = .returned (.tuple #[]) ∧ PgAt W0 lb (xs ++ [encB s.data.toList]) w' := by
  obtain ⟨i0, hi, hz0, hz1, hz2⟩ := info_parts str_info
  obtain ⟨hge, hfr, v, hB, hown, hne⟩ := h
  have HE := hide (pg_enc s hs w)
  have HB := hide hB
  have HO := hide hown
  have HF := hide hfr
  have HN := hide hne
  generalize encB s.data.toList = q at *
  clear hB hown hfr hne
  go_enter Tryz.func99, Tryz.ntmps99
  go_wp2_with fail
  go_at_call 17
  refine HE.out.mono ?_
  rintro e w1 ⟨rfl, hf⟩
  have hown1 := own_fr HO.out hf (fun _ _ h => h)
  have HB1 := hide (HB.out.fr hf id)
  have HF1 := hide (HF.out.then_ hf)
  have c0 : w1.cell? ⟨lb, 0, none⟩ = some v := (HB1.out.cell 0).trans rfl
  have hz := HF1.out.size
  clear hf
  go_wp2_with (at_builtin; refine wpList_append_box w1 _ _ rfl (.tmp 15) (.tmp 17) _ rfl W0.heap.size 9 i0 _ 1 16 Tryz.underlying116 hi hz0 hz1 hz2 rfl (by decide) _ _ _ rfl hown1 rfl rfl ?c1 ?c2 ?c3 ?c4 ?c5)
  case c1 => simp [Value.oneCell']
  case c2 => unfold maxLen; omega
  case c3 => omega
  case c4 => exact hz
  case c5 =>
    intro v' w2 hown2 hg hob
    have hlb := HB1.out.lt
    have HB2 : Hid (Blk w2 lb 166 #[v]) := (HB1.out).fr (Fr.of_grown hg) HN.out
    have hne' : v'.ownBlock ≠ some lb := by
      rcases hob with h | h
      · rw [h]; exact HN.out
      · rw [h]; intro e; injection e with e; omega
    have HF2 : Hid (Fr (fun _ => False) W0 w2) := HF1.out.grown hg (fun k hk => .inr ((hown1.lt k hk).1))
    have c2 : w2.cell? ⟨lb, 0, none⟩ = some v := (HB2.out.cell 0).trans rfl
    have f2 := HB2.out.frozen 0
    have HZ : Hid (PgAt W0 lb (xs ++ [q]) (w2.setCell ⟨lb, 0, none⟩ v')) := by
      refine ⟨hge, HF2.out.setCell (p := ⟨lb, 0, none⟩) (.inr hge) _, v', HB2.out.set_ 0 v', ?_, hne'⟩
      have : w2.ownsRow W0.heap.size 9 1 v' (xs ++ [q]).length ((xs ++ [q]).map strv) := by
        have := hown2
        simpa [strv] using this
      exact own_fr this (Fr.one w2 lb 0 v') (fun k hk hk' => hne' (by rw [hk, hk']))
    obtain ⟨A', c', rfl⟩ := Reads.own_val hown2
    clear hown1 hown2 hg hob c0 hne'
    go_wp2
    go_end0
    exact ⟨rfl, HZ.out⟩

theorem own_val2 {w : World} {base n : Nat} {v : Value} {xs : List Value} {e : TypeId} (h : w.ownsRow base e 1 v n xs) : ∃ A c, v = .slice A n c ∧ n ≤ c ∧ c ≤ 9223372036854775807 := by
  rcases h.2 with ⟨rfl, rfl⟩ | ⟨g, cap, cur, rfl, _, _, h1, h2, _⟩
  · exact ⟨_, _, rfl, Nat.le_refl _, by omega⟩
  · exact ⟨_, _, rfl, h1, by unfold maxLen at h2; omega⟩
def sizeOfV : Value → Nat
  | .string s => s.size
  | _ => 0
theorem ext_list (s : ByteArray) : (s.extract 0 122).data.toList = s.data.toList.take 122 ∧ (s.extract 122 s.size).data.toList = s.data.toList.drop 122 := by
  constructor
  · rw [ext_eq]; simp
  · rw [ext_eq]
    have : s.data.toList.length = s.size := by simp
    simp [List.take_of_length_le (Nat.le_of_eq this)]
theorem pg_each (W0 : World) (lb : Nat) (xs : List (List UInt8)) (s : ByteArray) (w : World) (h : PgAt W0 lb xs w) (hs : s.size ≤ 12000) (hn : xs.length + s.size / 122 + 1 ≤ 1000) :
    Calls Tryz.prog 98 #[.string s, .func (.func 99) #[.pointer (some ⟨lb, 0, none⟩)] #[]] w fun e w' => e = .returned (.tuple #[]) ∧ PgAt W0 lb (xs ++ splitB s.data.toList) w' := by
  have HP := hide h
  clear h
  go_enter Tryz.func98, Tryz.ntmps98
  go_wp2
  go_loopw [0] (fun x wr => ∃ (s' : ByteArray) (xs' : List (List UInt8)), x = .string s' ∧ s'.size ≤ 12000 ∧ xs'.length + s'.size / 122 + 1 ≤ 1000 ∧ Hid (PgAt W0 lb xs' wr ∧ xs' ++ splitB s'.data.toList = xs ++ splitB s.data.toList)) (fun x _ => sizeOfV x)
  case atStart => exact ⟨s, xs, rfl, hs, hn, HP.out, rfl⟩
  case round =>
    obtain ⟨s', xs', rfl, hs', hn', HI⟩ := hrel
    have hl : s'.data.toList.length = s'.size := by simp
    by_cases hlt : 122 < s'.size
    · have hx : (s'.extract 0 122).size ≤ 122 := by simp; omega
      have HA := hide (fun w h => pg_add W0 lb xs' (s'.extract 0 122) w h hx (by omega))
      have HL := hide (splitB_long (d := s'.data.toList) (by omega))
      have HX := hide (ext_list s')
      have hsz : (s'.extract 122 s'.size).size = s'.size - 122 := by simp
      clear hl
      go_wp2_with fail
      go_at_call 99
      refine (HA.out _ HI.out.1).mono ?_
      rintro e w1 ⟨rfl, hP⟩
      have HZ : Hid (PgAt W0 lb (xs' ++ [encB (s'.data.toList.take 122)]) w1 ∧ (xs' ++ [encB (s'.data.toList.take 122)]) ++ splitB (s'.extract 122 s'.size).data.toList = xs ++ splitB s.data.toList) := by
        rw [HX.out.1] at hP
        refine ⟨hP, ?_⟩
        rw [HX.out.2, ← HI.out.2, HL.out]
        simp
      clear hP HI
      go_wp2
      go_roundw
      case rel => exact ⟨_, _, rfl, by omega, by simp; omega, HZ⟩
      case measure => simp [sizeOfV]; omega
    · have HA := hide (fun w h => pg_add W0 lb xs' s' w h (by omega) (by omega))
      have HL := hide (splitB_short (d := s'.data.toList) (by omega))
      clear hl
      go_wp2_with fail
      go_at_call 99
      refine (HA.out _ HI.out.1).mono ?_
      rintro e w1 ⟨rfl, hP⟩
      have HZ : Hid (PgAt W0 lb (xs ++ splitB s.data.toList) w1) := by
        rw [← HI.out.2, HL.out]
        exact hP
      clear hP HI
      go_wp2
      go_end0
      exact ⟨rfl, HZ.out⟩

theorem pg_split (s : ByteArray) (w : World) (hs : s.size ≤ 12000) :
    Calls Tryz.prog 56 #[.string s] w fun e w' => ∃ A c, e = .returned (.slice A (splitB s.data.toList).length c) ∧ (splitB s.data.toList).length ≤ c ∧ c ≤ 9223372036854775807 ∧ Reads w' w'.heap.size 1 A (splitB s.data.toList).length ((splitB s.data.toList).map strv) ∧ Fr (fun _ => False) w w' := by
  have HP : Hid (PgAt w w.heap.size [] (w.alloc (.cells #[.slice none 0 0] 166))) := ⟨Nat.le_refl _, (Fr.refl _ _).alloc _, _, Blk.new _ _ _, World.ownsRow_nil _ _ _ _, by simp [Value.ownBlock]⟩
  have HE := hide (pg_each w w.heap.size [] s _ HP.out hs (by simp; omega))
  generalize splitB s.data.toList = q at *
  go_enter Tryz.func56, Tryz.ntmps56
  go_wp2_with fail
  go_at_call 98
  refine HE.out.mono ?_
  rintro e w1 ⟨rfl, ⟨_, hf, v, hB, hown, _⟩⟩
  have c0 : w1.cell? ⟨w.heap.size, 0, none⟩ = some v := (hB.cell 0).trans rfl
  rw [List.nil_append] at hown
  obtain ⟨A, c, rfl, hc1, hc2⟩ := own_val2 hown
  have HR := hide (Reads.of_own hown)
  have HF := hide hf
  clear hf hB hown
  go_wp2
  go_ret
  exact ⟨_, _, rfl, hc1, hc2, HR.out, HF.out⟩

theorem rpg_split (n : Nat) : ∀ (s : ByteArray) (w : World), s.size ≤ n → s.size ≤ 12000 →
    Calls Tryz.prog 74 #[.string s] w (fun e w' => ∃ A c, e = .returned (.slice A (splitB s.data.toList).length c) ∧ (splitB s.data.toList).length ≤ c ∧ c ≤ 9223372036854775807 ∧ Reads w' w'.heap.size 1 A (splitB s.data.toList).length ((splitB s.data.toList).map strv) ∧ Fr (fun _ => False) w w') := by
  induction n with
  | zero =>
    intro s w h hs
    have hl : s.data.toList.length = s.size := by simp
    have HL := hide (splitB_short (d := s.data.toList) (by omega))
    rw [HL.out]
    have HE := hide (rpg_enc s (by omega) w)
    generalize encB s.data.toList = q at *
    clear hl HL
    go_enter Tryz.func74, Tryz.ntmps74
    go_wp2_with fail
    go_at_call 112
    refine HE.out.mono ?_
    rintro e w1 ⟨rfl, hf⟩
    have HF := hide hf
    clear hf
    go_wp2_with fail
    go_ret
    exact ⟨_, _, rfl, Nat.le_refl _, by omega, Reads.blk (Blk.new w1 9 #[.string ⟨q.toArray⟩]) rfl, HF.out.alloc _⟩
  | succ n ih =>
    intro s w h hs
    have hl : s.data.toList.length = s.size := by simp
    by_cases hlt : 122 < s.size
    · obtain ⟨i0, hi, hz0, hz1, hz2⟩ := info_parts str_info
      have hx : (s.extract 0 122).size ≤ 122 := by simp; omega
      have hsz : (s.extract 122 s.size).size = s.size - 122 := by simp
      have HE := hide (rpg_enc (s.extract 0 122) hx w)
      have HI := hide (fun w => ih (s.extract 122 s.size) w (by omega) (by omega))
      have HX := ext_list s
      rw [HX.1] at HE
      rw [HX.2] at HI
      have HL := hide (splitB_long (d := s.data.toList) (by omega))
      rw [HL.out]
      have hcnt : (splitB (s.data.toList.drop 122)).length ≤ 1000 := by
        have := chunks_count _ (s.data.toList.drop 122) (Nat.le_refl _)
        simp [splitB] at this ⊢
        omega
      generalize encB (s.data.toList.take 122) = q at *
      generalize splitB (s.data.toList.drop 122) = Q at *
      clear hl HL HX ih
      go_enter Tryz.func74, Tryz.ntmps74
      go_wp2_with fail
      go_at_call 112
      refine HE.out.mono ?_
      rintro e w1 ⟨rfl, hf⟩
      have HF := hide hf
      clear hf
      go_wp2_with fail
      go_at_call 74
      refine (HI.out _).mono ?_
      rintro e w2 ⟨A, c, rfl, _, _, hr, hf⟩
      have hown : w2.ownsRow w1.heap.size 9 1 (.slice (some ⟨w1.heap.size, 0, none⟩) 1 1) 1 [strv q] :=
        own_fr (World.ownsRow_lit (base := w1.heap.size) (e := 9) (size := 1) w1 #[.string ⟨q.toArray⟩] 1 (Nat.le_refl _) (by unfold maxLen; omega) rfl) hf (fun _ _ h => h)
      have hge : w1.heap.size ≤ w2.heap.size := Nat.le_trans (by simp) hf.size
      have HF2 := hide ((HF.out.alloc (.cells #[.string ⟨q.toArray⟩] 9)).then_ hf)
      clear hf
      go_wp2_with (at_builtin; refine wpList_append_reads rfl _ _ 116 rfl w1.heap.size 9 i0 _ 1 16 Tryz.underlying116 hi hz0 hz1 hz2 rfl (by decide) _ _ _ rfl hown w2.heap.size A Q.length c (Q.map strv) rfl hr ?c1 ?c2 ?c3 ?c4 ?c5)
      case c1 => intro u hu; obtain ⟨l, _, rfl⟩ := List.mem_map.1 hu; rfl
      case c2 => unfold maxLen; omega
      case c3 => omega
      case c4 => omega
      case c5 =>
        intro v' w3 hown3 hg _
        have HF3 := hide (HF2.out.grown hg (fun k hk => .inr (by have := HF.out.size; have := (hown.lt k hk).1; omega)))
        have hown4 : w3.ownsRow w1.heap.size 9 1 v' (q :: Q).length ((q :: Q).map strv) := by
          have := hown3
          simpa [Nat.add_comm] using this
        obtain ⟨A', c', rfl, hc1, hc2⟩ := own_val2 hown4
        have HR := hide (Reads.of_own hown4)
        clear hown hown3 hown4 hg hr
        go_wp2
        go_ret
        exact ⟨_, _, rfl, hc1, hc2, HR.out, HF3.out⟩
    · have HL := hide (splitB_short (d := s.data.toList) (by omega))
      rw [HL.out]
      have HE := hide (rpg_enc s (by omega) w)
      generalize encB s.data.toList = q at *
      clear hl HL ih
      go_enter Tryz.func74, Tryz.ntmps74
      go_wp2_with fail
      go_at_call 112
      refine HE.out.mono ?_
      rintro e w1 ⟨rfl, hf⟩
      have HF := hide hf
      clear hf
      go_wp2_with fail
      go_ret
      exact ⟨_, _, rfl, Nat.le_refl _, by omega, Reads.blk (Blk.new w1 9 #[.string ⟨q.toArray⟩]) rfl, HF.out.alloc _⟩
end Go.Proofs.YtkhbemmcegmdaaaGreatDoor
end
section
set_option linter.all false
set_option linter.unusedVariables false
set_option maxRecDepth 100000
namespace Go.Proofs.YtkhbemmcegmdaaaGreatDoor
open Go.RowKit
open Go.ChangeMaps (setBlock)

abbrev Name := List UInt8
abbrev FileL := List (Name × List (List UInt8))
/-- a file's pages -/
def fpg (n : Name) : FileL → List (List UInt8)
  | [] => []
  | p :: F => if n = p.1 then p.2 else fpg n F
structure FSRep (w : World) (fb mb : Nat) (X : Nat → Prop) (room left : Int) (F : FileL) (L : List (Ent Name)) (clock : Nat) : Prop where
  lt : ∀ k, X k → k < w.heap.size
  xf : X fb
  xm : X mb
  ne : fb ≠ mb
  blk : Blk w fb 125 #[.int .i64 room, .int .i64 left, .map (some mb)]
  map : MBlk w mb strk L clock
  nd : (F.map (·.1)).Nodup
  bnd : (L.map (·.2.2)).Nodup
  bclk : ∀ x ∈ L, x.2.2 < clock
  len : L.length = F.length
  row : ∀ (i : Nat) (x : Ent Name) (p : Name × List (List UInt8)), L[i]? = some x → F[i]? = some p → x.1 = p.1 ∧ p.2 ≠ [] ∧ w.ownsRow 0 9 1 x.2.1 p.2.length (p.2.map strv) ∧ ∀ b, x.2.1.ownBlock = some b → X b ∧ b ≠ fb ∧ b ≠ mb
  dis : ∀ (i j : Nat) (x y : Ent Name), i ≠ j → L[i]? = some x → L[j]? = some y → x.2.1.ownBlock = none ∨ x.2.1.ownBlock ≠ y.2.1.ownBlock
/-- a file system in block fb; X: the blocks that it takes -/
def FSAt (w : World) (fb : Nat) (X : Nat → Prop) (room left : Int) (F : FileL) : Prop := ∃ mb L clock, FSRep w fb mb X room left F L clock
section
variable {w w' : World} {fb mb clock : Nat} {X S : Nat → Prop} {room left : Int} {F : FileL} {L : List (Ent Name)}
theorem FSRep.fr (h : FSRep w fb mb X room left F L clock) (hf : Fr S w w') (hs : ∀ k, X k → ¬ S k) : FSRep w' fb mb X room left F L clock :=
  { h with
    lt := fun k hk => Nat.lt_of_lt_of_le (h.lt k hk) hf.size
    blk := h.blk.fr hf (hs _ h.xf)
    map := h.map.fr hf (hs _ h.xm)
    row := fun i x p hx hp => by
      obtain ⟨h1, h2, h3, h4⟩ := h.row i x p hx hp
      exact ⟨h1, h2, own_fr h3 hf (fun k hk => hs k (h4 k hk).1), h4⟩ }
theorem FSAt.fr (h : FSAt w fb X room left F) (hf : Fr S w w') (hs : ∀ k, X k → ¬ S k) : FSAt w' fb X room left F := by
  obtain ⟨mb, L, clock, h⟩ := h
  exact ⟨mb, L, clock, h.fr hf hs⟩
theorem FSAt.up (h : FSAt w fb X room left F) (hf : Fr (fun _ => False) w w') : FSAt w' fb X room left F := h.fr hf (fun _ _ h => h)
theorem FSAt.lt (h : FSAt w fb X room left F) : ∀ k, X k → k < w.heap.size := by
  obtain ⟨_, _, _, h⟩ := h
  exact h.lt
theorem get_lists (n : Name) : ∀ (L : List (Ent Name)) (F : FileL), L.length = F.length → (∀ (i : Nat) (x : Ent Name) (p : Name × List (List UInt8)), L[i]? = some x → F[i]? = some p → x.1 = p.1) →
    (∃ (i : Nat) (x : Ent Name) (p : Name × List (List UInt8)), L[i]? = some x ∧ F[i]? = some p ∧ x.1 = n ∧ aget n L = some x.2.1 ∧ fpg n F = p.2) ∨ (aget n L = none ∧ fpg n F = [] ∧ n ∉ F.map (·.1))
  | [], [], _, _ => .inr ⟨rfl, rfl, by simp⟩
  | x :: L, p :: F, hl, hk => by
    have h0 := hk 0 x p rfl rfl
    by_cases hn : n = x.1
    · exact .inl ⟨0, x, p, rfl, rfl, hn.symm, by simp [aget, hn], by simp [fpg, hn, h0]⟩
    · have hn2 : ¬ n = p.1 := by rw [← h0]; exact hn
      rcases get_lists n L F (by simpa using hl) (fun i y q hy hq => hk (i + 1) y q (by simpa using hy) (by simpa using hq)) with ⟨i, y, q, h1, h2, h3, h4, h5⟩ | ⟨h1, h2, h3⟩
      · exact .inl ⟨i + 1, y, q, by simpa using h1, by simpa using h2, h3, by simp [aget, hn, h4], by simp [fpg, hn2, h5]⟩
      · exact .inr ⟨by simp [aget, hn, h1], by simp [fpg, hn2, h2], by simp only [List.map_cons, List.mem_cons, not_or]; exact ⟨hn2, h3⟩⟩
theorem FSRep.get (h : FSRep w fb mb X room left F L clock) (n : Name) : (∃ (i : Nat) (x : Ent Name) (p : Name × List (List UInt8)), L[i]? = some x ∧ F[i]? = some p ∧ x.1 = n ∧ aget n L = some x.2.1 ∧ fpg n F = p.2) ∨ (aget n L = none ∧ fpg n F = [] ∧ n ∉ F.map (·.1)) :=
  get_lists n L F h.len (fun i x p hx hp => (h.row i x p hx hp).1)
end
theorem mapf : Tryz.prog.underlying 123 = some (.map 9 116) := Tryz.underlying123
theorem strs_zero (w : World) : (zeroValue 116).run Tryz.prog w = .ok (.slice none 0 0) w := by simp [Tryz.zeroValue116]
theorem str_under : Tryz.prog.underlying 9 = some .string := Tryz.underlying9
section
variable {w w' : World} {fb mb clock : Nat} {X S : Nat → Prop} {room left : Int} {F : FileL} {L : List (Ent Name)}
/-- a file looked up: a slice that reads as its pages -/
theorem FSRep.look (h : FSRep w fb mb X room left F L clock) (n : Name) : ∃ A c, (∀ w', MBlk w' mb strk L clock → (Instr.lookup 123 (.map (some mb)) (.string ⟨n.toArray⟩) false).run Tryz.prog w' = .ok (.slice A (fpg n F).length c) w') ∧
    Reads w w.heap.size 1 A (fpg n F).length ((fpg n F).map strv) := by
  rcases h.get n with ⟨i, x, p, hx, hp, hxn, hg, hf⟩ | ⟨hg, hf, _⟩
  · obtain ⟨_, _, h3, _⟩ := h.row i x p hx hp
    obtain ⟨A, c, hv⟩ := Reads.own_val h3
    refine ⟨A, c, fun w' hm => ?_, ?_⟩
    · have := lookup_v (P := Tryz.prog) (key_string str_under) mapf strs_zero hm n
      rw [hg] at this
      rw [hf, ← hv]
      exact this
    · rw [hf]
      rw [hv] at h3
      exact Reads.of_own h3
  · refine ⟨none, 0, fun w' hm => ?_, ?_⟩
    · have := lookup_v (P := Tryz.prog) (key_string str_under) mapf strs_zero hm n
      rw [hg] at this
      rw [hf]
      exact this
    · rw [hf]
      exact ⟨by simp, fun h => by simp at h⟩
end
theorem eql_map_nil {P : Program} {t k e : TypeId} (ht : P.underlying t = some (.map k e)) (mb : Nat) (w : World) : (binOp .eql t (.map (some mb)) (.map none)).run P w = .ok (.bool false) w := by
  have h : ∀ d : Nat, (Op.equalIn (d + 1) t (.map (some mb)) (.map none)).run P w = .ok false w := fun d => by simp [Op.equalIn, run_underlying ht]
  simp only [binOp]
  simp [Op.equal, Op.maxDepth, h 9999]
def ptr (b : Nat) : Value := .pointer (some ⟨b, 0, none⟩)
section
variable {w : World} {fb : Nat} {X : Nat → Prop} {room left : Int} {F : FileL}
theorem fnone_ok (h : FSAt w fb X room left F) : Calls Tryz.prog 62 #[.pointer (some ⟨fb, 0, none⟩)] w fun e w' => e = .returned (.bool false) ∧ w = w' := by
  obtain ⟨mb, L, clock, h⟩ := h
  have c2 := (h.blk.cell 2).trans rfl
  have hnz := fun w => eql_map_nil (P := Tryz.prog) mapf mb w
  clear h
  go_enter Tryz.func62, Tryz.ntmps62
  go_wp2
  go_ret
  exact ⟨rfl, rfl⟩
theorem fpages_ok (h : FSAt w fb X room left F) (n : Name) : Calls Tryz.prog 43 #[.pointer (some ⟨fb, 0, none⟩), .string ⟨n.toArray⟩] w fun e w' => e = .returned (.int .i64 ((fpg n F).length : Int)) ∧ w = w' := by
  have HN := hide (fnone_ok h)
  obtain ⟨mb, L, clock, h⟩ := h
  have c2 := (h.blk.cell 2).trans rfl
  obtain ⟨A, c, hl, _⟩ := h.look n
  have hlk := hl w h.map
  clear h hl
  go_enter Tryz.func43, Tryz.ntmps43
  go_wp2_with fail
  go_at_call 62
  refine HN.out.mono ?_
  rintro e w1 ⟨rfl, rfl⟩
  go_wp2
  go_ret
  exact ⟨rfl, rfl⟩
theorem fpage_ok (s : List UInt8) (hs : s.length ≤ 9223372036854775807) (w : World) : Calls Tryz.prog 64 #[.string ⟨s.toArray⟩] w fun e w' => e = .returned (.bool (decide (s.length = 128))) ∧ w = w' := by
  go_enter Tryz.func64, Tryz.ntmps64
  go_wp2
  go_ret
  exact ⟨by rw [show ((s.length : Int) == 128) = decide (s.length = 128) by rw [Bool.eq_iff_iff]; simp; omega]; rfl, rfl⟩
theorem fthere_ok (h : FSAt w fb X room left F) (n : Name) (i : Int) : Calls Tryz.prog 82 #[.pointer (some ⟨fb, 0, none⟩), .string ⟨n.toArray⟩, .int .i64 i] w fun e w' => e = .returned (.int .i64 (if 0 ≤ i ∧ i < ((fpg n F).length : Int) then 0 else 4)) ∧ w = w' := by
  have HN := hide (fnone_ok h)
  obtain ⟨mb, L, clock, h⟩ := h
  have c2 := (h.blk.cell 2).trans rfl
  obtain ⟨A, c, hl, _⟩ := h.look n
  have hlk := hl w h.map
  clear h hl
  generalize (fpg n F).length = m at *
  by_cases h0 : i < 0
  · have e : (if 0 ≤ i ∧ i < (m : Int) then (0 : Int) else 4) = 4 := if_neg (by omega)
    rw [e]
    go_enter Tryz.func82, Tryz.ntmps82
    go_wp2_with fail
    go_at_call 62
    refine HN.out.mono ?_
    rintro e w1 ⟨rfl, rfl⟩
    go_wp2
    go_ret
    exact ⟨rfl, rfl⟩
  · by_cases h1 : (m : Int) ≤ i
    · have e : (if 0 ≤ i ∧ i < (m : Int) then (0 : Int) else 4) = 4 := if_neg (by omega)
      rw [e]
      go_enter Tryz.func82, Tryz.ntmps82
      go_wp2_with fail
      go_at_call 62
      refine HN.out.mono ?_
      rintro e w1 ⟨rfl, rfl⟩
      go_wp2
      go_ret
      exact ⟨rfl, rfl⟩
    · have e : (if 0 ≤ i ∧ i < (m : Int) then (0 : Int) else 4) = 0 := if_pos (by omega)
      rw [e]
      go_enter Tryz.func82, Tryz.ntmps82
      go_wp2_with fail
      go_at_call 62
      refine HN.out.mono ?_
      rintro e w1 ⟨rfl, rfl⟩
      go_wp2
      go_ret
      exact ⟨rfl, rfl⟩
end
section
variable {w : World} {fb mb clock : Nat} {X : Nat → Prop} {room left : Int} {F : FileL} {L : List (Ent Name)}
/-- the count of reads turned -/
theorem FSRep.setLeft (h : FSRep w fb mb X room left F L clock) (z : Int) : FSRep (w.setCell ⟨fb, 1, none⟩ (.int .i64 z)) fb mb X room z F L clock := by
  have hf := Fr.one w fb 1 (.int .i64 z)
  exact { h with
    lt := fun k hk => Nat.lt_of_lt_of_le (h.lt k hk) hf.size
    blk := h.blk.set_ 1 _
    map := h.map.fr hf (Ne.symm h.ne)
    row := fun i x p hx hp => by
      obtain ⟨h1, h2, h3, h4⟩ := h.row i x p hx hp
      exact ⟨h1, h2, own_fr h3 hf (fun k hk => (h4 k hk).2.1), h4⟩ }
theorem ffail_ok (h : FSAt w fb X room left F) (n : Int) (hn : 0 ≤ n) : Calls Tryz.prog 22 #[.pointer (some ⟨fb, 0, none⟩), .int .i64 n] w fun e w' => e = .returned (.int .i64 0) ∧ FSAt w' fb X room n F ∧ Fr X w w' := by
  have HN := hide (fnone_ok h)
  obtain ⟨mb, L, clock, h⟩ := h
  have c1 := (h.blk.cell 1).trans rfl
  have f1 := h.blk.frozen 1
  have HS := hide (h.setLeft n)
  have HF := hide ((Fr.one w fb 1 (.int .i64 n)).mono (S' := X) (fun k hk => by rw [hk]; exact h.xf))
  have hn2 : ¬ n < 0 := by omega
  clear h
  go_enter Tryz.func22, Tryz.ntmps22
  go_wp2_with fail
  go_at_call 62
  refine HN.out.mono ?_
  rintro e w1 ⟨rfl, rfl⟩
  go_wp2
  go_ret
  exact ⟨rfl, ⟨mb, L, clock, HS.out⟩, HF.out⟩
theorem ffail_bad (h : FSAt w fb X room left F) (n : Int) (hn : n < 0) : Calls Tryz.prog 22 #[.pointer (some ⟨fb, 0, none⟩), .int .i64 n] w fun e w' => e = .returned (.int .i64 2) ∧ w = w' := by
  have HN := hide (fnone_ok h)
  clear h
  go_enter Tryz.func22, Tryz.ntmps22
  go_wp2_with fail
  go_at_call 62
  refine HN.out.mono ?_
  rintro e w1 ⟨rfl, rfl⟩
  go_wp2
  go_ret
  exact ⟨rfl, rfl⟩
/-- what a read comes to -/
def rdLeft (left : Int) : Int := if left = -1 then -1 else left - 1
theorem fread_none (h : FSAt w fb X room left F) (n : Name) (i : Int) (hi : ¬ (0 ≤ i ∧ i < ((fpg n F).length : Int))) : Calls Tryz.prog 36 #[.pointer (some ⟨fb, 0, none⟩), .string ⟨n.toArray⟩, .int .i64 i] w fun e w' => e = .returned (.tuple #[.string ⟨#[]⟩, .int .i64 4]) ∧ w = w' := by
  have HT := hide (fthere_ok h n i)
  rw [if_neg hi] at HT
  clear h hi
  go_enter Tryz.func36, Tryz.ntmps36
  go_wp2_with fail
  go_at_call 82
  refine HT.out.mono ?_
  rintro e w1 ⟨rfl, rfl⟩
  go_wp2
  go_ret2
  exact ⟨rfl, rfl⟩
theorem fread_ok (h : FSAt w fb X room left F) (n : Name) (i : Nat) (hi : i < (fpg n F).length) (hl : -1 ≤ left ∧ left ≤ 9223372036854775807) : Calls Tryz.prog 36 #[.pointer (some ⟨fb, 0, none⟩), .string ⟨n.toArray⟩, .int .i64 (i : Int)] w fun e w' =>
    e = .returned (if left = 0 then .tuple #[.string ⟨#[]⟩, .int .i64 60] else .tuple #[.string ⟨((fpg n F).getD i []).toArray⟩, .int .i64 0]) ∧ FSAt w' fb X room (rdLeft left) F ∧ Fr X w w' := by
  have HT := hide (fthere_ok h n (i : Int))
  rw [if_pos (by omega)] at HT
  obtain ⟨mb, L, clock, h⟩ := h
  have c1 := (h.blk.cell 1).trans rfl
  have f1 := h.blk.frozen 1
  have HH := hide h
  have hgi : (fpg n F).getD i [] = (fpg n F)[i] := by simp [List.getD, hi]
  by_cases hm : left = -1
  · subst hm
    have c2 := (h.blk.cell 2).trans rfl
    obtain ⟨A, c, hl2, hr⟩ := h.look n
    have hlk := hl2 w h.map
    obtain ⟨b2, o2, e, hb2, hc⟩ := hr.2 (by omega)
    have hcc := hc i (strv (fpg n F)[i]) (by rw [List.getElem?_map, List.getElem?_eq_getElem hi]; rfl)
    subst e
    unfold strv at hcc
    rw [← hgi] at hcc
    clear hgi
    clear hr hl2 hc
    generalize (fpg n F).getD i [] = pg at *
    generalize (fpg n F).length = m at *
    have g0 : (0 : Int) ≤ (i : Int) := by omega
    have g1 : (i : Int) < (m : Int) := by omega
    clear h
    go_enter Tryz.func36, Tryz.ntmps36
    go_wp2_with fail
    go_at_call 82
    refine HT.out.mono ?_
    rintro e w1 ⟨rfl, rfl⟩
    go_wp2
    go_ret2
    exact ⟨rfl, ⟨mb, L, clock, HH.out⟩, Fr.refl _ _⟩
  · have HF := hide ((Fr.one w fb 1 (.int .i64 (left - 1))).mono (S' := X) (fun k hk => by rw [hk]; exact h.xf))
    have HS := hide (h.setLeft (left - 1))
    have hr : rdLeft left = left - 1 := if_neg hm
    have HRD := hide hr
    have cS := (HS.out.blk.cell 1).trans rfl
    have c2 := (HS.out.blk.cell 2).trans rfl
    obtain ⟨A, c, hl2, hr⟩ := HS.out.look n
    have hlk := hl2 _ HS.out.map
    obtain ⟨b2, o2, e, hb2, hc⟩ := hr.2 (by omega)
    have hcc := hc i (strv (fpg n F)[i]) (by rw [List.getElem?_map, List.getElem?_eq_getElem hi]; rfl)
    subst e
    unfold strv at hcc
    rw [← hgi] at hcc
    clear hgi
    clear hr hl2 hc
    generalize (fpg n F).getD i [] = pg at *
    generalize (fpg n F).length = m at *
    have g0 : (0 : Int) ≤ (i : Int) := by omega
    have g1 : (i : Int) < (m : Int) := by omega
    have g2 : IntKind.i64.wrap (left - 1) = left - 1 := by simp only [IntKind.wrap, IntKind.bits, IntKind.signed]; simp; omega
    clear h
    by_cases hz : left = 0
    · subst hz
      go_enter Tryz.func36, Tryz.ntmps36
      go_wp2_with fail
      go_at_call 82
      refine HT.out.mono ?_
      rintro e w1 ⟨rfl, rfl⟩
      go_wp2
      go_ret2
      exact ⟨rfl, ⟨mb, L, clock, by first | (rw [HRD.out]; exact HS.out) | exact HS.out⟩, HF.out⟩
    · rw [if_neg hz]
      have hz2 : ¬ (left - 1 = -1) := by omega
      go_enter Tryz.func36, Tryz.ntmps36
      go_wp2_with fail
      go_at_call 82
      refine HT.out.mono ?_
      rintro e w1 ⟨rfl, rfl⟩
      go_wp2
      go_ret2
      exact ⟨rfl, ⟨mb, L, clock, by first | (rw [HRD.out]; exact HS.out) | exact HS.out⟩, HF.out⟩
end
theorem fnew_ok (n : Nat) (h1 : 1 ≤ n) (h2 : n ≤ 4096) (w : World) : Calls Tryz.prog 24 #[.int .i64 (n : Int)] w fun e w' => ∃ fb X, e = .returned (.tuple #[.pointer (some ⟨fb, 0, none⟩), .int .i64 0]) ∧ FSAt w' fb X (n : Int) (-1) [] ∧ (∀ k, X k → w.heap.size ≤ k) ∧ Fr (fun _ => False) w w' := by
  have hmm := @run_makeMap Tryz.prog
  go_enter Tryz.func24, Tryz.ntmps24
  go_wp2
  go_ret2
  have F1 : Fr (fun _ => False) w (w.alloc (.map #[] 0)) := (Fr.refl _ _).alloc _
  have F2 := F1.alloc (.cells #[.int .i64 (n : Int), .int .i64 (-1), .map (some w.heap.size)] 125)
  refine ⟨w.heap.size + 1, fun k => k = w.heap.size ∨ k = w.heap.size + 1, by simp, ⟨w.heap.size, [], 0, ?_⟩, fun k hk => by omega, F2⟩
  refine ⟨fun k hk => by simp; omega, .inr rfl, .inl rfl, by omega, ?_, ?_, by simp, by simp, by simp, rfl, fun i x p hx => by simp at hx, fun i j x y _ hx => by simp at hx⟩
  · have := Blk.new (w.alloc (.map #[] 0)) 125 #[.int .i64 (n : Int), .int .i64 (-1), .map (some w.heap.size)]
    simpa using this
  · unfold MBlk
    have h0 : (w.alloc (.map #[] 0)).heap[w.heap.size]? = some (.map #[] 0) := heap_alloc_new w _
    rw [heap_alloc_old _ _ (by simp), h0]
    rfl
end Go.Proofs.YtkhbemmcegmdaaaGreatDoor
end
