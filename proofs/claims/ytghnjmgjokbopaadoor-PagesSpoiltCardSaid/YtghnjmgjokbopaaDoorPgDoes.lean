/- THE CHAPTER's EXAMPLES: pages. -/
import Derived.Test.YtghnjmgjokbopaaDoorPgHelp
import Derived.Deep.RegionWith
set_option linter.unusedVariables false
set_option maxRecDepth 100000
namespace Go.Proofs.YtghnjmgjokbopaaDoor
open Go.RowKit

theorem reads_tail {w : World} {B b o n : Nat} {x : Value} {xs : List Value} (h : Reads w B 1 (some ⟨b, o, none⟩) (n + 1) (x :: xs)) : Reads w B 1 (some ⟨b, o + 1, none⟩) n xs := by
  refine ⟨by have := h.1; simp at this ⊢; omega, fun hn => ?_⟩
  obtain ⟨b', o', e, hb, hc⟩ := h.2 (by omega)
  injection e with e
  injection e with e1 e2
  subst e1
  subst e2
  exact ⟨b, o + 1, rfl, hb, fun j u hu => by have := hc (j + 1) u (by simpa using hu); rw [show o + 1 + j = o + (j + 1) by omega]; exact this⟩
def zcells (n : Nat) : Array Value := (List.replicate n (Value.int .u8 0)).toArray
def zlist : List UInt8 := (encB [97, 98]).set 3 157
def txt (n : Nat) : List UInt8 := someB [120, 121, 122] n
theorem txt_len (n : Nat) : (txt n).length = n := someB_len _ _
theorem page_z : pageB zlist = false := by decide +kernel
theorem page_0 : pageB (List.replicate 128 0) = false := by decide +kernel
theorem txt_drop : (txt 123).drop 122 = [122] := by decide +kernel
theorem enc_take : (encB [97, 98]).take 4 = [0, 2, 97, 98] := by decide +kernel
theorem enc_3 : (encB [97, 98])[3]? = some 98 := by decide +kernel
theorem xor_98 : bits .xor .u8 IntKind.u8.max 98 = 157 := by decide +kernel
theorem set3 (q : List UInt8) (h : q.length = 128) (c : UInt8) : ((⟨q.toArray⟩ : ByteArray).extract 0 3 ++ ⟨#[c]⟩) ++ (⟨q.toArray⟩ : ByteArray).extract 4 128 = ⟨(q.set 3 c).toArray⟩ := by
  rw [ext_eq, ext_eq]
  apply ByteArray.ext
  apply Array.ext'
  simp only [ByteArray.data_append, Array.toList_append, List.drop_zero]
  match q, h with
  | a :: b :: c' :: d :: r, h =>
    have hr : r.length = 124 := by simpa using h
    simp [hr, List.take_of_length_le]
set_option maxHeartbeats 4000000 in
theorem does_any (w : World) : Calls Tryd.prog 14 #[] w fun e w' => e = .returned (.bool true) ∧ Fr (fun _ => False) w w' := by
  have HE := hide (fun w => pg_enc ⟨#[97, 98]⟩ (by decide) w)
  change Hid (∀ w, Calls _ _ _ _ fun e w' => e = .returned (.tuple #[.string ⟨(encB [97, 98]).toArray⟩, .int .i64 0]) ∧ _) at HE
  have hpq : pageB (encB [97, 98]) = true := page_enc (by decide)
  have hdq : datB (encB [97, 98]) = [97, 98] := dat_enc (by decide)
  have hql : (encB [97, 98]).length = 128 := encB_len (by decide)
  have hq4 : (((⟨(encB [97, 98]).toArray⟩ : ByteArray).extract 0 4).toList == [0, 2, 97, 98]) = true := by rw [ext_toList]; simp [enc_take]
  have hz := page_z
  unfold zlist at hz
  have HQ3 := hide enc_3
  generalize encB [97, 98] = q at *
  have HD := hide (fun w => pg_dec ⟨q.toArray⟩ w (by show q.toArray.size ≤ _; simp [hql]))
  rw [show (⟨q.toArray⟩ : ByteArray).data.toList = q by simp, hpq] at HD
  unfold decR at HD
  rw [if_pos rfl, hdq] at HD
  have HDZ := hide (fun w => pg_dec ⟨(q.set 3 157).toArray⟩ w (by show (q.set 3 157).toArray.size ≤ _; simp [hql]))
  rw [show (⟨(q.set 3 157).toArray⟩ : ByteArray).data.toList = q.set 3 157 by simp, hz] at HDZ
  unfold decR at HDZ
  rw [if_neg (by simp)] at HDZ
  have HSET := hide (set3 q hql 157)
  have hsz : (⟨q.toArray⟩ : ByteArray).size = 128 := by show q.toArray.size = 128; simp [hql]
  have hx3 : (⟨q.toArray⟩ : ByteArray)[3]'(by rw [hsz]; decide) = 98 := by
    have h := HQ3.out
    rw [List.getElem?_eq_getElem (by omega)] at h
    exact Option.some.inj h
  have hx98 := xor_98
  have hcv : ∀ W : World, (convert 34 9 (.slice (some ⟨W.heap.size, 0, none⟩) 1 1)).run Tryd.prog (W.alloc (.cells #[.int .u8 157] 5)) = .ok (.string ⟨#[157]⟩) (W.alloc (.cells #[.int .u8 157] 5)) := fun W => run_str1 W 34 9 5 5 157 (by omega) (by omega) Tryd.underlying34 Tryd.underlying5 Tryd.underlying9
  have hmk : ∀ W, (Instr.makeSlice 34 (.int .i64 128) (.int .i64 128)).run Tryd.prog W = .ok (.slice (some ⟨W.heap.size, 0, none⟩) 128 128) (W.alloc (.cells (zcells 128) 5)) := zeros_made 128 (by omega) 128 rfl
  have hcz : ∀ W : World, (convert 34 9 (.slice (some ⟨W.heap.size, 0, none⟩) 128 128)).run Tryd.prog (W.alloc (.cells (zcells 128) 5)) = .ok (.string (zeroS 128)) (W.alloc (.cells (zcells 128) 5)) := zeros_str 128
  have HD0 := hide (fun w => pg_dec (zeroS 128) w (by rw [zeroS_size]; omega))
  rw [show (zeroS 128).data.toList = List.replicate 128 0 by simp [zeroS], page_0] at HD0
  unfold decR at HD0
  rw [if_neg (by simp)] at HD0
  have HT3 := hide (fun w => some_any [120, 121, 122] 123 w (by decide) (by decide) (by omega))
  have HT2 := hide (fun w => some_any [120, 121, 122] 122 w (by decide) (by decide) (by omega))
  change Hid (∀ w, Calls _ _ _ _ fun e w' => e = .returned (.string ⟨(txt 123).toArray⟩) ∧ _) at HT3
  change Hid (∀ w, Calls _ _ _ _ fun e w' => e = .returned (.string ⟨(txt 122).toArray⟩) ∧ _) at HT2
  have HS3 := hide (fun w => pg_split ⟨(txt 123).toArray⟩ w (by show (txt 123).toArray.size ≤ _; simp [txt_len]))
  have HS2 := hide (fun w => pg_split ⟨(txt 122).toArray⟩ w (by show (txt 122).toArray.size ≤ _; simp [txt_len]))
  have HS0 := hide (fun w => pg_split ⟨#[]⟩ w (by decide))
  have e3 : splitB (⟨(txt 123).toArray⟩ : ByteArray).data.toList = [encB ((txt 123).take 122), encB [122]] := by
    rw [show (⟨(txt 123).toArray⟩ : ByteArray).data.toList = txt 123 by simp, splitB_long (by rw [txt_len]; omega), txt_drop, splitB_short (by decide)]
  have e2 : splitB (⟨(txt 122).toArray⟩ : ByteArray).data.toList = [encB (txt 122)] := by
    rw [show (⟨(txt 122).toArray⟩ : ByteArray).data.toList = txt 122 by simp, splitB_short (by rw [txt_len]; omega)]
  have e0 : splitB (⟨#[]⟩ : ByteArray).data.toList = [encB []] := splitB_short (by decide)
  rw [e3] at HS3
  rw [e2] at HS2
  rw [e0] at HS0
  have hj1 : joinB [encB [122]] = true := by
    have := join_split [122]
    rwa [splitB_short (by decide)] at this
  have hfl : flatB [encB [122]] = [122] := by simp [flatB, dat_enc (d := [122]) (by decide)]
  have HJR : Hid (joinR (joinB [encB [122]]) [encB [122]] = .tuple #[.string ⟨#[122]⟩, .int .i64 0]) := by unfold Hid joinR; rw [hj1, hfl]; rfl
  have hle : (encB [122]).length = 128 := encB_len (by decide)
  have HLE := hide hle
  generalize encB [122] = x2 at *
  generalize encB ((txt 123).take 122) = x1 at *
  generalize encB (txt 122) = x3 at *
  generalize encB [] = x4 at *
  generalize txt 123 = t3 at *
  generalize txt 122 = t2 at *
  clear hpq hdq hz e3 e2 e0 hj1 hfl hle
  go_enter Tryd.func14, Tryd.ntmps14
  go_wp2_with fail
  go_at_call 9
  refine (HE.out _).mono ?_
  rintro e w1 ⟨rfl, hf⟩
  have HF := hide hf
  clear hf
  go_wp2_with fail
  go_at_call 16
  refine (HD.out _).mono ?_
  rintro e w2 ⟨rfl, hf⟩
  have HF := hide (HF.out.then_ hf)
  clear hf
  go_wp2_with fail
  have D := hide (held_f HF.out (held_drew w2))
  have hcvd : (convert 34 9 (.slice (some ⟨w2.heap.size, 0, none⟩) 1 1)).run Tryd.prog (w2.alloc (.cells #[.int .u8 157] 5)).drew = .ok (.string ⟨#[157]⟩) (w2.alloc (.cells #[.int .u8 157] 5)).drew := hcv w2.drew
  go_region_with (go_at_call 16; rw [HSET.out]; refine (HDZ.out _).mono ?_; rintro e w3 ⟨rfl, hf⟩)
  have HF := hide ((HF.out.alloc (.cells #[.int .u8 157] 5)).drew.then_ hf)
  clear hf D hcvd
  go_wp2_with fail
  go_at_call 16
  refine (HD0.out _).mono ?_
  rintro e w4 ⟨rfl, hf⟩
  have HF := hide ((HF.out.alloc _).then_ hf)
  clear hf
  go_wp2_with fail
  go_at_call 25
  refine (HT3.out _).mono ?_
  rintro e w5 ⟨rfl, hf⟩
  have HF := hide (HF.out.then_ hf)
  clear hf
  go_wp2_with fail
  go_at_call 12
  refine (HS3.out _).mono ?_
  rintro e w6 ⟨A, c, rfl, hc1, hc2, hr, hf⟩
  have HF := hide (HF.out.then_ hf)
  have HR := hide hr
  clear hf hr
  simp only [List.length_cons, List.length_nil, Nat.zero_add, Nat.reduceAdd] at hc1 HR ⊢
  obtain ⟨b, o, rfl, _⟩ := HR.out.2 (by omega)
  go_wp2_with fail
  go_at_call 12
  refine (HS0.out _).mono ?_
  rintro e w7 ⟨A0, c0, rfl, _, _, _, hf⟩
  have HR := hide (HR.out.up hf)
  have HF := hide (HF.out.then_ hf)
  clear hf
  simp only [List.length_cons, List.length_nil, Nat.zero_add]
  go_wp2_with fail
  go_at_call 25
  refine (HT2.out _).mono ?_
  rintro e w8 ⟨rfl, hf⟩
  have HR := hide (HR.out.up hf)
  have HF := hide (HF.out.then_ hf)
  clear hf
  go_wp2_with fail
  go_at_call 12
  refine (HS2.out _).mono ?_
  rintro e w9 ⟨A9, c9, rfl, _, _, _, hf⟩
  have HR := hide (HR.out.up hf)
  have HF := hide (HF.out.then_ hf)
  clear hf
  simp only [List.length_cons, List.length_nil, Nat.zero_add]
  go_wp2_with fail
  go_at_call 18
  refine (pg_join (some ⟨b, o + 1, none⟩) 1 (c - 1) [x2] w9.heap.size w9 (reads_tail (n := 1) HR.out) (Nat.le_refl _) (by omega) (by intro l hl; simp at hl; subst hl; rw [HLE.out]; omega)).mono ?_
  rintro e w10 ⟨rfl, hf⟩
  rw [HJR.out]
  have HF := hide (HF.out.then_ hf)
  clear hf
  go_wp2_with fail
  go_at_call 18
  refine (pg_join none 0 0 [] w10.heap.size w10 Reads.none_ (Nat.le_refl _) (by omega) (by intro l hl; cases hl)).mono ?_
  rintro e w11 ⟨rfl, hf⟩
  rw [show joinR (joinB []) [] = .tuple #[.string ⟨#[]⟩, .int .i64 50] from rfl]
  have HF := hide (HF.out.then_ hf)
  clear hf
  go_wp2
  go_ret
  exact ⟨rfl, HF.out⟩
end Go.Proofs.YtghnjmgjokbopaaDoor
