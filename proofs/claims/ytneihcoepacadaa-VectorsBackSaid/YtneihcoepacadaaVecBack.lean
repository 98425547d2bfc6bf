/-
  VectorsBack: what is encoded is decoded, with zeros behind it; unlike segments have unlike bytes, and stand in the order of their bytes. No condition.
-/
import Derived.Test.YtneihcoepacadaaVecSame
import Derived.Test.YtneihcoepacadaaVecOrd
import Derived.Test.YtneihcoepacadaaAppZ
import Derived.Test.YtneihcoepacadaaFrame
set_option linter.unusedVariables false
namespace Go.Proofs.Ytneihcoepacadaa.vectorsBack
open Go.RowKit Go.ChangeShapes Go.WideShapes Go.ChangeAt

theorem arr_lit (a0 a1 a2 a3 a4 a5 a6 a7 b0 b1 b2 b3 b4 b5 b6 b7 : Int) (w : World) (i : TypeInfo) (hi : Try.prog.info? 29 = some i) (h1 : i.size = 1) :
   (Op.equalIn 10000 49 (.agg #[.int .u64 a0, .int .u64 a1, .int .u64 a2, .int .u64 a3, .int .u64 a4, .int .u64 a5, .int .u64 a6, .int .u64 a7]) (.agg #[.int .u64 b0, .int .u64 b1, .int .u64 b2, .int .u64 b3, .int .u64 b4, .int .u64 b5, .int .u64 b6, .int .u64 b7])).run Try.prog w =
     .ok (a0 == b0 && (a1 == b1 && (a2 == b2 && (a3 == b3 && (a4 == b4 && (a5 == b5 && (a6 == b6 && a7 == b7))))))) w := by
  rw [show (10000 : Nat) = 9999 + 1 from rfl]
  unfold Op.equalIn
  simp only [Sem.run_bind, run_underlying Try.underlying49, Result.andThen_ok, sizeOf, typeInfo, hi, h1]
  simp [Std.Legacy.Range.forIn_eq_forIn_range', List.range', part, isAgg, run_underlying Try.underlying29, go_sem, hi, h1]
  repeat' split
  all_goals simp_all

theorem arr_eq (xs ys : List Nat) (hx : xs.length = 8) (hy : ys.length = 8) (w : World) :
   (Op.equalIn 10000 49 (.agg (xs.map u64v).toArray) (.agg (ys.map u64v).toArray)).run Try.prog w = .ok (decide (xs = ys)) w := by
  obtain ⟨i64, hi64, hz640, hz641, hz642⟩ := info_parts u64_info
  match xs, hx, ys, hy with
  | [a0, a1, a2, a3, a4, a5, a6, a7], _, [b0, b1, b2, b3, b4, b5, b6, b7], _ =>
    refine (arr_lit a0 a1 a2 a3 a4 a5 a6 a7 b0 b1 b2 b3 b4 b5 b6 b7 w i64 hi64 hz641).trans ?_
    congr 1
    rw [Bool.eq_iff_iff]
    simp
    omega

set_option maxHeartbeats 1000000 in
set_option maxRecDepth 100000 in
theorem walk (xs ys fs : List Nat) (A : Option Addr) (n c : Nat) (w : World) (hx8 : xs.length = 8) (hy8 : ys.length = 8) (hx : ∀ x ∈ xs, x < 18446744073709551616) (hy : ∀ y ∈ ys, y < 18446744073709551616)
    (hr : Reads w w.heap.size 1 A n (fs.map u64v)) (hf : ∀ x ∈ fs, x < 18446744073709551616) :
    Calls Try.prog 6 #[.agg (xs.map u64v).toArray, .agg (ys.map u64v).toArray, .slice A n c] w fun e w' => e = .returned (.bool true) ∧ Below w.heap.size w w' := by
  have K : ∀ e w', (e = Ending.returned (.bool true) ∧ Fr (fun _ => False) w w') → (e = Ending.returned (.bool true) ∧ Below w.heap.size w w') := fun e w' ⟨h1, h2⟩ => ⟨h1, h2.below (Nat.le_refl _) (fun _ h => h.elim)⟩
  refine Calls.mono ?_ K
  clear K
  have hbx : ∀ W : World, Blk (W.alloc (.cells (xs.map u64v).toArray 49)) W.heap.size 49 (xs.map u64v).toArray := fun W => Blk.new _ _ _
  have HX := hide (And.intro hx8 hx)
  have HY := hide (And.intro hy8 hy)
  have HF := hide hf
  have HR := hide hr
  clear hx hy hx8 hy8 hf hr hbx
  have r8 : ∀ l : List Nat, (l ++ List.replicate (8 - 8) 0).flatMap (encW 8) = l.flatMap (encW 8) := fun l => by simp
  obtain ⟨S, hS⟩ : ∃ S : ByteArray, S = ⟨(xs.flatMap (encW 8)).toArray⟩ := ⟨_, rfl⟩
  obtain ⟨T, hT⟩ : ∃ T : ByteArray, T = ⟨(ys.flatMap (encW 8)).toArray⟩ := ⟨_, rfl⟩
  have HS : Hid (S.size = 64 ∧ decs S.data.toList = xs) := hide (by
    subst hS
    refine ⟨?_, ?_⟩
    · show (xs.flatMap (encW 8)).length = 64
      rw [encs_len, HX.out.1]
    · exact decs_encs xs HX.out.1 HX.out.2)
  have HT : Hid (T.size = 64 ∧ decs T.data.toList = ys) := hide (by
    subst hT
    refine ⟨?_, ?_⟩
    · show (ys.flatMap (encW 8)).length = 64
      rw [encs_len, HY.out.1]
    · exact decs_encs ys HY.out.1 HY.out.2)
  obtain ⟨d, hd⟩ : ∃ d, d = decide (xs = ys) := ⟨_, rfl⟩
  have hst : (S.toList == T.toList) = d := by
    rw [hd, hS, hT, ByteArray.toList_mk, ByteArray.toList_mk, Bool.eq_iff_iff]
    simp only [beq_iff_eq, decide_eq_true_eq]
    exact ⟨fun h => encs_inj (by rw [HX.out.1, HY.out.1]) HX.out.2 HY.out.2 h, fun h => by rw [h]⟩
  have hae : ∀ W : World, (Op.equalIn 10000 49 (.agg (xs.map u64v).toArray) (.agg (ys.map u64v).toArray)).run Try.prog W = .ok d W := fun W => by
    rw [hd]; exact arr_eq xs ys HX.out.1 HY.out.1 W
  have hle : Op.bytesLess S.toList T.toList = lexN xs ys := by
    rw [hS, hT, ByteArray.toList_mk, ByteArray.toList_mk]
    exact less_encs xs ys (by rw [HX.out.1, HY.out.1]) HX.out.2 HY.out.2
  have ES : Hid ((⟨((xs ++ List.replicate (8 - 8) 0).flatMap (encW 8)).toArray⟩ : ByteArray) = S) := hide (by rw [hS, r8])
  have ET : Hid ((⟨((ys ++ List.replicate (8 - 8) 0).flatMap (encW 8)).toArray⟩ : ByteArray) = T) := hide (by rw [hT, r8])
  clear hS hT hd r8
  have HST := hide hst
  have HLE := hide hle
  have HAE := hide hae
  clear hst hle hae
  go_enter Try.func6, Try.ntmps6
  go_wp2_with fail
  have b1 := (Blk.new w 49 (xs.map u64v).toArray).alloc (.cells (ys.map u64v).toArray 49)
  have b2 := Blk.new (w.alloc (.cells (xs.map u64v).toArray 49)) 49 (ys.map u64v).toArray
  rw [World.size_alloc] at b2
  have f2 := ((Fr.refl (fun _ => False) w).alloc (.cells (xs.map u64v).toArray 49)).alloc (.cells (ys.map u64v).toArray 49)
  refine (encode_any _ 8 8 xs _ (Reads.blk b1 (by simpa using HX.out.1)) (by omega)).mono ?_
  rw [ES.out]
  rintro e w3 ⟨rfl, f3⟩
  replace b1 := b1.fr f3 (fun h => h)
  replace b2 := b2.fr f3 (fun h => h)
  replace f2 := f2.then_ f3
  clear f3
  go_wp2_with fail
  refine (encode_any _ 8 8 ys _ (Reads.blk b2 (by simpa using HY.out.1)) (by omega)).mono ?_
  rw [ET.out]
  rintro e w4 ⟨rfl, f3⟩
  replace b1 := b1.fr f3 (fun h => h)
  replace b2 := b2.fr f3 (fun h => h)
  replace f2 := f2.then_ f3
  clear f3
  go_wp2_with fail
  refine (decode_any S _ HS.out.1).mono ?_
  rintro e w5 ⟨g1, rfl, _, bg1, f3⟩
  rw [HS.out.2] at bg1
  replace b1 := b1.fr f3 (fun h => h)
  replace b2 := b2.fr f3 (fun h => h)
  replace f2 := f2.then_ f3
  clear f3
  go_wp2_with fail
  refine (decode_any T _ HT.out.1).mono ?_
  rintro e w6 ⟨g2, rfl, _, bg2, f3⟩
  rw [HT.out.2] at bg2
  replace b1 := b1.fr f3 (fun h => h)
  replace b2 := b2.fr f3 (fun h => h)
  replace bg1 := bg1.fr f3 (fun h => h)
  replace f2 := f2.then_ f3
  clear f3
  go_wp2_with fail
  refine (same_any _ _ 8 8 8 8 _ _ _ _ (Reads.blk bg1 (by simpa using HX.out.1)) (Reads.blk b1 (by simpa using HX.out.1)) (by omega)).mono ?_
  rw [decide_eq_true (rfl : xs = xs)]
  rintro e w7 ⟨rfl, f3⟩
  replace b1 := b1.fr f3 (fun h => h)
  replace b2 := b2.fr f3 (fun h => h)
  replace bg2 := bg2.fr f3 (fun h => h)
  replace f2 := f2.then_ f3
  clear f3 bg1
  go_wp2_with fail
  refine (same_any _ _ 8 8 8 8 _ _ _ _ (Reads.blk bg2 (by simpa using HY.out.1)) (Reads.blk b2 (by simpa using HY.out.1)) (by omega)).mono ?_
  rw [decide_eq_true (rfl : ys = ys)]
  rintro e w8 ⟨rfl, f3⟩
  replace b1 := b1.fr f3 (fun h => h)
  replace b2 := b2.fr f3 (fun h => h)
  replace f2 := f2.then_ f3
  clear f3 bg2
  have hst := HST.out
  have hae := HAE.out
  have i1 : (Try.prog.info? 49).map (·.size) = some (xs.map u64v).toArray.size := by
    rw [show (xs.map u64v).toArray.size = 8 by simpa using HX.out.1]
    kernel_rfl
  have i2 : (Try.prog.info? 49).map (·.size) = some (ys.map u64v).toArray.size := by
    rw [show (ys.map u64v).toArray.size = 8 by simpa using HY.out.1]
    kernel_rfl
  go_wp2_with (first | (with_reducible refine wpList_load_row_g rfl 49 (.tmp 3) rfl w.heap.size rfl _ _ _ _ b1.raw Try.underlying49 rfl i1 ?_) | (with_reducible refine wpList_load_row_g rfl 49 (.tmp 4) rfl (w.heap.size + 1) rfl _ _ _ _ b2.raw Try.underlying49 rfl i2 ?_))
  go_loopw [15, 16] (fun l i wr => ∃ (m q : Nat), m ≤ 8 ∧ i = .int .i64 ((m : Int) - 1) ∧ l = .bool (lexN (xs.drop m) (ys.drop m)) ∧ wr = w8.drewN q) (fun _ i _ => (intOf i + 1).toNat)
  case atStart => exact ⟨8, 0, by omega, by simp, by rw [List.drop_eq_nil_of_le (by rw [HX.out.1]; omega)]; rfl, rfl⟩
  case round =>
    obtain ⟨m, q, hm, rfl, rfl, rfl⟩ := hrel
    by_cases hm0 : 0 < m
    · have lx : m - 1 < xs.length := by rw [HX.out.1]; omega
      have ly : m - 1 < ys.length := by rw [HY.out.1]; omega
      have c1 : w8.cell? ⟨w.heap.size, m - 1, none⟩ = some (.int .u64 (xs[m - 1] : Nat)) := by rw [b1.cell]; simp [lx, u64v]
      have c2 : w8.cell? ⟨w.heap.size + 1, m - 1, none⟩ = some (.int .u64 (ys[m - 1] : Nat)) := by rw [b2.cell]; simp [ly, u64v]
      have hlex : lexN (xs.drop (m - 1)) (ys.drop (m - 1)) = if xs[m - 1] = ys[m - 1] then lexN (xs.drop m) (ys.drop m) else decide (xs[m - 1] < ys[m - 1]) := by
        rw [List.drop_eq_getElem_cons lx, List.drop_eq_getElem_cons ly, lexN, show m - 1 + 1 = m by omega]
      generalize xs[m - 1] = x at *
      generalize ys[m - 1] = y at *
      have h0 : (0 : Int) ≤ (m : Int) - 1 := by omega
      have h1 : (m : Int) - 1 < 8 := by omega
      have B1 := hide b1
      have B2 := hide b2
      clear lx ly hst hae i1 i2 b1 b2
      by_cases hxy : x = y
      · have hbe : ((x : Int) != (y : Int)) = false := by simp [hxy]
        have HL := hide (hlex.trans (if_pos hxy))
        clear hlex hxy
        go_wp2
        go_quiet (fail)
        go_wp2
        go_roundw
        case rel => exact ⟨m - 1, _, by omega, by rw [show ((m - 1 : Nat) : Int) = (m : Int) - 1 by omega], by rw [HL.out], rfl⟩
        case measure => simp [intOf]; omega
      · have hbe : ((x : Int) != (y : Int)) = true := by simp; omega
        have HL := hide (hlex.trans (if_neg hxy))
        clear hlex hxy
        go_wp2
        go_quiet (fail)
        go_wp2
        go_quiet (fail)
        go_wp2
        go_roundw
        case rel => exact ⟨m - 1, _, by omega, by rw [show ((m - 1 : Nat) : Int) = (m : Int) - 1 by omega], by rw [HL.out], rfl⟩
        case measure => simp [intOf]; omega
    · obtain rfl : m = 0 := by omega
      have hle := HLE.out
      rw [List.drop_zero, List.drop_zero]
      clear hst hae i1 i2
      have fq := f2.drewN q
      have hrq := HR.out.up fq
      have hfl : fs.length = n := by have := HR.out.1; simpa using this
      by_cases hn8 : 8 < n
      · go_wp2_with fail
        refine (encode_long A n c _ hn8).mono ?_
        rintro e w9 ⟨rfl, rfl⟩
        go_wp2_with fail
        refine (decode_out ⟨#[]⟩ _ (by simp [ByteArray.size])).mono ?_
        rintro e w9 ⟨rfl, rfl⟩
        clear hfl
        go_wp2_with (go_at_call 9; refine (does_true _).mono ?_; rintro e w9 ⟨rfl, hf9⟩)
        go_ret
        exact ⟨rfl, fq.then_ hf9⟩
      · go_wp2_with fail
        refine (encode_any A n c fs _ hrq (by omega)).mono ?_
        obtain ⟨U, hU⟩ : ∃ U : ByteArray, U = ⟨((fs ++ List.replicate (8 - n) 0).flatMap (encW 8)).toArray⟩ := ⟨_, rfl⟩
        obtain ⟨us, hus⟩ : ∃ us, us = fs ++ List.replicate (8 - n) 0 := ⟨_, rfl⟩
        rw [← hU]
        have HUS := hide hus
        have hul : us.length = 8 := by rw [hus]; simp [hfl]; omega
        have hult : ∀ u ∈ us, u < 18446744073709551616 := by
          intro u hu
          rw [hus] at hu
          rcases List.mem_append.1 hu with h | h
          · exact HF.out u h
          · have := List.eq_of_mem_replicate h; omega
        rw [← hus] at hU
        have HU : Hid (U.size = 64 ∧ decs U.data.toList = us) := hide ⟨by
          rw [hU]
          show (us.flatMap (encW 8)).length = 64
          rw [encs_len, hul], by
          rw [hU]
          exact decs_encs us hul hult⟩
        have HUL := hide hul
        clear hU hus hul hult
        rintro e w9 ⟨rfl, f9⟩
        have g9 := fq.then_ f9
        go_wp2_with fail
        refine (decode_any U _ HU.out.1).mono ?_
        rintro e w10 ⟨g3, rfl, _, bg3, f10⟩
        rw [HU.out.2] at bg3
        have g10 := g9.then_ f10
        have hr10 := HR.out.up g10
        have HFL := hide hfl
        clear f9 g9 fq hrq hfl f10 b1 b2
        have rd := Reads.blk bg3 (n := 8) (by rw [List.length_map]; exact HUL.out)
        obtain ⟨i64, hi64, hz640, hz641, hz642⟩ := info_parts u64_info
        have h1c : ∀ u ∈ fs.map u64v, u.oneCell' = true := by intro u hu; obtain ⟨x, _, rfl⟩ := List.mem_map.1 hu; rfl
        go_wp2_with (at_builtin; refine wpList_append_reads rfl _ (.tmp 133) _ rfl w10.heap.size 29 i64 _ 1 8 Try.underlying38 hi64 hz640 hz641 hz642 rfl (by decide) _ 0 [] rfl (World.ownsRow_nil _ _ _ _) w10.heap.size A n c _ rfl hr10 h1c (by unfold maxLen; omega) (by omega) (Nat.le_refl _) ?_)
        intro v1 w11 ho1 hg1 _
        have hf1 := (Fr.refl (fun _ => False) w10).grown hg1 (fun k hk => by cases hk)
        have e8 : (8 : Int) - (n : Int) = ((8 - n : Nat) : Int) := by omega
        have hp : (8 - n : Nat) ≤ 8 := by omega
        have hn9 : n + (8 - n) = 8 := by omega
        have hv1 : ∀ k, v1.ownBlock = some k → False ∨ w10.heap.size ≤ k := fun k hk => .inr ((ho1.lt k hk).1)
        have H1 := hide (And.intro ho1 (And.intro hf1 hv1))
        generalize hq8 : 8 - n = r at *
        have HQ8 := hide hq8
        have HN9 := hide hn9
        clear ho1 hg1 hf1 hv1 hq8 hn9 hn8
        go_wp2_with (at_builtin; refine wpList_appendz rfl (.tmp 134) (.tmp 137) _ _ rfl w10.heap.size 29 i64 _ Try.underlying38 Try.underlying3 hi64 hz640 hz641 rfl rfl _ n _ rfl H1.out.1 r rfl ?c1 ?c2 ?c3 H1.out.2.1.size ?c4)
        case c1 => have := HN9.out; unfold maxLen; omega
        case c2 => have := HN9.out; rw [hz642]; omega
        case c3 => rw [hz642]; omega
        case c4 =>
          intro v2 w12 ho2 hg2
          have e2 : List.map u64v fs ++ List.replicate r (Value.int .u64 0) = us.map u64v := by rw [HUS.out]; simp [u64v]
          rw [e2, HN9.out] at ho2
          obtain ⟨A2, c2, rfl⟩ := Reads.own_val ho2
          have hf2 := H1.out.2.1.grown hg2 H1.out.2.2
          have rd2 := rd.up hf2
          have ro2 := Reads.of_own ho2
          have g11 := g10.then_ hf2
          clear ho2 hg2 e2 rd g10 hf2 hr10 bg3 h1c
          go_wp2_with fail
          refine (same_any _ _ 8 8 8 c2 _ us us _ rd2 ro2 (by omega)).mono ?_
          rw [decide_eq_true (rfl : us = us)]
          rintro e w13 ⟨rfl, f13⟩
          have g13 := g11.then_ f13
          clear rd2 ro2 f13 g11
          go_wp2_with (go_at_call 9; refine (does_true _).mono ?_; rintro e w14 ⟨rfl, hf14⟩)
          go_ret
          exact ⟨rfl, g13.then_ hf14⟩

section
variable {H : Type} {enc : TypeId × Value → H} {W : World} {base : Nat} {v : Value} {d : DataW H} {ps : List MemPlace}
theorem open_a8 (hv : Value.okWide Try.prog W .any base 49 v) (h : DataW.Trod enc Try.prog W 0 (fun _ => true) true 49 v d ps) :
    ∃ xs : List Nat, v = .agg (xs.map u64v).toArray ∧ xs.length = 8 ∧ (∀ x ∈ xs, x < 18446744073709551616) := by
  obtain ⟨zs, rfl, hl, hw⟩ := frame.open_arr Try.underlying49 Try.underlying29 (by kernel_rfl) (by kernel_rfl) hv h
  obtain ⟨xs, e, hxl, hb⟩ := frame.u64_nums hw
  exact ⟨xs, by rw [e]; rfl, by omega, hb⟩
end

set_option maxRecDepth 100000 in
theorem lifted (os : Os) (started : os.Started) (H : Type) (enc : TypeId × Value → H) :
    ReturnsInHanded {} Try.checked os 6 .any (Rows.vectorsBackSpec.pre6 enc Try.prog Try.f6 Rows.vectorsBackRow.domain false) (Rows.vectorsBackSpec.post enc Try.prog Try.f6 false true false false) := by
  refine returnsInHanded_of_change (C := Try.checked) frame.own started (by kernel_rfl) Try.func6
    (ChangeSpec.witness6 (enc := enc) (C := Try.checked) false ⟨#[], #[.agg #[.int .u64 0, .int .u64 0, .int .u64 0, .int .u64 0, .int .u64 0, .int .u64 0, .int .u64 0, .int .u64 0], .agg #[.int .u64 0, .int .u64 0, .int .u64 0, .int .u64 0, .int .u64 0, .int .u64 0, .int .u64 0, .int .u64 0], .slice none 0 0], []⟩ 8 (by kernel_rfl) (by kernel_rfl) (by kernel_rfl) (by kernel_rfl)) ?_
  intro W base args ds gs before hval0 hW hcnd _
  have hval : ∀ (j : Nat) t v, Try.f6.params[j]? = some t → args[j]? = some v → Value.okWide Try.prog W .any base t v := hval0
  have hW' := hW
  obtain ⟨p, q, hA0, hV, rfl, hfz, hnd⟩ := hW
  have hA : DataW.TrodAll enc Try.prog W 0 (fun _ => true) true Try.f6.params.toList args.toList ds p := hA0
  rw [Try.params6] at hA hval
  obtain ⟨v0, vs0, d0, ds0, p0, q0, hargs, rfl, rfl, h0, r0⟩ := trodAll_cons hA
  obtain ⟨v1, vs1, d1, ds1, p1, q1, rfl, rfl, rfl, h1, r1⟩ := trodAll_cons r0
  obtain ⟨v2, vs2, d2, ds2, p2, q2, rfl, rfl, rfl, h2, r2⟩ := trodAll_cons r1
  obtain ⟨rfl, rfl, rfl⟩ := trodAll_nil r2
  obtain rfl : args = #[v0, v1, v2] := by cases args; simp_all
  obtain ⟨rfl, rfl⟩ := trodVars_none hV
  have k0 := h0
  obtain ⟨x0, rfl, hl0, hb0⟩ := open_a8 (hval 0 49 v0 rfl rfl) h0
  have k1 := h1
  obtain ⟨x1, rfl, hl1, hb1⟩ := open_a8 (hval 1 49 v1 rfl rfl) h1
  have k2 := h2
  obtain ⟨A2, n2, c2, x2, rfl, w2, hn2, hm2, hb2⟩ := frame.open_u64s (hval 2 38 v2 rfl rfl) h2
  clear hA0 hval0
  refine (walk x0 x1 x2 A2 n2 c2 W hl0 hl1 hb0 hb1 w2 hb2).mono fun e W' ⟨he, bel⟩ => ?_
  subst he
  exact ⟨_, rfl, _, _, _, [], _, [], hW', trodAll_mk1 (shut_bool Try.underlying4 _), (trodAll_cons_mk (frame.keep (by kernel_rfl) (of_decide_eq_true (by kernel_rfl)) k0 bel) (trodAll_cons_mk (frame.keep (by kernel_rfl) (of_decide_eq_true (by kernel_rfl)) k1 bel) (trodAll_cons_mk (frame.keep (by kernel_rfl) (of_decide_eq_true (by kernel_rfl)) k2 bel) (trodAll_mk0)))), rfl, bel.frame _, fun h => by cases h⟩

/-- THE STATEMENT -/
theorem proved : Rows.VectorsBackSaid :=
  OpenClaim.holds_of_wide 6 Try.f6 rfl rfl rfl rfl rfl rfl rfl ⟨rfl, rfl, rfl, rfl, rfl⟩ rfl rfl rfl rfl rfl (by kernel_rfl) Try.func6 (by kernel_rfl)
    (of_decide_eq_true (by kernel_rfl)) (by unfold Func.isWrapper; first | (rw [if_pos (by decide +kernel)]; kernel_rfl) | (rw [if_neg (by decide +kernel)]; exact ⟨rfl, rfl⟩))
    (fun os started H enc _ => lifted os started H enc)
#print axioms proved
end Go.Proofs.Ytneihcoepacadaa.vectorsBack
