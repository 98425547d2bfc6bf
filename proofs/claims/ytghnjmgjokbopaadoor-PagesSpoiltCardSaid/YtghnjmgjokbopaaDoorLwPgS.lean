/- THE LAW Spoilt, walked. -/
import Derived.Test.YtghnjmgjokbopaaDoorPgSpoil
import Derived.Deep.RegionHeld3
set_option linter.unusedVariables false
set_option maxRecDepth 100000
namespace Go.Proofs.YtghnjmgjokbopaaDoor
open Go.RowKit

theorem one_strs (L : List (List UInt8)) : ∀ u ∈ L.map strv, u.oneCell' = true := by
  intro u hu
  obtain ⟨q, _, rfl⟩ := List.mem_map.1 hu
  simp [Value.oneCell', strv]
theorem heldS {w0 w w' : World} {a : Addr} {v : Value} (h : w.cell? a = some v ∧ Fr (fun _ => False) w0 w) (hf : Fr (fun _ => False) w w') : w'.cell? a = some v ∧ Fr (fun _ => False) w0 w' := ⟨hf.cell h.1 (fun h => h), h.2.then_ hf⟩
theorem sFr {w0 w : World} {a : Addr} {v : Value} (h : w.cell? a = some v ∧ Fr (fun _ => False) w0 w) : Fr (fun _ => False) w0 w := h.2
/-- an empty row, and the block behind or ahead of it -/
theorem lit0 {w : World} {base B : Nat} (hb : base ≤ w.heap.size) (hB : w.heap.size = B) : (w.alloc (.cells #[] 9)).ownsRow base 9 1 (.slice (some ⟨B, 0, none⟩) 0 0) 0 [] := by
  subst hB
  exact World.ownsRow_lit w #[] 0 hb (by unfold maxLen; omega) (by simp)
theorem box2 {w w7 : World} {cs : Array Value} {B C : Nat} {o : Obj} (h : ((w.alloc o).alloc (.cells cs 9)).grownBy w7 (Value.slice (some ⟨B, 0, none⟩) 0 0).ownBlock) (hB : w.heap.size = B) (hC : w.heap.size + 1 = C) : w7.heap[C]? = some (.cells cs 9) := by
  subst hB hC
  rw [h.block _ (by simp) (by simp [Value.ownBlock])]
  have := heap_alloc_new (w.alloc o) (.cells cs 9)
  simpa using this
theorem box3 {w w7 : World} {cs : Array Value} {B C : Nat} {o : Obj} (h : ((w.alloc (.cells cs 9)).alloc o).grownBy w7 (Value.slice (some ⟨B, 0, none⟩) 0 0).ownBlock) (hB : w.heap.size + 1 = B) (hC : w.heap.size = C) : w7.heap[C]? = some (.cells cs 9) := by
  subst hB hC
  rw [h.block _ (by simp; omega) (by simp [Value.ownBlock])]
  have hb : Blk (w.alloc (.cells cs 9)) w.heap.size 9 cs := Blk.new _ _ _
  exact (hb.alloc o).raw
theorem notEmpty {t : ByteArray} (h : ¬ t = ⟨#[]⟩) : t.data.isEmpty = false ∧ t.toList.isEmpty = false ∧ t.data.toList.isEmpty = false := by
  have h1 : ¬ t.data = #[] := fun e => h (ByteArray.ext e)
  have h2 : ¬ t.data.toList = [] := fun e => h1 (Array.ext' e)
  refine ⟨by simpa using h1, ?_, by simpa using h1⟩
  rw [ByteArray.toList_eq]
  simpa using h1
theorem undrew {w w' : World} {r : Option Nat} (h : w.drew.grownBy w' r) : w.grownBy w' r := ⟨h.os, h.tape, h.output, h.size, h.block⟩
theorem box1 {w : World} {cs : Array Value} {C : Nat} (hC : w.heap.size = C) : (w.alloc (.cells cs 9)).heap[C]? = some (.cells cs 9) := by
  subst hC
  exact heap_alloc_new w _
set_option maxHeartbeats 4000000 in
theorem law_spoilt (s : ByteArray) (hs : s.size ≤ 9223372036854775807) (a : Nat) (ha : a < 256) (t : ByteArray) (ht : t.size ≤ 9223372036854775807) (w : World) :
    Calls Tryd.prog 8 #[.string s, .int .u8 (a : Int), .string t] w fun e w' => e = .returned (.bool true) ∧ Fr (fun _ => False) w w' := by
  obtain ⟨i0, hi, hz0, hz1, hz2⟩ := info_parts str_info
  by_cases h3 : 3000 < s.size
  · go_enter Tryd.func8, Tryd.ntmps8
    go_wp2
    go_ret
    exact ⟨rfl, Fr.refl _ _⟩
  by_cases h2 : 200 < t.size
  · go_enter Tryd.func8, Tryd.ntmps8
    go_wp2
    go_ret
    exact ⟨rfl, Fr.refl _ _⟩
  have HS := hide (fun w => pg_split s w (by omega))
  have hl : s.data.toList.length = s.size := by simp
  have hq : (splitB s.data.toList).length ≤ 100 := splitB_le _ (by omega)
  have HEA := hide (split_each s.data.toList)
  have HJ : Hid (joinB (splitB s.data.toList) = true ∧ flatB (splitB s.data.toList) = s.data.toList) := ⟨join_split _, flat_split s.data.toList.length _ (Nat.le_refl _)⟩
  have hpos : 0 < (splitB s.data.toList).length := by obtain ⟨p, L, e⟩ := split_cons s.data.toList; rw [e]; simp
  generalize splitB s.data.toList = L at *
  obtain ⟨n, hn⟩ : ∃ n, L.length = n := ⟨_, rfl⟩
  have LN := hide hn
  rw [hn] at HS hq hpos
  obtain ⟨i, hai, hin⟩ : ∃ i : Nat, (a : Int) % (n : Int) = (i : Int) ∧ i < n := ⟨a % n, by simp, Nat.mod_lt _ hpos⟩
  have li : i < L.length := by omega
  have ln : n - 1 < L.length := by omega
  obtain ⟨hpi, hdi, hei, hli⟩ := HEA.out _ (List.getElem_mem li)
  obtain ⟨hpl, hdl, hel, hll⟩ := HEA.out _ (List.getElem_mem ln)
  have HI : Hid ((L.map strv)[i]? = some (.string ⟨(L[i]'li).toArray⟩)) := by unfold Hid; rw [List.getElem?_map, List.getElem?_eq_getElem li]; rfl
  have HL : Hid ((L.map strv)[n - 1]? = some (.string ⟨(L[n - 1]'ln).toArray⟩)) := by unfold Hid; rw [List.getElem?_map, List.getElem?_eq_getElem ln]; rfl
  have HJL := hide (join_last L (n - 1) (by omega) (L[i]'li) HJ.out.1 hpi)
  have HFL : Hid (flatB (L ++ [L[i]'li]) = s.data.toList ++ datB (L[i]'li)) := by unfold Hid; rw [flatB_snoc, HJ.out.2]
  have HJS : Hid (∃ x y, joinR (joinB (L.set i (L[i]'li ++ t.data.toList))) (L.set i (L[i]'li ++ t.data.toList)) = .tuple #[.string x, .int .i64 y] ∧ ((y = 0 ∧ t = ⟨#[]⟩) ∨ (y = 50 ∧ ¬ t = ⟨#[]⟩))) := by
    by_cases he : t = ⟨#[]⟩
    · subst he
      refine ⟨⟨(flatB L).toArray⟩, 0, ?_, .inl ⟨rfl, rfl⟩⟩
      · rw [show (⟨#[]⟩ : ByteArray).data.toList = [] from rfl, List.append_nil, List.set_getElem_self, HJ.out.1]
        rfl
    · have hne : t.data.toList ≠ [] := by
        intro e
        apply he
        apply ByteArray.ext
        apply Array.ext'
        simpa using e
      have hp := List.length_pos_iff.2 hne
      rw [join_set_bad L i _ li (by rw [List.length_append, hli]; omega)]
      exact ⟨_, 50, rfl, .inr ⟨rfl, he⟩⟩
  have HD := hide (fun w => pg_dec ⟨(L[i]'li).toArray⟩ w (by show (L[i]'li).toArray.size ≤ _; simp [hli]))
  rw [show (⟨(L[i]'li).toArray⟩ : ByteArray).data.toList = L[i]'li by simp, hpi] at HD
  unfold decR at HD
  rw [if_pos rfl] at HD
  have HDL := hide (fun w => pg_dec ⟨(L[n - 1]'ln).toArray⟩ w (by show (L[n - 1]'ln).toArray.size ≤ _; simp [hll]))
  rw [show (⟨(L[n - 1]'ln).toArray⟩ : ByteArray).data.toList = L[n - 1]'ln by simp, hpl] at HDL
  unfold decR at HDL
  rw [if_pos rfl] at HDL
  have hps : (⟨(L[i]'li).toArray⟩ : ByteArray).size = 128 := by show (L[i]'li).toArray.size = 128; simp [hli]
  generalize datB (L[i]'li) = di at *
  generalize datB (L[n - 1]'ln) = dl at *
  generalize L[n - 1]'ln = pl at *
  have HMX : Hid (∀ l ∈ L, l.length ≤ 9223372036854775807) := fun l h => by have := (HEA.out l h).2.2.2; omega
  generalize L[i]'li = p at *
  clear hl hn li ln hpi hei hpl hel hll
  have HPP := hide hli
  clear hli
  go_enter Tryd.func8, Tryd.ntmps8
  go_wp2_with fail
  go_at_call 12
  refine (HS.out _).mono ?_
  rintro e w1 ⟨A, c, rfl, hc1, hc2, hr, hf⟩
  have HA := hide hr
  have HF := hide hf
  clear hr hf
  obtain ⟨b, o, rfl, hb, hc⟩ := HA.out.2 hpos
  have hci := hc i _ HI.out
  have hcl := hc (n - 1) _ HL.out
  have HCK : Hid (∀ (w' : World), Fr (fun _ => False) w1 w' → w'.cell? ⟨b, o + i, none⟩ = some (.string ⟨p.toArray⟩) ∧ w'.cell? ⟨b, o + (n - 1), none⟩ = some (.string ⟨pl.toArray⟩)) :=
    fun w' hf => ⟨hf.cell hci (fun h => h), hf.cell hcl (fun h => h)⟩
  have O0 : Hid ((w1.alloc (.cells #[] 9)).ownsRow w1.heap.size 9 1 (.slice (some ⟨w1.heap.size, 0, none⟩) 0 0) 0 []) :=
    World.ownsRow_lit w1 #[] 0 (Nat.le_refl _) (by unfold maxLen; omega) (by simp)
  have G0 : Hid (Fr (fun _ => False) w1 (w1.alloc (.cells #[] 9))) := (Fr.refl _ _).alloc _
  have HA0 := HA.out.up G0.out
  have hb0 := G0.out.size
  have hown0 := O0.out
  clear hc hci hcl
  go_wp2_with (at_builtin; refine wpList_append_reads rfl (.tmp 39) (.tmp 40) _ rfl w1.heap.size 9 i0 _ 1 16 Tryd.underlying26 hi hz0 hz1 hz2 rfl (by decide) _ _ _ rfl hown0 _ _ n c (L.map strv) rfl HA0 (one_strs L) ?c2 ?c3 ?c4 ?c5)
  case c2 => unfold maxLen; omega
  case c3 => omega
  case c4 => exact hb0
  case c5 =>
    intro v2 w2 hown2 hg2 _
    have G2 := hide (G0.out.grown hg2 (fun k hk => .inr ((hown0.lt k hk).1)))
    obtain ⟨g, cap, rfl, hgb, hgl⟩ := hown2.form hpos
    have hcg := (hown2.cellAt i (by omega)).trans HI.out
    have hfg := hown2.frozenAt i
    have hst := hown2.stored i (.string (⟨p.toArray⟩ ++ t))
    have hpt : (⟨p.toArray⟩ : ByteArray) ++ t = ⟨(p ++ t.data.toList).toArray⟩ := by
      rw [← bytes_append]
    rw [hpt] at hst
    have HST : Hid (Reads (w2.setCell ⟨g, i, none⟩ (.string ⟨(p ++ t.data.toList).toArray⟩)) (w2.setCell ⟨g, i, none⟩ (.string ⟨(p ++ t.data.toList).toArray⟩)).heap.size 1 (some ⟨g, 0, none⟩) n ((L.set i (p ++ t.data.toList)).map strv)) := by
      have h := Reads.of_own hst.1
      rw [List.map_set]
      exact h
    have G3 := hide (G2.out.setCell (p := ⟨g, i, none⟩) (.inr hgb) (.string ⟨(p ++ t.data.toList).toArray⟩))
    clear hown2 hown0 hst hg2 HA0
    go_wp2_with fail
    go_at_call 18
    try rw [hpt]
    refine (pg_join _ n cap (L.set i (p ++ t.data.toList)) _ _ HST.out (Nat.le_refl _) (by omega) (by
      intro l hl
      rcases List.mem_or_eq_of_mem_set hl with h | h
      · exact HMX.out l h
      · rw [h, List.length_append, HPP.out]; simp; omega)).mono ?_
    rintro e w4 ⟨rfl, hf⟩
    obtain ⟨x, y, hxy, hyt⟩ := HJS.out
    have HYT := hide hyt
    rw [hxy]
    have G4 := hide (G3.out.then_ hf)
    have hc4 := (HCK.out w4 G4.out).1
    clear hf hxy hyt hcg hfg G3 HST HJS
    go_wp2_with fail
    obtain ⟨k, hk, hk7⟩ : ∃ k : Nat, (128 * (a : Int)) / 256 = (k : Int) ∧ k ≤ 127 := ⟨a / 2, by omega, by omega⟩
    have hk2 : (k : Int) ≤ 128 := by omega
    have hk0 : (0 : Int) ≤ (k : Int) := by omega
    have hw : IntKind.i64.wrap ((IntKind.i64.wrap (128 * IntKind.i64.wrap (a : Int))).tdiv 256) = (k : Int) := by
      have e1 : IntKind.i64.wrap (a : Int) = a := by simp [IntKind.wrap, IntKind.bits, IntKind.signed]; omega
      have e2 : IntKind.i64.wrap (128 * (a : Int)) = 128 * (a : Int) := by simp [IntKind.wrap, IntKind.bits, IntKind.signed]; omega
      have e3 : IntKind.i64.wrap (k : Int) = k := by simp [IntKind.wrap, IntKind.bits, IntKind.signed]; omega
      rw [e1, e2, Int.tdiv_eq_ediv_of_nonneg (by omega), hk, e3]
    have HPD := hide (show ∀ (k : Nat) (W : World), k ≤ 127 → Calls Tryd.prog 16 #[.string ((⟨p.toArray⟩ : ByteArray).extract 0 k)] W fun e w' => e = .returned (.tuple #[.string ⟨#[]⟩, .int .i64 50]) ∧ Fr (fun _ => False) W w' from fun k W h => by
      have h1 := pg_dec ((⟨p.toArray⟩ : ByteArray).extract 0 k) W (by simp; omega)
      have h2 : pageB ((⟨p.toArray⟩ : ByteArray).extract 0 k).data.toList = false := by
        rw [Bool.eq_false_iff]
        intro h2
        have h3 := ((pageB_iff _).1 h2).1
        simp at h3
        omega
      rw [h2] at h1
      exact h1)
    have D4 := hide (held_drew w4)
    go_region_held3 (fun w' => w'.cell? ⟨b, o + i, none⟩ = some (.string ⟨p.toArray⟩) ∧ Fr (fun _ => False) w4 w')
      (first | exact ⟨hc4, D4.out⟩ | exact heldS (by assumption) hf)
      (first
        | (go_at_call 16; refine (HPD.out _ _ (by omega)).mono ?_; rintro e w5 ⟨rfl, hf⟩))
    obtain ⟨hc5, hf5⟩ : w5.cell? ⟨b, o + i, none⟩ = some (.string ⟨p.toArray⟩) ∧ Fr (fun _ => False) w4 w5 := by assumption
    have G5 := hide (G4.out.then_ hf5)
    clear hf hf5 hc4 D4 HPD hw hk hk2 hk0
    have D5 := hide (held_drew w5)
    have HSO := hide (fun W (h : Fr (fun _ => False) w5 W) => And.intro (h.cell hc5 (fun h => h)) h)
    have HN5 := hide (show ∀ W, Fr (fun _ => False) w5 W → ∀ j u, (L.map strv)[j]? = some u → W.cell? ((⟨b, o, none⟩ : Addr).add j) = some u from fun W h => by
      have h1 := HA.out.up (G5.out.then_ h)
      obtain ⟨b', o', e, _, hc⟩ := h1.2 hpos
      injection e with e
      injection e with e1 e2
      subst e1
      subst e2
      intro j u hu
      rw [Addr.add_lit]
      exact hc j u hu)
    have HLn := hide (show (L.map strv).length = n * 1 by simp [LN.out])
    have HON := hide (one_strs L)
    go_wp2_with fail
    go_region_held3 (fun w' => w'.cell? ⟨b, o + i, none⟩ = some (.string ⟨p.toArray⟩) ∧ Fr (fun _ => False) w5 w')
      (first
        | exact ⟨hc5, D5.out⟩
        | exact HSO.out _ ((sFr (by assumption)).alloc _)
        | exact HSO.out _ ((sFr (by assumption)).grown hgrow (fun k hk => .inr (by first | exact (hown7.lt k hk).1 | (obtain rfl := Option.some.inj hk; first | exact Nat.le_refl _ | exact Nat.le_succ _)))))
      (first
        | (refine step_append_lies (o := ⟨some 76, _, _, _, _, _⟩) _ (by rfl) _ _ _ (by rfl) w5.heap.size 9 i0 _ 1 16 Tryd.underlying26 hi hz0 hz1 hz2 rfl (by omega) (.slice (some ⟨_, 0, none⟩) 0 0) 0 [] (by rfl)
            (by first | exact lit0 (by first | rfl | simp | (simp; rfl)) (by first | rfl | simp | (simp; rfl)) | exact (lit0 (by first | rfl | simp | (simp; rfl)) (by first | rfl | simp | (simp; rfl))).alloc _)
            ⟨b, o, none⟩ n _ (L.map strv) (by rfl) HLn.out (HN5.out _ (sFr (by assumption))) HON.out hpos (by unfold maxLen; omega) (by omega) (sFr (by assumption)).size _ rfl ?_; intro g7 cap7 w7 hown7 hgrow hat7 hlt7; simp only [Nat.zero_add, List.nil_append] at hown7 ⊢)
        | (refine step_append_lies (o := ⟨some 82, _, _, _, _, _⟩) _ (by rfl) _ _ _ (by rfl) w5.heap.size 9 i0 _ 1 16 Tryd.underlying26 hi hz0 hz1 hz2 rfl (by omega) (.slice (some ⟨_, 0, none⟩) n _) n (L.map strv) (by rfl)
            (by first | exact hown7 | exact hown7.alloc _)
            ⟨_, 0, none⟩ 1 1 [.string ⟨p.toArray⟩] (by rfl) (by rfl) (World.news_of_block (cs := #[.string ⟨p.toArray⟩]) (t := 9) (fr := (0, 0)) (by first | exact box1 (by first | rfl | simp | (simp; rfl)) | exact box2 (undrew hgrow) (by first | rfl | simp | (simp; rfl)) (by first | rfl | simp | (simp; rfl)) | exact box3 (undrew hgrow) (by first | rfl | simp | (simp; rfl)) (by first | rfl | simp | (simp; rfl))))
            (by simp [Value.oneCell']) (by omega) (by unfold maxLen; omega) (by omega) (sFr (by assumption)).size _ rfl ?_; intro g8 cap8 w8 hown8 hgrow hat8 hlt8))
    · have F8 : Hid (Fr (fun _ => False) w5 w8) := sFr (by assumption : w8.cell? ⟨b, o + i, none⟩ = some (.string ⟨p.toArray⟩) ∧ Fr (fun _ => False) w5 w8)
      have G8 := hide (G5.out.then_ F8.out)
      have HT8 : Hid (Reads w8 w8.heap.size 1 (some ⟨g8, 0, none⟩) (n + 1) ((L ++ [p]).map strv)) := by
        have h := Reads.of_own hown8
        unfold Hid
        rw [List.map_append]
        exact h
      have HMX8 : Hid (∀ l ∈ L ++ [p], l.length ≤ 9223372036854775807) := by
        intro l hl
        rcases List.mem_append.1 hl with h | h
        · exact HMX.out l h
        · obtain rfl := List.mem_singleton.1 h
          rw [HPP.out]; omega
      clear hown8 hgrow hat8 hlt8 F8 G5 hown7 hat7 hlt7 HN5 HSO D5 hc5 HON HLn
      go_wp2_with fail
      go_at_call 18
      refine (pg_join _ (n + 1) cap8 (L ++ [p]) w8.heap.size w8 HT8.out (Nat.le_refl _) (by omega) HMX8.out).mono ?_
      rintro e w9 ⟨rfl, hf⟩
      have G9 := hide (G8.out.then_ hf)
      have hcl := (HCK.out w9 G9.out).2
      rw [HJL.out]
      unfold joinR
      clear hf
      by_cases h122 : dl.length = 122
      · rw [decide_eq_true (show 122 ≤ dl.length by omega), Bool.true_and]
        cases hde : di.isEmpty
        · rw [if_pos (by simp), HFL.out]
          have hcat : s ++ (⟨di.toArray⟩ : ByteArray) = ⟨(s.data.toList ++ di).toArray⟩ := by rw [← bytes_append]
          have hsl : s.toList = s.data.toList := ByteArray.toList_eq s
          go_wp2_with fail
          go_at_call 16
          refine (HDL.out _).mono ?_
          rintro e w10 ⟨rfl, hf⟩
          have G10 := hide (G9.out.then_ hf)
          have hci := (HCK.out w10 G10.out).1
          clear hf
          go_wp2_with fail
          go_at_call 16
          refine (HD.out _).mono ?_
          rintro e w11 ⟨rfl, hf⟩
          have G11 := hide (G10.out.then_ hf)
          clear hf
          rcases HYT.out with ⟨rfl, rfl⟩ | ⟨rfl, htn⟩
          · go_wp2_with fail
            go_at_call 14
            refine (does_any _).mono ?_
            rintro e w12 ⟨rfl, hf⟩
            have GE := hide (HF.out.then_ (G11.out.then_ hf))
            clear hf
            go_wp2
            go_ret
            exact ⟨rfl, GE.out⟩
          · have hte := notEmpty htn
            have hte1 := hte.1
            have hte2 := hte.2.1
            have hte3 := hte.2.2
            clear hte htn
            go_wp2_with fail
            go_at_call 14
            refine (does_any _).mono ?_
            rintro e w12 ⟨rfl, hf⟩
            have GE := hide (HF.out.then_ (G11.out.then_ hf))
            clear hf
            go_wp2
            go_ret
            exact ⟨rfl, GE.out⟩
        · rw [if_neg (by simp)]
          go_wp2_with fail
          go_at_call 16
          refine (HDL.out _).mono ?_
          rintro e w10 ⟨rfl, hf⟩
          have G10 := hide (G9.out.then_ hf)
          have hci := (HCK.out w10 G10.out).1
          clear hf
          go_wp2_with fail
          go_at_call 16
          refine (HD.out _).mono ?_
          rintro e w11 ⟨rfl, hf⟩
          have G11 := hide (G10.out.then_ hf)
          clear hf
          rcases HYT.out with ⟨rfl, rfl⟩ | ⟨rfl, htn⟩
          · go_wp2_with fail
            go_at_call 14
            refine (does_any _).mono ?_
            rintro e w12 ⟨rfl, hf⟩
            have GE := hide (HF.out.then_ (G11.out.then_ hf))
            clear hf
            go_wp2
            go_ret
            exact ⟨rfl, GE.out⟩
          · have hte := notEmpty htn
            have hte1 := hte.1
            have hte2 := hte.2.1
            have hte3 := hte.2.2
            clear hte htn
            go_wp2_with fail
            go_at_call 14
            refine (does_any _).mono ?_
            rintro e w12 ⟨rfl, hf⟩
            have GE := hide (HF.out.then_ (G11.out.then_ hf))
            clear hf
            go_wp2
            go_ret
            exact ⟨rfl, GE.out⟩
      · rw [decide_eq_false (show ¬ 122 ≤ dl.length by omega), Bool.false_and, if_neg (by simp)]
        go_wp2_with fail
        go_at_call 16
        refine (HDL.out _).mono ?_
        rintro e w10 ⟨rfl, hf⟩
        have G10 := hide (G9.out.then_ hf)
        have hci := (HCK.out w10 G10.out).1
        clear hf
        go_wp2_with fail
        go_at_call 16
        refine (HD.out _).mono ?_
        rintro e w11 ⟨rfl, hf⟩
        have G11 := hide (G10.out.then_ hf)
        clear hf
        rcases HYT.out with ⟨rfl, rfl⟩ | ⟨rfl, htn⟩
        · go_wp2_with fail
          go_at_call 14
          refine (does_any _).mono ?_
          rintro e w12 ⟨rfl, hf⟩
          have GE := hide (HF.out.then_ (G11.out.then_ hf))
          clear hf
          go_wp2
          go_ret
          exact ⟨rfl, GE.out⟩
        · have hte := notEmpty htn
          have hte1 := hte.1
          have hte2 := hte.2.1
          have hte3 := hte.2.2
          clear hte htn
          go_wp2_with fail
          go_at_call 14
          refine (does_any _).mono ?_
          rintro e w12 ⟨rfl, hf⟩
          have GE := hide (HF.out.then_ (G11.out.then_ hf))
          clear hf
          go_wp2
          go_ret
          exact ⟨rfl, GE.out⟩
    · have F8 : Hid (Fr (fun _ => False) w5 w8) := sFr (by assumption : w8.cell? ⟨b, o + i, none⟩ = some (.string ⟨p.toArray⟩) ∧ Fr (fun _ => False) w5 w8)
      have G8 := hide (G5.out.then_ F8.out)
      have HT8 : Hid (Reads w8 w8.heap.size 1 (some ⟨g8, 0, none⟩) (n + 1) ((L ++ [p]).map strv)) := by
        have h := Reads.of_own hown8
        unfold Hid
        rw [List.map_append]
        exact h
      have HMX8 : Hid (∀ l ∈ L ++ [p], l.length ≤ 9223372036854775807) := by
        intro l hl
        rcases List.mem_append.1 hl with h | h
        · exact HMX.out l h
        · obtain rfl := List.mem_singleton.1 h
          rw [HPP.out]; omega
      clear hown8 hgrow hat8 hlt8 F8 G5 hown7 hat7 hlt7 HN5 HSO D5 hc5 HON HLn
      go_wp2_with fail
      go_at_call 18
      refine (pg_join _ (n + 1) cap8 (L ++ [p]) w8.heap.size w8 HT8.out (Nat.le_refl _) (by omega) HMX8.out).mono ?_
      rintro e w9 ⟨rfl, hf⟩
      have G9 := hide (G8.out.then_ hf)
      have hcl := (HCK.out w9 G9.out).2
      rw [HJL.out]
      unfold joinR
      clear hf
      by_cases h122 : dl.length = 122
      · rw [decide_eq_true (show 122 ≤ dl.length by omega), Bool.true_and]
        cases hde : di.isEmpty
        · rw [if_pos (by simp), HFL.out]
          have hcat : s ++ (⟨di.toArray⟩ : ByteArray) = ⟨(s.data.toList ++ di).toArray⟩ := by rw [← bytes_append]
          have hsl : s.toList = s.data.toList := ByteArray.toList_eq s
          go_wp2_with fail
          go_at_call 16
          refine (HDL.out _).mono ?_
          rintro e w10 ⟨rfl, hf⟩
          have G10 := hide (G9.out.then_ hf)
          have hci := (HCK.out w10 G10.out).1
          clear hf
          go_wp2_with fail
          go_at_call 16
          refine (HD.out _).mono ?_
          rintro e w11 ⟨rfl, hf⟩
          have G11 := hide (G10.out.then_ hf)
          clear hf
          rcases HYT.out with ⟨rfl, rfl⟩ | ⟨rfl, htn⟩
          · go_wp2_with fail
            go_at_call 14
            refine (does_any _).mono ?_
            rintro e w12 ⟨rfl, hf⟩
            have GE := hide (HF.out.then_ (G11.out.then_ hf))
            clear hf
            go_wp2
            go_ret
            exact ⟨rfl, GE.out⟩
          · have hte := notEmpty htn
            have hte1 := hte.1
            have hte2 := hte.2.1
            have hte3 := hte.2.2
            clear hte htn
            go_wp2_with fail
            go_at_call 14
            refine (does_any _).mono ?_
            rintro e w12 ⟨rfl, hf⟩
            have GE := hide (HF.out.then_ (G11.out.then_ hf))
            clear hf
            go_wp2
            go_ret
            exact ⟨rfl, GE.out⟩
        · rw [if_neg (by simp)]
          go_wp2_with fail
          go_at_call 16
          refine (HDL.out _).mono ?_
          rintro e w10 ⟨rfl, hf⟩
          have G10 := hide (G9.out.then_ hf)
          have hci := (HCK.out w10 G10.out).1
          clear hf
          go_wp2_with fail
          go_at_call 16
          refine (HD.out _).mono ?_
          rintro e w11 ⟨rfl, hf⟩
          have G11 := hide (G10.out.then_ hf)
          clear hf
          rcases HYT.out with ⟨rfl, rfl⟩ | ⟨rfl, htn⟩
          · go_wp2_with fail
            go_at_call 14
            refine (does_any _).mono ?_
            rintro e w12 ⟨rfl, hf⟩
            have GE := hide (HF.out.then_ (G11.out.then_ hf))
            clear hf
            go_wp2
            go_ret
            exact ⟨rfl, GE.out⟩
          · have hte := notEmpty htn
            have hte1 := hte.1
            have hte2 := hte.2.1
            have hte3 := hte.2.2
            clear hte htn
            go_wp2_with fail
            go_at_call 14
            refine (does_any _).mono ?_
            rintro e w12 ⟨rfl, hf⟩
            have GE := hide (HF.out.then_ (G11.out.then_ hf))
            clear hf
            go_wp2
            go_ret
            exact ⟨rfl, GE.out⟩
      · rw [decide_eq_false (show ¬ 122 ≤ dl.length by omega), Bool.false_and, if_neg (by simp)]
        go_wp2_with fail
        go_at_call 16
        refine (HDL.out _).mono ?_
        rintro e w10 ⟨rfl, hf⟩
        have G10 := hide (G9.out.then_ hf)
        have hci := (HCK.out w10 G10.out).1
        clear hf
        go_wp2_with fail
        go_at_call 16
        refine (HD.out _).mono ?_
        rintro e w11 ⟨rfl, hf⟩
        have G11 := hide (G10.out.then_ hf)
        clear hf
        rcases HYT.out with ⟨rfl, rfl⟩ | ⟨rfl, htn⟩
        · go_wp2_with fail
          go_at_call 14
          refine (does_any _).mono ?_
          rintro e w12 ⟨rfl, hf⟩
          have GE := hide (HF.out.then_ (G11.out.then_ hf))
          clear hf
          go_wp2
          go_ret
          exact ⟨rfl, GE.out⟩
        · have hte := notEmpty htn
          have hte1 := hte.1
          have hte2 := hte.2.1
          have hte3 := hte.2.2
          clear hte htn
          go_wp2_with fail
          go_at_call 14
          refine (does_any _).mono ?_
          rintro e w12 ⟨rfl, hf⟩
          have GE := hide (HF.out.then_ (G11.out.then_ hf))
          clear hf
          go_wp2
          go_ret
          exact ⟨rfl, GE.out⟩
    · have F8 : Hid (Fr (fun _ => False) w5 w8) := sFr (by assumption : w8.cell? ⟨b, o + i, none⟩ = some (.string ⟨p.toArray⟩) ∧ Fr (fun _ => False) w5 w8)
      have G8 := hide (G5.out.then_ F8.out)
      have HT8 : Hid (Reads w8 w8.heap.size 1 (some ⟨g8, 0, none⟩) (n + 1) ((L ++ [p]).map strv)) := by
        have h := Reads.of_own hown8
        unfold Hid
        rw [List.map_append]
        exact h
      have HMX8 : Hid (∀ l ∈ L ++ [p], l.length ≤ 9223372036854775807) := by
        intro l hl
        rcases List.mem_append.1 hl with h | h
        · exact HMX.out l h
        · obtain rfl := List.mem_singleton.1 h
          rw [HPP.out]; omega
      clear hown8 hgrow hat8 hlt8 F8 G5 hown7 hat7 hlt7 HN5 HSO D5 hc5 HON HLn
      go_wp2_with fail
      go_at_call 18
      refine (pg_join _ (n + 1) cap8 (L ++ [p]) w8.heap.size w8 HT8.out (Nat.le_refl _) (by omega) HMX8.out).mono ?_
      rintro e w9 ⟨rfl, hf⟩
      have G9 := hide (G8.out.then_ hf)
      have hcl := (HCK.out w9 G9.out).2
      rw [HJL.out]
      unfold joinR
      clear hf
      by_cases h122 : dl.length = 122
      · rw [decide_eq_true (show 122 ≤ dl.length by omega), Bool.true_and]
        cases hde : di.isEmpty
        · rw [if_pos (by simp), HFL.out]
          have hcat : s ++ (⟨di.toArray⟩ : ByteArray) = ⟨(s.data.toList ++ di).toArray⟩ := by rw [← bytes_append]
          have hsl : s.toList = s.data.toList := ByteArray.toList_eq s
          go_wp2_with fail
          go_at_call 16
          refine (HDL.out _).mono ?_
          rintro e w10 ⟨rfl, hf⟩
          have G10 := hide (G9.out.then_ hf)
          have hci := (HCK.out w10 G10.out).1
          clear hf
          go_wp2_with fail
          go_at_call 16
          refine (HD.out _).mono ?_
          rintro e w11 ⟨rfl, hf⟩
          have G11 := hide (G10.out.then_ hf)
          clear hf
          rcases HYT.out with ⟨rfl, rfl⟩ | ⟨rfl, htn⟩
          · go_wp2_with fail
            go_at_call 14
            refine (does_any _).mono ?_
            rintro e w12 ⟨rfl, hf⟩
            have GE := hide (HF.out.then_ (G11.out.then_ hf))
            clear hf
            go_wp2
            go_ret
            exact ⟨rfl, GE.out⟩
          · have hte := notEmpty htn
            have hte1 := hte.1
            have hte2 := hte.2.1
            have hte3 := hte.2.2
            clear hte htn
            go_wp2_with fail
            go_at_call 14
            refine (does_any _).mono ?_
            rintro e w12 ⟨rfl, hf⟩
            have GE := hide (HF.out.then_ (G11.out.then_ hf))
            clear hf
            go_wp2
            go_ret
            exact ⟨rfl, GE.out⟩
        · rw [if_neg (by simp)]
          go_wp2_with fail
          go_at_call 16
          refine (HDL.out _).mono ?_
          rintro e w10 ⟨rfl, hf⟩
          have G10 := hide (G9.out.then_ hf)
          have hci := (HCK.out w10 G10.out).1
          clear hf
          go_wp2_with fail
          go_at_call 16
          refine (HD.out _).mono ?_
          rintro e w11 ⟨rfl, hf⟩
          have G11 := hide (G10.out.then_ hf)
          clear hf
          rcases HYT.out with ⟨rfl, rfl⟩ | ⟨rfl, htn⟩
          · go_wp2_with fail
            go_at_call 14
            refine (does_any _).mono ?_
            rintro e w12 ⟨rfl, hf⟩
            have GE := hide (HF.out.then_ (G11.out.then_ hf))
            clear hf
            go_wp2
            go_ret
            exact ⟨rfl, GE.out⟩
          · have hte := notEmpty htn
            have hte1 := hte.1
            have hte2 := hte.2.1
            have hte3 := hte.2.2
            clear hte htn
            go_wp2_with fail
            go_at_call 14
            refine (does_any _).mono ?_
            rintro e w12 ⟨rfl, hf⟩
            have GE := hide (HF.out.then_ (G11.out.then_ hf))
            clear hf
            go_wp2
            go_ret
            exact ⟨rfl, GE.out⟩
      · rw [decide_eq_false (show ¬ 122 ≤ dl.length by omega), Bool.false_and, if_neg (by simp)]
        go_wp2_with fail
        go_at_call 16
        refine (HDL.out _).mono ?_
        rintro e w10 ⟨rfl, hf⟩
        have G10 := hide (G9.out.then_ hf)
        have hci := (HCK.out w10 G10.out).1
        clear hf
        go_wp2_with fail
        go_at_call 16
        refine (HD.out _).mono ?_
        rintro e w11 ⟨rfl, hf⟩
        have G11 := hide (G10.out.then_ hf)
        clear hf
        rcases HYT.out with ⟨rfl, rfl⟩ | ⟨rfl, htn⟩
        · go_wp2_with fail
          go_at_call 14
          refine (does_any _).mono ?_
          rintro e w12 ⟨rfl, hf⟩
          have GE := hide (HF.out.then_ (G11.out.then_ hf))
          clear hf
          go_wp2
          go_ret
          exact ⟨rfl, GE.out⟩
        · have hte := notEmpty htn
          have hte1 := hte.1
          have hte2 := hte.2.1
          have hte3 := hte.2.2
          clear hte htn
          go_wp2_with fail
          go_at_call 14
          refine (does_any _).mono ?_
          rintro e w12 ⟨rfl, hf⟩
          have GE := hide (HF.out.then_ (G11.out.then_ hf))
          clear hf
          go_wp2
          go_ret
          exact ⟨rfl, GE.out⟩
end Go.Proofs.YtghnjmgjokbopaaDoor
