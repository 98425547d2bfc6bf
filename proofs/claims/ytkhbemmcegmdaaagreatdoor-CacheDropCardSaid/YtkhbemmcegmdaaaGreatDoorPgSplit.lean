/- PAGES: data as pages, the program's and the reference's. -/
import Derived.Test.YtkhbemmcegmdaaaGreatDoorPgDec
import Derived.Laws.OwnMore
set_option linter.all false
set_option linter.unusedVariables false
set_option maxRecDepth 100000
namespace Go.Proofs.YtkhbemmcegmdaaaGreatDoor
open Go.RowKit

theorem str_info : (Tryz.prog.info? 9).map (fun i => (i.zero, i.size, i.bytes)) = some (some (.string ⟨#[]⟩), 1, 16) := by kernel_rfl
def strv (l : List UInt8) : Value := .string ⟨l.toArray⟩
/-- data in parts of 122 bytes -/
def chunks (d : List UInt8) : List (List UInt8) := if h : 122 < d.length then d.take 122 :: chunks (d.drop 122) else [d]
termination_by d.length
decreasing_by simp; omega
theorem chunks_long {d : List UInt8} (h : 122 < d.length) : chunks d = d.take 122 :: chunks (d.drop 122) := by rw [chunks]; rw [dif_pos h]
theorem chunks_short {d : List UInt8} (h : d.length ≤ 122) : chunks d = [d] := by rw [chunks]; rw [dif_neg (by omega)]
def splitB (d : List UInt8) : List (List UInt8) := (chunks d).map encB
theorem splitB_long {d : List UInt8} (h : 122 < d.length) : splitB d = encB (d.take 122) :: splitB (d.drop 122) := by rw [splitB, chunks_long h]; rfl
theorem splitB_short {d : List UInt8} (h : d.length ≤ 122) : splitB d = [encB d] := by rw [splitB, chunks_short h]; rfl
theorem chunks_count (n : Nat) : ∀ d : List UInt8, d.length ≤ n → (chunks d).length ≤ 1 + d.length / 122 := by
  induction n with
  | zero => intro d h; rw [chunks_short (by omega)]; simp
  | succ n ih =>
    intro d h
    by_cases hl : 122 < d.length
    · rw [chunks_long hl]
      have := ih (d.drop 122) (by simp; omega)
      simp at this ⊢
      omega
    · rw [chunks_short (by omega)]
      simp

theorem own_fr {w w' : World} {base n : Nat} {e : TypeId} {v : Value} {xs : List Value} {S : Nat → Prop} (h : w.ownsRow base e 1 v n xs) (hf : Fr S w w') (hn : ∀ k, v.ownBlock = some k → ¬ S k) : w'.ownsRow base e 1 v n xs := by
  obtain ⟨h1, h2⟩ := h
  refine ⟨h1, ?_⟩
  rcases h2 with h2 | ⟨g, cap, cur, rfl, hb, hg, h3⟩
  · exact .inl h2
  · have hlt : g < w.heap.size := by
      rcases Nat.lt_or_ge g w.heap.size with h | h
      · exact h
      · rw [Array.getElem?_eq_none h] at hg; cases hg
    exact .inr ⟨g, cap, cur, rfl, hb, (hf.block g hlt (hn g rfl)).trans hg, h3⟩

/-- pages that are being made -/
structure PgAt (W0 : World) (lb : Nat) (xs : List (List UInt8)) (w : World) : Prop where
  ge : W0.heap.size ≤ lb
  fr : Fr (fun _ => False) W0 w
  row : ∃ v, Blk w lb 166 #[v] ∧ w.ownsRow W0.heap.size 9 1 v xs.length (xs.map strv) ∧ v.ownBlock ≠ some lb

theorem pg_add (W0 : World) (lb : Nat) (xs : List (List UInt8)) (s : ByteArray) (w : World) (h : PgAt W0 lb xs w) (hs : s.size ≤ 122) (hn : xs.length ≤ 1000) :
    Calls Tryz.prog 99 #[.pointer (some ⟨lb, 0, none⟩), .string s] w fun e w' => e = .returned (.tuple #[]) ∧ PgAt W0 lb (xs ++ [encB s.data.toList]) w' := by
  obtain ⟨i0, hi, hz0, hz1, hz2⟩ := info_parts str_info
  obtain ⟨hge, hfr, v, hB, hown, hne⟩ := h
  have HE := hide (pg_enc s hs w)
  have HB := hide hB
  have HO := hide hown
  have HF := hide hfr
  have HN := hide hne
  generalize encB s.data.toList = q at *
  clear hB hown hfr hne
  go_enter Tryz.func99, Tryz.ntmps99
  go_wp2_with fail
  go_at_call 17
  refine HE.out.mono ?_
  rintro e w1 ⟨rfl, hf⟩
  have hown1 := own_fr HO.out hf (fun _ _ h => h)
  have HB1 := hide (HB.out.fr hf id)
  have HF1 := hide (HF.out.then_ hf)
  have c0 : w1.cell? ⟨lb, 0, none⟩ = some v := (HB1.out.cell 0).trans rfl
  have hz := HF1.out.size
  clear hf
  go_wp2_with (at_builtin; refine wpList_append_box w1 _ _ rfl (.tmp 15) (.tmp 17) _ rfl W0.heap.size 9 i0 _ 1 16 Tryz.underlying116 hi hz0 hz1 hz2 rfl (by decide) _ _ _ rfl hown1 rfl rfl ?c1 ?c2 ?c3 ?c4 ?c5)
  case c1 => simp [Value.oneCell']
  case c2 => unfold maxLen; omega
  case c3 => omega
  case c4 => exact hz
  case c5 =>
    intro v' w2 hown2 hg hob
    have hlb := HB1.out.lt
    have HB2 : Hid (Blk w2 lb 166 #[v]) := (HB1.out).fr (Fr.of_grown hg) HN.out
    have hne' : v'.ownBlock ≠ some lb := by
      rcases hob with h | h
      · rw [h]; exact HN.out
      · rw [h]; intro e; injection e with e; omega
    have HF2 : Hid (Fr (fun _ => False) W0 w2) := HF1.out.grown hg (fun k hk => .inr ((hown1.lt k hk).1))
    have c2 : w2.cell? ⟨lb, 0, none⟩ = some v := (HB2.out.cell 0).trans rfl
    have f2 := HB2.out.frozen 0
    have HZ : Hid (PgAt W0 lb (xs ++ [q]) (w2.setCell ⟨lb, 0, none⟩ v')) := by
      refine ⟨hge, HF2.out.setCell (p := ⟨lb, 0, none⟩) (.inr hge) _, v', HB2.out.set_ 0 v', ?_, hne'⟩
      have : w2.ownsRow W0.heap.size 9 1 v' (xs ++ [q]).length ((xs ++ [q]).map strv) := by
        have := hown2
        simpa [strv] using this
      exact own_fr this (Fr.one w2 lb 0 v') (fun k hk hk' => hne' (by rw [hk, hk']))
    obtain ⟨A', c', rfl⟩ := Reads.own_val hown2
    clear hown1 hown2 hg hob c0 hne'
    go_wp2
    go_end0
    exact ⟨rfl, HZ.out⟩

theorem own_val2 {w : World} {base n : Nat} {v : Value} {xs : List Value} {e : TypeId} (h : w.ownsRow base e 1 v n xs) : ∃ A c, v = .slice A n c ∧ n ≤ c ∧ c ≤ 9223372036854775807 := by
  rcases h.2 with ⟨rfl, rfl⟩ | ⟨g, cap, cur, rfl, _, _, h1, h2, _⟩
  · exact ⟨_, _, rfl, Nat.le_refl _, by omega⟩
  · exact ⟨_, _, rfl, h1, by unfold maxLen at h2; omega⟩
def sizeOfV : Value → Nat
  | .string s => s.size
  | _ => 0
theorem ext_list (s : ByteArray) : (s.extract 0 122).data.toList = s.data.toList.take 122 ∧ (s.extract 122 s.size).data.toList = s.data.toList.drop 122 := by
  constructor
  · rw [ext_eq]; simp
  · rw [ext_eq]
    have : s.data.toList.length = s.size := by simp
    simp [List.take_of_length_le (Nat.le_of_eq this)]
theorem pg_each (W0 : World) (lb : Nat) (xs : List (List UInt8)) (s : ByteArray) (w : World) (h : PgAt W0 lb xs w) (hs : s.size ≤ 12000) (hn : xs.length + s.size / 122 + 1 ≤ 1000) :
    Calls Tryz.prog 98 #[.string s, .func (.func 99) #[.pointer (some ⟨lb, 0, none⟩)] #[]] w fun e w' => e = .returned (.tuple #[]) ∧ PgAt W0 lb (xs ++ splitB s.data.toList) w' := by
  have HP := hide h
  clear h
  go_enter Tryz.func98, Tryz.ntmps98
  go_wp2
  go_loopw [0] (fun x wr => ∃ (s' : ByteArray) (xs' : List (List UInt8)), x = .string s' ∧ s'.size ≤ 12000 ∧ xs'.length + s'.size / 122 + 1 ≤ 1000 ∧ Hid (PgAt W0 lb xs' wr ∧ xs' ++ splitB s'.data.toList = xs ++ splitB s.data.toList)) (fun x _ => sizeOfV x)
  case atStart => exact ⟨s, xs, rfl, hs, hn, HP.out, rfl⟩
  case round =>
    obtain ⟨s', xs', rfl, hs', hn', HI⟩ := hrel
    have hl : s'.data.toList.length = s'.size := by simp
    by_cases hlt : 122 < s'.size
    · have hx : (s'.extract 0 122).size ≤ 122 := by simp; omega
      have HA := hide (fun w h => pg_add W0 lb xs' (s'.extract 0 122) w h hx (by omega))
      have HL := hide (splitB_long (d := s'.data.toList) (by omega))
      have HX := hide (ext_list s')
      have hsz : (s'.extract 122 s'.size).size = s'.size - 122 := by simp
      clear hl
      go_wp2_with fail
      go_at_call 99
      refine (HA.out _ HI.out.1).mono ?_
      rintro e w1 ⟨rfl, hP⟩
      have HZ : Hid (PgAt W0 lb (xs' ++ [encB (s'.data.toList.take 122)]) w1 ∧ (xs' ++ [encB (s'.data.toList.take 122)]) ++ splitB (s'.extract 122 s'.size).data.toList = xs ++ splitB s.data.toList) := by
        rw [HX.out.1] at hP
        refine ⟨hP, ?_⟩
        rw [HX.out.2, ← HI.out.2, HL.out]
        simp
      clear hP HI
      go_wp2
      go_roundw
      case rel => exact ⟨_, _, rfl, by omega, by simp; omega, HZ⟩
      case measure => simp [sizeOfV]; omega
    · have HA := hide (fun w h => pg_add W0 lb xs' s' w h (by omega) (by omega))
      have HL := hide (splitB_short (d := s'.data.toList) (by omega))
      clear hl
      go_wp2_with fail
      go_at_call 99
      refine (HA.out _ HI.out.1).mono ?_
      rintro e w1 ⟨rfl, hP⟩
      have HZ : Hid (PgAt W0 lb (xs ++ splitB s.data.toList) w1) := by
        rw [← HI.out.2, HL.out]
        exact hP
      clear hP HI
      go_wp2
      go_end0
      exact ⟨rfl, HZ.out⟩

theorem pg_split (s : ByteArray) (w : World) (hs : s.size ≤ 12000) :
    Calls Tryz.prog 56 #[.string s] w fun e w' => ∃ A c, e = .returned (.slice A (splitB s.data.toList).length c) ∧ (splitB s.data.toList).length ≤ c ∧ c ≤ 9223372036854775807 ∧ Reads w' w'.heap.size 1 A (splitB s.data.toList).length ((splitB s.data.toList).map strv) ∧ Fr (fun _ => False) w w' := by
  have HP : Hid (PgAt w w.heap.size [] (w.alloc (.cells #[.slice none 0 0] 166))) := ⟨Nat.le_refl _, (Fr.refl _ _).alloc _, _, Blk.new _ _ _, World.ownsRow_nil _ _ _ _, by simp [Value.ownBlock]⟩
  have HE := hide (pg_each w w.heap.size [] s _ HP.out hs (by simp; omega))
  generalize splitB s.data.toList = q at *
  go_enter Tryz.func56, Tryz.ntmps56
  go_wp2_with fail
  go_at_call 98
  refine HE.out.mono ?_
  rintro e w1 ⟨rfl, ⟨_, hf, v, hB, hown, _⟩⟩
  have c0 : w1.cell? ⟨w.heap.size, 0, none⟩ = some v := (hB.cell 0).trans rfl
  rw [List.nil_append] at hown
  obtain ⟨A, c, rfl, hc1, hc2⟩ := own_val2 hown
  have HR := hide (Reads.of_own hown)
  have HF := hide hf
  clear hf hB hown
  go_wp2
  go_ret
  exact ⟨_, _, rfl, hc1, hc2, HR.out, HF.out⟩

theorem rpg_split (n : Nat) : ∀ (s : ByteArray) (w : World), s.size ≤ n → s.size ≤ 12000 →
    Calls Tryz.prog 74 #[.string s] w (fun e w' => ∃ A c, e = .returned (.slice A (splitB s.data.toList).length c) ∧ (splitB s.data.toList).length ≤ c ∧ c ≤ 9223372036854775807 ∧ Reads w' w'.heap.size 1 A (splitB s.data.toList).length ((splitB s.data.toList).map strv) ∧ Fr (fun _ => False) w w') := by
  induction n with
  | zero =>
    intro s w h hs
    have hl : s.data.toList.length = s.size := by simp
    have HL := hide (splitB_short (d := s.data.toList) (by omega))
    rw [HL.out]
    have HE := hide (rpg_enc s (by omega) w)
    generalize encB s.data.toList = q at *
    clear hl HL
    go_enter Tryz.func74, Tryz.ntmps74
    go_wp2_with fail
    go_at_call 112
    refine HE.out.mono ?_
    rintro e w1 ⟨rfl, hf⟩
    have HF := hide hf
    clear hf
    go_wp2_with fail
    go_ret
    exact ⟨_, _, rfl, Nat.le_refl _, by omega, Reads.blk (Blk.new w1 9 #[.string ⟨q.toArray⟩]) rfl, HF.out.alloc _⟩
  | succ n ih =>
    intro s w h hs
    have hl : s.data.toList.length = s.size := by simp
    by_cases hlt : 122 < s.size
    · obtain ⟨i0, hi, hz0, hz1, hz2⟩ := info_parts str_info
      have hx : (s.extract 0 122).size ≤ 122 := by simp; omega
      have hsz : (s.extract 122 s.size).size = s.size - 122 := by simp
      have HE := hide (rpg_enc (s.extract 0 122) hx w)
      have HI := hide (fun w => ih (s.extract 122 s.size) w (by omega) (by omega))
      have HX := ext_list s
      rw [HX.1] at HE
      rw [HX.2] at HI
      have HL := hide (splitB_long (d := s.data.toList) (by omega))
      rw [HL.out]
      have hcnt : (splitB (s.data.toList.drop 122)).length ≤ 1000 := by
        have := chunks_count _ (s.data.toList.drop 122) (Nat.le_refl _)
        simp [splitB] at this ⊢
        omega
      generalize encB (s.data.toList.take 122) = q at *
      generalize splitB (s.data.toList.drop 122) = Q at *
      clear hl HL HX ih
      go_enter Tryz.func74, Tryz.ntmps74
      go_wp2_with fail
      go_at_call 112
      refine HE.out.mono ?_
      rintro e w1 ⟨rfl, hf⟩
      have HF := hide hf
      clear hf
      go_wp2_with fail
      go_at_call 74
      refine (HI.out _).mono ?_
      rintro e w2 ⟨A, c, rfl, _, _, hr, hf⟩
      have hown : w2.ownsRow w1.heap.size 9 1 (.slice (some ⟨w1.heap.size, 0, none⟩) 1 1) 1 [strv q] :=
        own_fr (World.ownsRow_lit (base := w1.heap.size) (e := 9) (size := 1) w1 #[.string ⟨q.toArray⟩] 1 (Nat.le_refl _) (by unfold maxLen; omega) rfl) hf (fun _ _ h => h)
      have hge : w1.heap.size ≤ w2.heap.size := Nat.le_trans (by simp) hf.size
      have HF2 := hide ((HF.out.alloc (.cells #[.string ⟨q.toArray⟩] 9)).then_ hf)
      clear hf
      go_wp2_with (at_builtin; refine wpList_append_reads rfl _ _ 116 rfl w1.heap.size 9 i0 _ 1 16 Tryz.underlying116 hi hz0 hz1 hz2 rfl (by decide) _ _ _ rfl hown w2.heap.size A Q.length c (Q.map strv) rfl hr ?c1 ?c2 ?c3 ?c4 ?c5)
      case c1 => intro u hu; obtain ⟨l, _, rfl⟩ := List.mem_map.1 hu; rfl
      case c2 => unfold maxLen; omega
      case c3 => omega
      case c4 => omega
      case c5 =>
        intro v' w3 hown3 hg _
        have HF3 := hide (HF2.out.grown hg (fun k hk => .inr (by have := HF.out.size; have := (hown.lt k hk).1; omega)))
        have hown4 : w3.ownsRow w1.heap.size 9 1 v' (q :: Q).length ((q :: Q).map strv) := by
          have := hown3
          simpa [Nat.add_comm] using this
        obtain ⟨A', c', rfl, hc1, hc2⟩ := own_val2 hown4
        have HR := hide (Reads.of_own hown4)
        clear hown hown3 hown4 hg hr
        go_wp2
        go_ret
        exact ⟨_, _, rfl, hc1, hc2, HR.out, HF3.out⟩
    · have HL := hide (splitB_short (d := s.data.toList) (by omega))
      rw [HL.out]
      have HE := hide (rpg_enc s (by omega) w)
      generalize encB s.data.toList = q at *
      clear hl HL ih
      go_enter Tryz.func74, Tryz.ntmps74
      go_wp2_with fail
      go_at_call 112
      refine HE.out.mono ?_
      rintro e w1 ⟨rfl, hf⟩
      have HF := hide hf
      clear hf
      go_wp2_with fail
      go_ret
      exact ⟨_, _, rfl, Nat.le_refl _, by omega, Reads.blk (Blk.new w1 9 #[.string ⟨q.toArray⟩]) rfl, HF.out.alloc _⟩
end Go.Proofs.YtkhbemmcegmdaaaGreatDoor
