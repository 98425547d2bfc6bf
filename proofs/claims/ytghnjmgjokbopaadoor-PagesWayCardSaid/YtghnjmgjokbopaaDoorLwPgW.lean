/- THE LAW Way, walked. -/
import Derived.Test.YtghnjmgjokbopaaDoorLwPgB
set_option linter.unusedVariables false
set_option maxRecDepth 100000
namespace Go.Proofs.YtghnjmgjokbopaaDoor
open Go.RowKit

set_option maxHeartbeats 4000000 in
theorem law_way (A : Option Addr) (n c : Nat) (L : List (List UInt8)) (s : ByteArray) (w : World) (ha : Reads w w.heap.size 1 A n (L.map strv)) (hn : n ≤ 9223372036854775807) (hs : s.size ≤ 9223372036854775807) :
    Calls Tryd.prog 6 #[.slice A n c, .string s] w fun e w' => e = .returned (.bool true) ∧ Fr (fun _ => False) w w' := by
  have la : L.length = n := by have := ha.1; simpa using this
  have LA := hide la
  have HA := hide ha
  have HG := hide (great_any A n c w.heap.size 30 L w ha hn (by omega))
  clear la ha
  go_enter Tryd.func6, Tryd.ntmps6
  go_wp2_with fail
  go_at_call 15
  refine HG.out.mono ?_
  rintro e w1 ⟨⟨g, rfl, hg⟩, rfl⟩
  cases g
  case true =>
    go_wp2
    go_ret
    exact ⟨rfl, Fr.refl _ _⟩
  obtain ⟨hn30, hL⟩ := hg rfl
  have HL := hide hL
  clear hL hg HG
  by_cases h3 : 300 < s.size
  · go_wp2
    go_ret
    exact ⟨rfl, Fr.refl _ _⟩
  have HM : Hid (∀ l ∈ L, l.length ≤ 9223372036854775807) := fun l h => by have := HL.out l h; omega
  have HD := hide (fun w => pg_dec s w (by omega))
  cases hp : pageB s.data.toList
  · rw [hp] at HD
    unfold decR at HD
    rw [if_neg (by simp)] at HD
    clear hp
    go_wp2_with fail
    go_at_call 16
    refine (HD.out _).mono ?_
    rintro e w2 ⟨rfl, hf⟩
    have HA := hide (HA.out.up hf)
    have HF := hide hf
    clear hf
    go_wp2_with fail
    go_at_call 18
    refine (pg_join A n c L w2.heap.size w2 HA.out (Nat.le_refl _) (by omega) HM.out).mono ?_
    rintro e w3 ⟨rfl, hf⟩
    have HA := hide (HA.out.up hf)
    have HF := hide (HF.out.then_ hf)
    clear hf
    cases hj : joinB L
    · unfold joinR
      rw [if_neg (by simp)]
      go_wp2_with fail
      go_at_call 14
      refine (does_any _).mono ?_
      rintro e w4 ⟨rfl, hf⟩
      have HF := hide (HF.out.then_ hf)
      clear hf
      go_wp2
      go_ret
      exact ⟨rfl, HF.out⟩
    · obtain ⟨hall, hsp⟩ := (join_iff L).1 hj
      have hfl : (flatB L).length ≤ 4000 := by
        have := flatB_len L (List.all_eq_true.2 hall)
        have := LA.out
        omega
      have HS := hide (fun w => pg_split ⟨(flatB L).toArray⟩ w (by show (flatB L).toArray.size ≤ _; simp; omega))
      rw [show (⟨(flatB L).toArray⟩ : ByteArray).data.toList = flatB L by simp, hsp, LA.out] at HS
      unfold joinR
      rw [if_pos rfl]
      generalize flatB L = fl at *
      clear hall hsp hfl hj
      go_wp2_with fail
      go_at_call 12
      refine (HS.out _).mono ?_
      rintro e w4 ⟨A2, c2, rfl, hd1, hd2, hr, hf⟩
      have HA := hide (HA.out.up hf)
      have HB := hide hr
      have HF := hide (HF.out.then_ hf)
      clear hr hf
      go_wp2_with fail
      go_at_call 11
      refine (texts_any A2 A n c2 n c w4.heap.size L L w4 HB.out HA.out (by omega)).mono ?_
      rintro e w5 ⟨rfl, hf⟩
      have HF := hide (HF.out.then_ hf)
      rw [show (L == L) = true by simp]
      clear hf
      go_wp2_with fail
      go_at_call 14
      refine (does_any _).mono ?_
      rintro e w6 ⟨rfl, hf⟩
      have HF := hide (HF.out.then_ hf)
      clear hf
      go_wp2
      go_ret
      exact ⟨rfl, HF.out⟩
  · rw [hp] at HD
    obtain ⟨h128, hm, he⟩ := (pageB_iff _).1 hp
    have hdl := datB_le _ hp
    unfold decR at HD
    rw [if_pos rfl] at HD
    have HE := hide (fun w => pg_enc ⟨(datB s.data.toList).toArray⟩ (by show (datB s.data.toList).toArray.size ≤ _; simpa using hdl) w)
    rw [show (⟨(datB s.data.toList).toArray⟩ : ByteArray).data.toList = datB s.data.toList by simp, he] at HE
    rw [show (⟨s.data.toList.toArray⟩ : ByteArray) = s by simp] at HE
    generalize datB s.data.toList = d at *
    clear hp h128 hm he
    go_wp2_with fail
    go_at_call 16
    refine (HD.out _).mono ?_
    rintro e w1 ⟨rfl, hf⟩
    have HA := hide (HA.out.up hf)
    have HF := hide hf
    clear hf
    go_wp2_with fail
    go_at_call 9
    refine (HE.out _).mono ?_
    rintro e w2 ⟨rfl, hf⟩
    have HA := hide (HA.out.up hf)
    have HF := hide (HF.out.then_ hf)
    clear hf
    go_wp2_with fail
    go_at_call 18
    refine (pg_join A n c L w2.heap.size w2 HA.out (Nat.le_refl _) (by omega) HM.out).mono ?_
    rintro e w3 ⟨rfl, hf⟩
    have HA := hide (HA.out.up hf)
    have HF := hide (HF.out.then_ hf)
    clear hf
    cases hj : joinB L
    · unfold joinR
      rw [if_neg (by simp)]
      go_wp2_with fail
      go_at_call 14
      refine (does_any _).mono ?_
      rintro e w4 ⟨rfl, hf⟩
      have HF := hide (HF.out.then_ hf)
      clear hf
      go_wp2
      go_ret
      exact ⟨rfl, HF.out⟩
    · obtain ⟨hall, hsp⟩ := (join_iff L).1 hj
      have hfl : (flatB L).length ≤ 4000 := by
        have := flatB_len L (List.all_eq_true.2 hall)
        have := LA.out
        omega
      have HS := hide (fun w => pg_split ⟨(flatB L).toArray⟩ w (by show (flatB L).toArray.size ≤ _; simp; omega))
      rw [show (⟨(flatB L).toArray⟩ : ByteArray).data.toList = flatB L by simp, hsp, LA.out] at HS
      unfold joinR
      rw [if_pos rfl]
      generalize flatB L = fl at *
      clear hall hsp hfl hj
      go_wp2_with fail
      go_at_call 12
      refine (HS.out _).mono ?_
      rintro e w4 ⟨A2, c2, rfl, hd1, hd2, hr, hf⟩
      have HA := hide (HA.out.up hf)
      have HB := hide hr
      have HF := hide (HF.out.then_ hf)
      clear hr hf
      go_wp2_with fail
      go_at_call 11
      refine (texts_any A2 A n c2 n c w4.heap.size L L w4 HB.out HA.out (by omega)).mono ?_
      rintro e w5 ⟨rfl, hf⟩
      have HF := hide (HF.out.then_ hf)
      rw [show (L == L) = true by simp]
      clear hf
      go_wp2_with fail
      go_at_call 14
      refine (does_any _).mono ?_
      rintro e w6 ⟨rfl, hf⟩
      have HF := hide (HF.out.then_ hf)
      clear hf
      go_wp2
      go_ret
      exact ⟨rfl, HF.out⟩
end Go.Proofs.YtghnjmgjokbopaaDoor
