/- THE LAW Encode, walked. -/
import Derived.Test.YtghnjmgjokbopaaDoorPgDoes
set_option linter.unusedVariables false
set_option maxRecDepth 100000
namespace Go.Proofs.YtghnjmgjokbopaaDoor
open Go.RowKit

/-- the calls of a law's last row: Split, the reference's, Texts, does -/
theorem splits_any (s : ByteArray) (w : World) (hs : s.size ≤ 12000) : Calls Tryd.prog 13 #[.string s] w (fun e w' => ∃ A c, e = .returned (.slice A (splitB s.data.toList).length c) ∧ (splitB s.data.toList).length ≤ c ∧ c ≤ 9223372036854775807 ∧ Reads w' w'.heap.size 1 A (splitB s.data.toList).length ((splitB s.data.toList).map strv) ∧ Fr (fun _ => False) w w') := rpg_split s.size s w (Nat.le_refl _) hs
theorem splitB_le (l : List UInt8) (h : l.length ≤ 12000) : (splitB l).length ≤ 100 := by
  have := chunks_count l.length l (Nat.le_refl _)
  simp only [splitB, List.length_map]
  omega
theorem law_enc (s : ByteArray) (hs : s.size ≤ 9223372036854775807) (w : World) : Calls Tryd.prog 3 #[.string s] w fun e w' => e = .returned (.bool true) ∧ Fr (fun _ => False) w w' := by
  by_cases h3 : 3000 < s.size
  · go_enter Tryd.func3, Tryd.ntmps3
    go_wp2
    go_ret
    exact ⟨rfl, Fr.refl _ _⟩
  have HS := hide (fun w => pg_split s w (by omega))
  have HR := hide (fun w => splits_any s w (by omega))
  have hq : (splitB s.data.toList).length ≤ 100 := splitB_le _ (by simp; omega)
  by_cases h1 : 122 < s.size
  · generalize splitB s.data.toList = q at *
    go_enter Tryd.func3, Tryd.ntmps3
    go_wp2_with fail
    go_at_call 9
    refine (pg_enc_long s h1 _).mono ?_
    rintro e w1 ⟨rfl, rfl⟩
    go_wp2_with fail
    go_at_call 10
    refine (rpg_enc_long s h1 _).mono ?_
    rintro e w1 ⟨rfl, rfl⟩
    go_wp2_with fail
    go_at_call 12
    refine (HS.out _).mono ?_
    rintro e w1 ⟨A, c, rfl, hc1, hc2, hr, hf⟩
    have HA := hide hr
    have HF := hide hf
    clear hr hf
    go_wp2_with fail
    go_at_call 13
    refine (HR.out _).mono ?_
    rintro e w2 ⟨A2, c2, rfl, hd1, hd2, hr, hf⟩
    have HA := hide (HA.out.up hf)
    have HB := hide hr
    have HF := hide (HF.out.then_ hf)
    clear hr hf
    go_wp2_with fail
    go_at_call 11
    refine (texts_any A A2 _ c _ c2 w2.heap.size q q w2 HA.out HB.out (by omega)).mono ?_
    rintro e w3 ⟨rfl, hf⟩
    have HF := hide (HF.out.then_ hf)
    rw [show (q == q) = true by simp]
    clear hf
    go_wp2_with fail
    go_at_call 14
    refine (does_any w3).mono ?_
    rintro e w4 ⟨rfl, hf⟩
    have HF := hide (HF.out.then_ hf)
    clear hf
    go_wp2
    go_ret
    exact ⟨rfl, HF.out⟩
  · have HE := hide (fun w => pg_enc s (by omega) w)
    have HRE := hide (fun w => rpg_enc s (by omega) w)
    generalize splitB s.data.toList = q at *
    generalize encB s.data.toList = p at *
    go_enter Tryd.func3, Tryd.ntmps3
    go_wp2_with fail
    go_at_call 9
    refine (HE.out _).mono ?_
    rintro e w1 ⟨rfl, hf⟩
    have HF := hide hf
    clear hf
    go_wp2_with fail
    go_at_call 10
    refine (HRE.out _).mono ?_
    rintro e w1' ⟨rfl, hf⟩
    have HF := hide (HF.out.then_ hf)
    clear hf
    go_wp2_with fail
    go_at_call 12
    refine (HS.out _).mono ?_
    rintro e w1'' ⟨A, c, rfl, hc1, hc2, hr, hf⟩
    have HA := hide hr
    have HF := hide (HF.out.then_ hf)
    clear hr hf
    go_wp2_with fail
    go_at_call 13
    refine (HR.out _).mono ?_
    rintro e w2 ⟨A2, c2, rfl, hd1, hd2, hr, hf⟩
    have HA := hide (HA.out.up hf)
    have HB := hide hr
    have HF := hide (HF.out.then_ hf)
    clear hr hf
    go_wp2_with fail
    go_at_call 11
    refine (texts_any A A2 _ c _ c2 w2.heap.size q q w2 HA.out HB.out (by omega)).mono ?_
    rintro e w3 ⟨rfl, hf⟩
    have HF := hide (HF.out.then_ hf)
    rw [show (q == q) = true by simp]
    clear hf
    go_wp2_with fail
    go_at_call 14
    refine (does_any w3).mono ?_
    rintro e w4 ⟨rfl, hf⟩
    have HF := hide (HF.out.then_ hf)
    clear hf
    go_wp2
    go_ret
    exact ⟨rfl, HF.out⟩
end Go.Proofs.YtghnjmgjokbopaaDoor
