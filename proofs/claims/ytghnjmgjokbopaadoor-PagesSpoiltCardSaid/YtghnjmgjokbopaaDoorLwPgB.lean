/- THE LAW Back, walked. -/
import Derived.Test.YtghnjmgjokbopaaDoorLwPgE
set_option linter.unusedVariables false
set_option maxRecDepth 100000
namespace Go.Proofs.YtghnjmgjokbopaaDoor
open Go.RowKit

theorem split_each (D : List UInt8) : ∀ p ∈ splitB D, pageB p = true ∧ (datB p).length ≤ 122 ∧ encB (datB p) = p ∧ p.length = 128 := by
  intro p hp
  obtain ⟨c, hc, rfl⟩ := List.mem_map.1 hp
  have h := chunks_le D.length D (Nat.le_refl _) c hc
  exact ⟨page_enc h, by rw [dat_enc h]; exact h, by rw [dat_enc h], encB_len h⟩
theorem law_back (s : ByteArray) (hs : s.size ≤ 9223372036854775807) (w : World) : Calls Tryd.prog 5 #[.string s] w fun e w' => e = .returned (.bool true) ∧ Fr (fun _ => False) w w' := by
  by_cases h3 : 3000 < s.size
  · go_enter Tryd.func5, Tryd.ntmps5
    go_wp2
    go_ret
    exact ⟨rfl, Fr.refl _ _⟩
  have HS := hide (fun w => pg_split s w (by omega))
  have hl : s.data.toList.length = s.size := by simp
  have hq : (splitB s.data.toList).length ≤ 100 := splitB_le _ (by omega)
  have HEA := hide (split_each s.data.toList)
  have hlen : max (((s.size : Int) + 121) / 122) 1 = ((splitB s.data.toList).length : Int) := by
    have := chunks_len s.data.toList.length s.data.toList (Nat.le_refl _)
    rw [hl] at this
    simp only [splitB, List.length_map]
    omega
  have HJ : Hid (joinR (joinB (splitB s.data.toList)) (splitB s.data.toList) = .tuple #[.string s, .int .i64 0]) := by
    unfold Hid joinR
    rw [join_split, flat_split s.data.toList.length _ (Nat.le_refl _)]
    rfl
  generalize splitB s.data.toList = q at *
  have HM : Hid (∀ l ∈ q, l.length ≤ 9223372036854775807) := fun l h => by have := (HEA.out l h).2.2.2; omega
  have HLEN := hide hlen
  obtain ⟨n, hqn⟩ : ∃ n, q.length = n := ⟨_, rfl⟩
  have HQN := hide hqn
  rw [hqn] at HS hq HLEN
  clear hl hlen hqn
  go_enter Tryd.func5, Tryd.ntmps5
  go_wp2_with fail
  go_at_call 12
  refine (HS.out _).mono ?_
  rintro e w1 ⟨A, c, rfl, hc1, hc2, hr, hf⟩
  have HA := hide hr
  have HF := hide hf
  clear hr hf
  go_wp2_with fail
  go_at_call 18
  refine (pg_join A n c q w1.heap.size w1 HA.out (Nat.le_refl _) (by omega) HM.out).mono ?_
  rintro e w2 ⟨rfl, hf⟩
  rw [HJ.out]
  have HA := hide (HA.out.up hf)
  have HF := hide (HF.out.then_ hf)
  have hlen := HLEN.out
  clear hf
  go_wp2_with fail
  clear hlen
  go_loopw [6] (fun i wr => ∃ k : Nat, k ≤ n ∧ i = .int .i64 k ∧ Hid (Fr (fun _ => False) w2 wr)) (fun i _ => n - (intOf i).toNat)
  case atStart => exact ⟨0, by omega, rfl, Fr.refl _ _⟩
  case round =>
    obtain ⟨k, hk, rfl, HI⟩ := hrel
    by_cases hlt : k < n
    · obtain ⟨b, o, u, rfl, hb, hu, hc⟩ := (HA.out.up HI.out).at_ hlt
      have lk : k < q.length := by rw [HQN.out]; exact hlt
      rw [List.getElem?_map, List.getElem?_eq_getElem lk] at hu
      obtain rfl := Option.some.inj hu
      unfold strv at hc
      obtain ⟨hp, hd, he, h128⟩ := HEA.out _ (List.getElem_mem lk)
      have HD := hide (fun w => pg_dec ⟨q[k].toArray⟩ w (by show q[k].toArray.size ≤ _; simp [h128]))
      rw [show (⟨q[k].toArray⟩ : ByteArray).data.toList = q[k] by simp, hp] at HD
      unfold decR at HD
      rw [if_pos rfl] at HD
      have HE := hide (fun w => pg_enc ⟨(datB q[k]).toArray⟩ (by show (datB q[k]).toArray.size ≤ _; simpa using hd) w)
      rw [show (⟨(datB q[k]).toArray⟩ : ByteArray).data.toList = datB q[k] by simp, he] at HE
      have hps : (⟨q[k].toArray⟩ : ByteArray).size = 128 := by show q[k].toArray.size = 128; simp [h128]
      generalize datB q[k] = d at *
      generalize q[k] = p at *
      clear hu he lk
      have HRD := hide (fun (w' : World) (hf : Fr (fun _ => False) wr w') => hf.cell hc (fun h => h))
      go_wp2_with fail
      go_at_call 16
      refine (HD.out _).mono ?_
      rintro e w3 ⟨rfl, hf⟩
      have HI := hide (HI.out.then_ hf)
      have HG := hide hf
      clear hf
      go_wp2_with fail
      go_at_call 9
      refine (HE.out _).mono ?_
      rintro e w4 ⟨rfl, hf⟩
      have HI := hide (HI.out.then_ hf)
      have hc4 := HRD.out w4 (HG.out.then_ hf)
      clear hf hc
      go_wp2
      go_round
      case rel => exact ⟨k + 1, by omega, by go_num, HI⟩
      case measure => simp [intOf]; omega
    · go_wp2_with fail
      go_at_call 14
      refine (does_any _).mono ?_
      rintro e w4 ⟨rfl, hf⟩
      have HF := hide ((HF.out.then_ HI.out).then_ hf)
      clear hf
      go_wp2
      go_ret
      exact ⟨rfl, HF.out⟩
end Go.Proofs.YtghnjmgjokbopaaDoor
