/- files.Name, by contract; slices.ContainsFunc of Write's closure. -/
import Derived.Test.YtkhbemmcegmdaaaGreatDoorFs
import Derived.Test.YtkhbemmcegmdaaaGreatDoorShelf
set_option linter.all false
set_option linter.unusedVariables false
set_option maxRecDepth 100000
namespace Go.Proofs.YtkhbemmcegmdaaaGreatDoor
open Go.RowKit

def oddB (c : Nat) : Bool := decide (c ≤ 32) || decide (126 < c)
/-- is a text a name? -/
def nameB (n : Name) : Bool := (decide (n ≠ []) && decide (n.length ≤ 8)) && decide (Lib.idxFunc oddB true ⟨n.toArray⟩ < 0)
theorem odd_ok (x : Nat) (hx : x ≤ 1114111) (w : World) : Calls Tryz.prog 110 #[.int .i32 (x : Int)] w fun e w' => e = .returned (.bool (oddB x)) ∧ w = w' := by
  by_cases h : 32 < x
  · have h1 : decide (x ≤ 32) = false := by simp; omega
    have h2 : ¬ x ≤ 32 := by omega
    have e : oddB x = decide (126 < x) := by unfold oddB; rw [h1]; simp
    rw [e]
    go_enter Tryz.func110, Tryz.ntmps110
    go_wp2
    go_ret
    have a : decide ((x : Int) ≤ 32) = false := by simp; omega
    have b : decide ((126 : Int) < (x : Int)) = decide (126 < x) := decide_eq_decide.2 (by omega)
    exact ⟨by simp only [a, b, Bool.false_or, Array.getD_eq_getD_getElem?, List.getElem?_toArray, List.getElem?_cons_succ, List.getElem?_cons_zero, Option.getD_some], rfl⟩
  · have h1 : decide (x ≤ 32) = true := by simp; omega
    have e : oddB x = true := by unfold oddB; rw [h1]; simp
    rw [e]
    go_enter Tryz.func110, Tryz.ntmps110
    go_wp2
    go_ret
    exact ⟨rfl, rfl⟩
theorem fname_ok (n : Name) (hn : n.length ≤ 9223372036854775807) (w : World) : Calls Tryz.prog 63 #[.string ⟨n.toArray⟩] w fun e w' => e = .returned (.bool (nameB n)) ∧ Fr (fun _ => False) w w' := by
  have HI := hide (Tryz.strings_IndexFunc_grows 110 #[] (fun args w => by kernel_rfl) oddB ⟨n.toArray⟩ w (fun W x hx hb => (odd_ok x hx W).mono fun e w' h => ⟨h.1, by rw [← h.2]; exact Below.refl _ _⟩))
  obtain ⟨z, hz⟩ : ∃ z, Lib.idxFunc oddB true ⟨n.toArray⟩ = z := ⟨_, rfl⟩
  have e0 : nameB n = ((decide (n ≠ []) && decide (n.length ≤ 8)) && decide (z < 0)) := by unfold nameB; rw [hz]
  rw [hz] at HI
  rw [e0]
  clear hz e0
  by_cases hne : n = []
  · subst hne
    go_enter Tryz.func63, Tryz.ntmps63
    go_wp2_with fail
    go_at_call 109
    refine HI.out.mono ?_
    rintro e w1 ⟨rfl, hf⟩
    have HF := hide (Fr.of_below hf (fun _ => False))
    clear hf
    go_wp2
    go_ret
    exact ⟨by simp, HF.out⟩
  by_cases h8 : n.length ≤ 8
  · have e1 : (decide (n ≠ []) && decide (n.length ≤ 8)) = true := by simp [hne, h8]
    have e2 : n.isEmpty = false := by simp [hne]
    have h8i : ((n.length : Nat) : Int) ≤ 8 := by omega
    rw [e1]
    go_enter Tryz.func63, Tryz.ntmps63
    go_wp2_with fail
    go_at_call 109
    refine HI.out.mono ?_
    rintro e w1 ⟨rfl, hf⟩
    have HF := hide (Fr.of_below hf (fun _ => False))
    clear hf
    go_wp2
    go_ret
    exact ⟨by simp [e2], HF.out⟩
  · have e1 : (decide (n ≠ []) && decide (n.length ≤ 8)) = false := by simp [h8]
    have e2 : n.isEmpty = false := by simp [hne]
    have h8i : ¬ ((n.length : Nat) : Int) ≤ 8 := by omega
    rw [e1]
    go_enter Tryz.func63, Tryz.ntmps63
    go_wp2_with fail
    go_at_call 109
    refine HI.out.mono ?_
    rintro e w1 ⟨rfl, hf⟩
    have HF := hide (Fr.of_below hf (fun _ => False))
    clear hf
    go_wp2
    go_ret
    exact ⟨by simp [e2], HF.out⟩
theorem wpred_ok (s : List UInt8) (h : s.length = 128) (w : World) : Calls Tryz.prog 96 #[.string ⟨s.toArray⟩] w fun e w' => e = .returned (.bool false) ∧ w = w' := by
  have HP := hide (fpage_ok s (by omega) w)
  have e : decide (s.length = 128) = true := by simp [h]
  rw [e] at HP
  go_enter Tryz.func96, Tryz.ntmps96
  go_wp2_with fail
  go_at_call 64
  refine HP.out.mono ?_
  rintro e w1 ⟨rfl, rfl⟩
  go_wp2
  go_ret
  exact ⟨rfl, rfl⟩
theorem idxf_ok (A : Option Addr) (n c B : Nat) (L : List (List UInt8)) (w : World) (h : Reads w B 1 A n (L.map strv)) (hn : n ≤ 100000) (hl : ∀ s ∈ L, s.length = 128) :
    Calls Tryz.prog 137 #[.slice A n c, .func (.func 96) #[] #[]] w fun e w' => e = .returned (.int .i64 (-1)) ∧ w = w' := by
  have H := hide h
  have HL := hide hl
  have HLN := hide (show L.length = n by have := h.1; simpa using this)
  clear h hl
  go_enter Tryz.func137, Tryz.ntmps137
  go_wp2
  go_loopw [8] (fun i wr => ∃ k : Nat, k ≤ n ∧ i = .int .i64 (k : Int) ∧ wr = w) (fun i _ => n - (intOf i).toNat)
  case atStart => exact ⟨0, by omega, rfl, rfl⟩
  case round =>
    obtain ⟨k, hk, rfl, rfl⟩ := hrel
    by_cases hlt : k < n
    · have lk : k < L.length := by rw [HLN.out]; exact hlt
      obtain ⟨b, o, rfl, hb, hc⟩ := H.out.2 (by omega)
      have hcc := hc k (strv L[k]) (by rw [List.getElem?_map, List.getElem?_eq_getElem lk]; rfl)
      have hs := HL.out _ (List.getElem_mem lk)
      unfold strv at hcc
      generalize L[k]'lk = x at *
      have HP := hide (wpred_ok x hs wr)
      have b0 : (0 : Int) ≤ (k : Int) := by omega
      have b1 : (k : Int) < (n : Int) := by omega
      clear hc
      go_wp2_with fail
      go_at_call 96
      refine HP.out.mono ?_
      rintro e w1 ⟨rfl, rfl⟩
      go_wp2
      go_roundw
      case rel => exact ⟨k + 1, by omega, by go_num, by first | rfl | trivial⟩
      case measure => simp [intOf]; omega
    · obtain rfl : k = n := by omega
      go_wp2
      go_ret
      exact ⟨rfl, rfl⟩
theorem contf_ok (A : Option Addr) (n c B : Nat) (L : List (List UInt8)) (w : World) (h : Reads w B 1 A n (L.map strv)) (hn : n ≤ 100000) (hl : ∀ s ∈ L, s.length = 128) :
    Calls Tryz.prog 95 #[.slice A n c, .func (.func 96) #[] #[]] w fun e w' => e = .returned (.bool false) ∧ w = w' := by
  have HI := hide (idxf_ok A n c B L w h hn hl)
  clear h hl
  go_enter Tryz.func95, Tryz.ntmps95
  go_wp2_with fail
  go_at_call 137
  refine HI.out.mono ?_
  rintro e w1 ⟨rfl, rfl⟩
  go_wp2
  go_ret
  exact ⟨rfl, rfl⟩
end Go.Proofs.YtkhbemmcegmdaaaGreatDoor
