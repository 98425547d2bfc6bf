/- SUMS, the program's and the reference's, by contract: the CRC-32 of a text. -/
import Derived.Test.YtkhbemmcegmdaaaGreatDoorBase
import Derived.Test.YtkhbemmcegmdaaaGreatDoorCrc
import Derived.Shelf.Spec.TrailingZeros
set_option linter.all false
set_option linter.unusedVariables false
set_option maxRecDepth 100000
namespace Go.Proofs.YtkhbemmcegmdaaaGreatDoor
open Go.RowKit

theorem bits_xor_u32_nat (a b : Nat) (ha : a < 4294967296) (hb : b < 4294967296) : bits .xor .u32 (a : Int) (b : Int) = ((a ^^^ b : Nat) : Int) := by
  have hx : a ^^^ b < 2 ^ 32 := Nat.xor_lt_two_pow (by omega) (by omega)
  have h1 : (BitVec.ofInt 32 (a : Int)).toNat = a := by
    rw [BitVec.ofInt_natCast, BitVec.toNat_ofNat]; exact Nat.mod_eq_of_lt (by omega)
  have h2 : (BitVec.ofInt 32 (b : Int)).toNat = b := by
    rw [BitVec.ofInt_natCast, BitVec.toNat_ofNat]; exact Nat.mod_eq_of_lt (by omega)
  show IntKind.u32.wrap ((BitVec.ofInt 32 (a : Int) ^^^ BitVec.ofInt 32 (b : Int)).toNat : Int) = _
  rw [BitVec.toNat_xor, h1, h2]
  simp [IntKind.wrap, IntKind.bits, IntKind.signed]
  omega

theorem up_any (r : Nat) (hr : r < 4294967296) (w : World) : Calls Tryz.prog 189 #[.int .u32 (r : Int)] w fun e w' => e = .returned (.int .u32 ((Crc.up r : Nat) : Int)) ∧ w = w' := by
  have e2 : bits .xor .u32 ((r : Int) / 2) (3988292384 * ((r : Int) % 2)) = ((Crc.up r : Nat) : Int) := by
    have := bits_xor_u32_nat (r / 2) (if r % 2 = 1 then 3988292384 else 0) (by omega) (by split <;> omega)
    unfold Crc.up
    rw [← this]
    congr 1
    split <;> omega
  have e1 : bits .and .u32 (r : Int) 1 = ((r % 2 : Nat) : Int) := by
    have := bits_and_u32_nat r 1 hr (by omega)
    rw [show r &&& 1 = r % 2 from Nat.and_one_is_mod r] at this
    exact this
  go_enter Tryz.func189, Tryz.ntmps189
  go_wp2
  go_ret
  exact ⟨rfl, rfl⟩

/-- k steps -/
def ups (r : Nat) : Nat → Nat
  | 0 => r
  | k + 1 => Crc.up (ups r k)
theorem ups_lt {r : Nat} (h : r < 4294967296) : ∀ k, ups r k < 4294967296
  | 0 => h
  | k + 1 => Crc.up_lt (ups_lt h k)
theorem in_any (r c : Nat) (hr : r < 4294967296) (hc : c < 256) (w : World) : Calls Tryz.prog 166 #[.int .u32 (r : Int), .int .u8 (c : Int)] w fun e w' => e = .returned (.int .u32 ((Crc.inn r c : Nat) : Int)) ∧ w = w' := by
  have e1 := bits_xor_u32_nat r c hr (by omega)
  have hx : r ^^^ c < 4294967296 := Nat.xor_lt_two_pow (n := 32) (by omega) (by omega)
  go_enter Tryz.func166, Tryz.ntmps166
  go_wp2
  go_loop [0, 9] (fun r' k => ∃ j : Nat, j ≤ 8 ∧ k = .int .i64 j ∧ r' = .int .u32 ((ups (r ^^^ c) j : Nat) : Int)) (fun _ k => 8 - (intOf k).toNat)
  case atStart => exact ⟨0, by omega, rfl, rfl⟩
  case round =>
    obtain ⟨j, hj, rfl, rfl⟩ := hrel
    have hl := ups_lt hx j
    by_cases hlt : j < 8
    · go_wp2_with (go_at_call 189; refine (up_any _ hl _).mono ?_; rintro e w' ⟨rfl, rfl⟩)
      go_round
      case rel => exact ⟨j + 1, by omega, by go_num, rfl⟩
      case measure => simp [intOf]; omega
    · obtain rfl : j = 8 := by omega
      go_wp2
      go_ret
      exact ⟨rfl, rfl⟩

def nats (s : ByteArray) : List Nat := s.data.toList.map UInt8.toNat
theorem nats_lt (s : ByteArray) : ∀ c ∈ nats s, c < 256 := by
  intro c hc
  obtain ⟨x, _, rfl⟩ := List.mem_map.1 hc
  exact x.toNat_lt
theorem goes_take (s : ByteArray) (r k : Nat) (h : k < s.size) : Crc.goes r ((nats s).take (k + 1)) = Crc.inn (Crc.goes r ((nats s).take k)) s[k].toNat := by
  have hk : k < (nats s).length := by simpa [nats] using h
  rw [List.take_succ_eq_append_getElem hk, Crc.goes_append]
  simp [Crc.goes, nats]
  rfl
theorem goes_take_lt (s : ByteArray) (r k : Nat) (h : r < 4294967296) : Crc.goes r ((nats s).take k) < 4294967296 := Crc.goes_lt h (fun c hc => nats_lt s c (List.mem_of_mem_take hc))
theorem goes_all (s : ByteArray) (r : Nat) : Crc.goes r ((nats s).take s.size) = Crc.goes r (nats s) := by
  rw [List.take_of_length_le (by simp [nats])]
def sumN (l : List Nat) : Nat := 4294967295 ^^^ Crc.goes 4294967295 l
theorem sumN_lt {l : List Nat} (h : ∀ c ∈ l, c < 256) : sumN l < 4294967296 := Nat.xor_lt_two_pow (n := 32) (by omega) (Crc.goes_lt (by omega) h)
theorem not32 (z : Nat) (h : z < 4294967296) : bits .xor .u32 IntKind.u32.max (z : Int) = ((4294967295 ^^^ z : Nat) : Int) := bits_xor_u32_nat 4294967295 z (by omega) h
theorem not32_0 : bits .xor .u32 IntKind.u32.max 0 = 4294967295 := by decide +kernel
theorem more_any (s : ByteArray) (hs : s.size ≤ 9223372036854775807) (w : World) : Calls Tryz.prog 146 #[.int .u32 0, .string s] w fun e w' => e = .returned (.int .u32 ((sumN (nats s) : Nat) : Int)) ∧ w = w' := by
  have h0 := not32_0
  go_enter Tryz.func146, Tryz.ntmps146
  go_wp2
  go_loop [5, 11] (fun r i => ∃ k : Nat, k ≤ s.size ∧ i = .int .i64 k ∧ r = .int .u32 ((Crc.goes 4294967295 ((nats s).take k) : Nat) : Int)) (fun _ i => s.size - (intOf i).toNat)
  case atStart => exact ⟨0, by omega, rfl, rfl⟩
  case round =>
    obtain ⟨k, hk, rfl, rfl⟩ := hrel
    have hl := goes_take_lt s 4294967295 k (by omega)
    by_cases hlt : k < s.size
    · have hb := s[k].toNat_lt
      have HT := hide (goes_take s 4294967295 k hlt)
      generalize Crc.goes 4294967295 ((nats s).take k) = z at *
      go_wp2_with (go_at_call 166; refine (in_any _ _ hl (by omega) _).mono ?_; rintro e w' ⟨rfl, rfl⟩)
      go_round
      case rel => exact ⟨k + 1, by omega, by go_num, by rw [HT.out]⟩
      case measure => simp [intOf]; omega
    · obtain rfl : k = s.size := by omega
      have HN := hide (not32 _ hl)
      have HA := hide (goes_all s 4294967295)
      go_wp2
      go_ret
      exact ⟨by rw [HN.out, HA.out]; rfl, rfl⟩
theorem sum_any (s : ByteArray) (hs : s.size ≤ 9223372036854775807) (w : World) : Calls Tryz.prog 108 #[.string s] w fun e w' => e = .returned (.int .u32 ((sumN (nats s) : Nat) : Int)) ∧ w = w' := by
  go_enter Tryz.func108, Tryz.ntmps108
  go_wp2_with (go_at_call 146; refine (more_any _ hs _).mono ?_; rintro e w' ⟨rfl, rfl⟩)
  go_ret
  exact ⟨rfl, rfl⟩

theorem goes_any (r : Nat) (s : ByteArray) (hr : r < 4294967296) (hs : s.size ≤ 9223372036854775807) (w : World) : Calls Tryz.prog 167 #[.int .u32 (r : Int), .string s] w fun e w' => e = .returned (.int .u32 ((Crc.goes r (nats s) : Nat) : Int)) ∧ w = w' := by
  go_enter Tryz.func167, Tryz.ntmps167
  go_wp2
  go_loop [0, 5] (fun r' i => ∃ k : Nat, k ≤ s.size ∧ i = .int .i64 k ∧ r' = .int .u32 ((Crc.goes r ((nats s).take k) : Nat) : Int)) (fun _ i => s.size - (intOf i).toNat)
  case atStart => exact ⟨0, by omega, rfl, rfl⟩
  case round =>
    obtain ⟨k, hk, rfl, rfl⟩ := hrel
    have hl := goes_take_lt s r k hr
    by_cases hlt : k < s.size
    · have hb := s[k].toNat_lt
      have HT := hide (goes_take s r k hlt)
      generalize Crc.goes r ((nats s).take k) = z at *
      have e1 := bits_xor_u32_nat z s[k].toNat hl (by omega)
      have hx : z ^^^ s[k].toNat < 4294967296 := Nat.xor_lt_two_pow (n := 32) (by omega) (by omega)
      change Hid (_ = ups (z ^^^ s[k].toNat) 8) at HT
      generalize z ^^^ s[k].toNat = y at *
      go_wp2
      go_loop [0, 6] (fun r' i => ∃ j : Nat, j ≤ 8 ∧ i = .int .i64 j ∧ r' = .int .u32 ((ups y j : Nat) : Int)) (fun _ i => 8 - (intOf i).toNat)
      case atStart => exact ⟨0, by omega, rfl, rfl⟩
      case round =>
        obtain ⟨j, hj, rfl, rfl⟩ := hrel
        by_cases hlt2 : j < 8
        · have hu := ups_lt hx j
          have HU : Hid (ups y (j + 1) = Crc.up (ups y j)) := rfl
          generalize ups y j = x at *
          have HV : Hid (bits .xor .u32 ((x : Int) / 2) 3988292384 = ((x / 2 ^^^ 3988292384 : Nat) : Int)) := bits_xor_u32_nat (x / 2) 3988292384 (by omega) (by omega)
          have e1 : bits .and .u32 (x : Int) 1 = ((x % 2 : Nat) : Int) := by
            have := bits_and_u32_nat x 1 hu (by omega)
            rw [show x &&& 1 = x % 2 from Nat.and_one_is_mod x] at this
            exact this
          by_cases hodd : x % 2 = 1
          · have ho : (((x : Int) % 2) == 1) = true := by simp; omega
            have HE : Hid (Crc.up x = x / 2 ^^^ 3988292384) := by simp [Hid, Crc.up, hodd]
            clear hodd
            go_wp2
            go_round
            case rel => exact ⟨j + 1, by omega, by go_num, by rw [HU.out, HE.out]; exact congrArg (Value.int .u32) HV.out⟩
            case measure => simp [intOf]; omega
          · have ho : (((x : Int) % 2) == 1) = false := by simp; omega
            have HE : Hid (Crc.up x = x / 2) := by simp [Hid, Crc.up, hodd]
            clear hodd
            go_wp2
            go_round
            case rel => exact ⟨j + 1, by omega, by go_num, by rw [HU.out, HE.out]; go_num⟩
            case measure => simp [intOf]; omega
        · obtain rfl : j = 8 := by omega
          go_wp2
          go_round
          case rel => exact ⟨k + 1, by omega, by go_num, by rw [HT.out]⟩
          case measure => simp [intOf]; omega
    · obtain rfl : k = s.size := by omega
      have HA := hide (goes_all s r)
      go_wp2
      go_ret
      exact ⟨by rw [HA.out]; rfl, rfl⟩
theorem rsum_any (s : ByteArray) (hs : s.size ≤ 9223372036854775807) (w : World) : Calls Tryz.prog 148 #[.string s] w fun e w' => e = .returned (.int .u32 ((sumN (nats s) : Nat) : Int)) ∧ w = w' := by
  have hl : Crc.goes 4294967295 (nats s) < 4294967296 := Crc.goes_lt (by omega) (nats_lt s)
  have HG := hide (goes_any 4294967295 s (by omega) hs w)
  have HN := hide (not32 _ hl)
  go_enter Tryz.func148, Tryz.ntmps148
  go_wp2_with (go_at_call 167; refine HG.out.mono ?_; rintro e w' ⟨rfl, rfl⟩)
  go_ret
  exact ⟨by rw [HN.out]; rfl, rfl⟩
end Go.Proofs.YtkhbemmcegmdaaaGreatDoor
