/- THE CODE OF SEGMENTS: contracts of Encode, Decode, Count, and of the document's. -/
import Derived.Test.YtneihcoepacadaaVec
import Derived.Test.YtneihcoepacadaaVecPlain
import Derived.Laws.CopyOwn
set_option linter.unusedVariables false
namespace Go.Proofs.Ytneihcoepacadaa
open Go.RowKit

theorem u8_info : (Try.prog.info? 5).map (fun i => (i.zero, i.size, i.bytes)) = some (some (.int .u8 0), 1, 1) := by kernel_rfl

theorem enc_step {m x : Nat} {bs full : List UInt8} (h0 : 0 < m) (h : bs ++ encW m x = full) : (bs ++ [UInt8.ofNat (x / 256 ^ (m - 1))]) ++ encW (m - 1) x = full := by
  obtain ⟨k, rfl⟩ : ∃ k, m = k + 1 := ⟨m - 1, by omega⟩
  rw [encW_left] at h
  simpa using h

theorem pad_lo {xs : List Nat} {k m : Nat} (h : k < xs.length) : (xs ++ List.replicate m 0).getD k 0 = xs.getD k 0 := by
  simp [List.getD, List.getElem?_append_left h]
theorem pad_hi {xs : List Nat} {k m : Nat} (h : xs.length ≤ k) : (xs ++ List.replicate m 0).getD k 0 = 0 := by
  simp only [List.getD, List.getElem?_append_right h, List.getElem?_replicate]
  split <;> rfl
theorem size_one_append (c : UInt8) (q : ByteArray) : ((⟨#[c]⟩ : ByteArray) ++ q).size = q.size + 1 := by
  rw [ByteArray.size_append]
  show 1 + q.size = _
  omega
theorem renc_step {z x m : Nat} {q : ByteArray} (h : z = x / 256 ^ m ∧ q = ⟨(encW m x).toArray⟩) : z / 256 = x / 256 ^ (m + 1) ∧ (⟨#[UInt8.ofNat (((z : Nat) : Int) % 256).toNat]⟩ : ByteArray) ++ q = ⟨(encW (m + 1) x).toArray⟩ := by
  obtain ⟨rfl, rfl⟩ := h
  refine ⟨by rw [Nat.div_div_eq_div_mul, Nat.pow_succ], ?_⟩
  rw [encW_left]
  have e : UInt8.ofNat (((x / 256 ^ m : Nat) : Int) % 256).toNat = UInt8.ofNat (x / 256 ^ m) := by
    generalize x / 256 ^ m = y
    apply UInt8.toNat.inj
    simp
    omega
  rw [e]
  have := bytes_append [UInt8.ofNat (x / 256 ^ m)] (encW m x)
  simpa using this

def u8v (c : UInt8) : Value := .int .u8 (c.toNat : Int)

theorem enc_digit (x k : Nat) : u8v (UInt8.ofNat (x / 256 ^ k)) = .int .u8 ((x : Int) / 2 ^ (8 * k) % 256) := by
  unfold u8v
  congr 1
  rw [Int.pow_mul]
  simp

theorem own_bytes {w : World} {base n : Nat} {v : Value} {l : List UInt8} (h : w.ownsRow base 5 1 v n (l.map u8v)) (h0 : 0 < n) :
    ∃ g cap, v = .slice (some ⟨g, 0, none⟩) n cap ∧ ∀ j (hj : j < l.length), w.cell? ((⟨g, 0, none⟩ : Addr).add j) = some (.int .u8 (l[j].toNat : Int)) := by
  rcases h.2 with ⟨_, h1⟩ | ⟨g, cap, cur, rfl, _, hh, _, _, _, ht⟩
  · omega
  · refine ⟨g, cap, rfl, fun j hj => ?_⟩
    exact h.cells (g := g) rfl j _ (by simp [hj, u8v])

/-- how many segments n numbers take -/
def cnt (n : Int) : Int := if n < 1 then 0 else (n - 1) / 8 + 1
theorem count_any (n : Int) (w : World) (h0 : -9223372036854775808 ≤ n) (h1 : n ≤ 9223372036854775807) : Calls Try.prog 19 #[.int .i64 n] w fun e w' => e = .returned (.int .i64 (cnt n)) ∧ w = w' := by
  unfold cnt
  go_enter Try.func19, Try.ntmps19
  go_wp2
  all_goals (go_ret; exact ⟨rfl, rfl⟩)


theorem encode_long (A : Option Addr) (n c : Nat) (w : World) (hn : 8 < n) :
    Calls Try.prog 14 #[.slice A n c] w fun e w' => e = .returned (.tuple #[.string ⟨#[]⟩, .int .i64 3]) ∧ w = w' := by
  go_enter Try.func14, Try.ntmps14
  go_wp2
  go_ret2
  exact ⟨rfl, rfl⟩
theorem rencode_long (A : Option Addr) (n c : Nat) (w : World) (hn : 8 < n) :
    Calls Try.prog 15 #[.slice A n c] w fun e w' => e = .returned (.tuple #[.string ⟨#[]⟩, .int .i64 3]) ∧ w = w' := by
  go_enter Try.func15, Try.ntmps15
  go_wp2
  go_ret2
  exact ⟨rfl, rfl⟩
theorem rencode_any (A : Option Addr) (n c : Nat) (xs : List Nat) (w : World) (hr : Reads w w.heap.size 1 A n (xs.map u64v)) (hx64 : ∀ x ∈ xs, x < 18446744073709551616) (hn : n ≤ 8) :
    Calls Try.prog 15 #[.slice A n c] w fun e w' => e = .returned (.tuple #[.string ⟨((xs ++ List.replicate (8 - n) 0).flatMap (encW 8)).toArray⟩, .int .i64 0]) ∧ Fr (fun _ => False) w w' := by
  obtain ⟨ys, hys⟩ : ∃ ys, ys = xs ++ List.replicate (8 - n) 0 := ⟨_, rfl⟩
  have hxl : xs.length = n := by have := hr.1; simpa using this
  have hl : ys.length = 8 := by simp [hys, hxl]; omega
  rw [← hys]
  have HY := hide hys
  have HXL := hide hxl
  have HL := hide hl
  clear hys hxl hl
  go_enter Try.func15, Try.ntmps15
  go_wp2
  go_loopw [4, 5] (fun v i wr => ∃ (k : Nat) (s : ByteArray), k ≤ 8 ∧ i = .int .i64 k ∧ v = .string s ∧ s.size ≤ 8 * k ∧ Hid (s = ⟨((ys.take k).flatMap (encW 8)).toArray⟩) ∧ Fr (fun _ => False) w wr) (fun _ i _ => 8 - (intOf i).toNat)
  case atStart => exact ⟨0, ⟨#[]⟩, by omega, rfl, rfl, by simp [ByteArray.size], hide rfl, Fr.refl _ _⟩
  case round =>
    obtain ⟨k, s, hk, rfl, rfl, hs, HS, hfr⟩ := hrel
    by_cases hlt8 : k < 8
    · have hdk : decide ((k : Int) < 8) = true := by simp; omega
      by_cases hkn : k < n
      · obtain ⟨b, o, u, rfl, hb, hu, hc0⟩ := hr.at_ hkn
        have hxl : k < xs.length := by rw [HXL.out]; exact hkn
        have hyx : ys.getD k 0 = xs[k] := by rw [HY.out, pad_lo hxl]; simp [hxl]
        have hx64' := hx64 _ (List.getElem_mem hxl)
        obtain ⟨x, hx⟩ : ∃ x, x = ys.getD k 0 := ⟨_, rfl⟩
        have hxlt : x < 18446744073709551616 := by rw [hx, hyx]; exact hx64'
        obtain rfl : u = .int .u64 x := by
          rw [hx, hyx]
          simp [hxl, u64v] at hu
          exact hu.symm
        have hc := hfr.cell hc0 (fun h => h)
        have HX := hide hx
        clear hx hc0 hu hyx hx64' hxl hx64 hr
        go_wp2
        go_loopw [6, 7, 8] (fun y t i wq => ∃ (m : Nat) (z : Nat) (q : ByteArray), m ≤ 8 ∧ i = .int .i64 m ∧ y = .int .u64 z ∧ z < 18446744073709551616 ∧ t = .string q ∧ q.size ≤ m ∧ Hid (z = x / 256 ^ m ∧ q = ⟨(encW m x).toArray⟩) ∧ Fr (fun _ => False) w wq) (fun _ _ i _ => 8 - (intOf i).toNat)
        case atStart => exact ⟨0, _, ⟨#[]⟩, by omega, rfl, rfl, hxlt, rfl, by simp [ByteArray.size], hide ⟨by simp, rfl⟩, hfr⟩
        case round =>
          obtain ⟨m, z, q, hm, rfl, rfl, hz, rfl, hq, HQ, hfr2⟩ := hrel
          by_cases hm8 : m < 8
          · have hcv := run_str1 (P := Try.prog) wr 55 9 5 5 ((z : Int) % 256) (by omega) (by omega) Try.underlying55 Try.underlying5 Try.underlying9
            clear hfr
            go_wp2
            go_roundw
            case rel => exact ⟨m + 1, z / 256, _, by omega, by go_num, by simp, by omega, rfl, by rw [size_one_append]; omega, renc_step HQ.out, (hfr2.alloc _)⟩
            case measure => simp [intOf]; omega
          · obtain rfl : m = 8 := by omega
            have hs2 : Hid (s ++ q = ⟨((ys.take (k + 1)).flatMap (encW 8)).toArray⟩) := by
              have h1 := HS.out
              have h2 := HQ.out.2
              refine hide ?_
              rw [List.take_succ_eq_append_getElem (by rw [HL.out]; omega), List.flatMap_append, ← bytes_append, ← h1, h2, HX.out]
              simp [show k < ys.length by rw [HL.out]; omega]
            clear hfr
            go_wp2
            go_roundw
            case rel => exact ⟨k + 1, _, by omega, by go_num, rfl, by simp [ByteArray.size_append]; omega, hs2, hfr2⟩
            case measure => simp [intOf]; omega
      · obtain ⟨x, hx⟩ : ∃ x, x = ys.getD k 0 := ⟨_, rfl⟩
        obtain rfl : x = 0 := by
          rw [hx, HY.out, pad_hi (by rw [HXL.out]; omega)]
        have hxlt : 0 < 18446744073709551616 := by omega
        have HX := hide hx
        clear hx hx64 hr
        go_wp2
        go_loopw [6, 7, 8] (fun y t i wq => ∃ (m : Nat) (z : Nat) (q : ByteArray), m ≤ 8 ∧ i = .int .i64 m ∧ y = .int .u64 z ∧ z < 18446744073709551616 ∧ t = .string q ∧ q.size ≤ m ∧ Hid (z = 0 / 256 ^ m ∧ q = ⟨(encW m 0).toArray⟩) ∧ Fr (fun _ => False) w wq) (fun _ _ i _ => 8 - (intOf i).toNat)
        case atStart => exact ⟨0, _, ⟨#[]⟩, by omega, rfl, rfl, hxlt, rfl, by simp [ByteArray.size], hide ⟨by simp, rfl⟩, hfr⟩
        case round =>
          obtain ⟨m, z, q, hm, rfl, rfl, hz, rfl, hq, HQ, hfr2⟩ := hrel
          by_cases hm8 : m < 8
          · have hcv := run_str1 (P := Try.prog) wr 55 9 5 5 ((z : Int) % 256) (by omega) (by omega) Try.underlying55 Try.underlying5 Try.underlying9
            clear hfr
            go_wp2
            go_roundw
            case rel => exact ⟨m + 1, z / 256, _, by omega, by go_num, by simp, by omega, rfl, by rw [size_one_append]; omega, renc_step HQ.out, (hfr2.alloc _)⟩
            case measure => simp [intOf]; omega
          · obtain rfl : m = 8 := by omega
            have hs2 : Hid (s ++ q = ⟨((ys.take (k + 1)).flatMap (encW 8)).toArray⟩) := by
              have h1 := HS.out
              have h2 := HQ.out.2
              refine hide ?_
              rw [List.take_succ_eq_append_getElem (by rw [HL.out]; omega), List.flatMap_append, ← bytes_append, ← h1, h2, HX.out]
              simp [show k < ys.length by rw [HL.out]; omega]
            clear hfr
            go_wp2
            go_roundw
            case rel => exact ⟨k + 1, _, by omega, by go_num, rfl, by simp [ByteArray.size_append]; omega, hs2, hfr2⟩
            case measure => simp [intOf]; omega
    · obtain rfl : k = 8 := by omega
      have h := HS.out
      rw [List.take_of_length_le (by rw [HL.out]; omega)] at h
      have HS' := hide h
      clear h hr hx64
      go_wp2
      go_ret2
      exact ⟨by rw [HS'.out]; rfl, hfr⟩
theorem encode_any (A : Option Addr) (n c : Nat) (xs : List Nat) (w : World) (hr : Reads w w.heap.size 1 A n (xs.map u64v)) (hn : n ≤ 8) :
    Calls Try.prog 14 #[.slice A n c] w fun e w' => e = .returned (.tuple #[.string ⟨((xs ++ List.replicate (8 - n) 0).flatMap (encW 8)).toArray⟩, .int .i64 0]) ∧ Fr (fun _ => False) w w' := by
  obtain ⟨ys, hys⟩ : ∃ ys, ys = xs ++ List.replicate (8 - n) 0 := ⟨_, rfl⟩
  have HY := hide hys
  have hl : ys.length = 8 := by have := hr.1; simp at this; simp [hys, this]; omega
  rw [← hys]
  clear hys
  obtain ⟨cs, hcs⟩ : ∃ cs, cs = xs.map u64v := ⟨_, rfl⟩
  rw [← hcs] at hr
  have HC := hide hcs
  clear hcs
  obtain ⟨i64, hi64, hz640, hz641, hz642⟩ := info_parts u64_info
  obtain ⟨i8, hi8', hz80, hz81, hz82⟩ := info_parts u8_info
  have hmk : ∀ w, (Instr.makeSlice 55 (.int .i64 0) (.int .i64 64)).run Try.prog w = .ok (.slice (some ⟨w.heap.size, 0, none⟩) 0 64) (w.alloc (.cells (madeCells #[.int .u8 0] 64) 5)) := fun _ => by kernel_rfl
  go_enter Try.func14, Try.ntmps14
  go_wp2_with (with_reducible refine wpList_copy_splice rfl (.tmp 12) (.tmp 13) _ _ rfl 29 Try.underlying38 (by kernel_rfl) _ _ 8 8 n c rfl rfl w.heap.size 0 (List.replicate 8 (.int .u64 0)) 49 ?c1 cs ?c2 ?c3 ?c4 ?c5 w.heap.size w ?c6 (Nat.le_refl _) ?c7)
  case c1 => exact heap_alloc_new w _
  case c2 => have := hr.1; simp [Nat.min_def, hn]; omega
  case c3 =>
    intro hp
    obtain ⟨b, o, rfl, hb, hc⟩ := hr.2 (by have := hr.1; omega)
    refine ⟨_, rfl, fun j v hj => ?_⟩
    rw [Addr.add_lit]
    exact (World.cell?_alloc_past _ _ _ hb).trans (hc j v hj)
  case c4 => have := hr.1; simp; omega
  case c5 => rw [HC.out]; intro v hv; obtain ⟨x, _, rfl⟩ := List.mem_map.1 hv; rfl
  case c6 => exact (Below.refl _ _).alloc (Nat.le_refl _) _
  case c7 =>
    intro w1 hrow hb1
    have hrow1 : Blk w1 w.heap.size 49 (ys.map u64v).toArray := by
      have h := hrow.out
      have e : Go.splice (List.replicate 8 (Value.int .u64 0)) 0 cs = ys.map u64v := by
        have h1 := hr.1
        rw [HC.out] at h1
        rw [HY.out, HC.out]
        simp only [List.length_map, Nat.mul_one] at h1
        have e8 : ∀ n, n ≤ 8 → List.drop n [Value.int .u64 0, .int .u64 0, .int .u64 0, .int .u64 0, .int .u64 0, .int .u64 0, .int .u64 0, .int .u64 0] = List.replicate (8 - n) (.int .u64 0) := fun n hn => by
          match n, hn with
          | 0, _ | 1, _ | 2, _ | 3, _ | 4, _ | 5, _ | 6, _ | 7, _ | 8, _ => rfl
          | n + 9, h => omega
        simp [Go.splice, u64v, h1, e8 n hn]
      have e9 : List.replicate 8 (Value.int .u64 0) = [Value.int .u64 0, .int .u64 0, .int .u64 0, .int .u64 0, .int .u64 0, .int .u64 0, .int .u64 0, .int .u64 0] := rfl
      rw [e9] at e
      rw [e] at h
      exact h
    clear hrow
    have hsz := hb1.size
    have hlt : w.heap.size < w1.heap.size := hrow1.lt
    have hrow2 := hrow1.alloc (.cells (madeCells #[.int .u8 0] 64) 5)
    have hown := World.ownsRow_made (base := w.heap.size) (e := 5) (size := 1) w1 (madeCells #[.int .u8 0] 64) 64 hsz (by unfold maxLen; omega) (by simp [madeCells])
    have hi8 : (Try.prog.info? 49).map (·.size) = some (ys.map u64v).toArray.size := by
      rw [show (ys.map u64v).toArray.size = 8 by simp [hl]]
      kernel_rfl
    go_wp2_with (with_reducible refine wpList_load_row rfl 49 (.tmp 4) rfl w.heap.size rfl _ _ _ _ hrow2.raw Try.underlying49 rfl hi8 ?_)
    go_loopw [5, 17] (fun v i wr => ∃ k : Nat, k ≤ 8 ∧ i = .int .i64 k ∧ wr.ownsRow w.heap.size 5 1 v (8 * k) (((ys.take k).flatMap (encW 8)).map u8v) ∧ Fr (fun _ => False) w wr) (fun _ i _ => 8 - (intOf i).toNat)
    case atStart => exact ⟨0, by omega, rfl, by simpa using hown, (Fr.of_below hb1 _).alloc _⟩
    case round =>
      obtain ⟨k, hk, rfl, hown1, hfr⟩ := hrel
      by_cases hlt8 : k < 8
      · have hidx := run_index_arr (P := Try.prog) wr 49 29 8 .u64 .i64 i64 (ys.map u64v).toArray k (.int .u64 (ys.getD k 0 : Nat)) Try.underlying49 Try.underlying29 hi64 hz641 hlt8 (by simp [show k < ys.length by omega, u64v])
        have hxe : ys.getD k 0 = ys[k]'(by omega) := by simp [show k < ys.length by omega]
        obtain ⟨x, hx⟩ : ∃ x, x = ys.getD k 0 := ⟨_, rfl⟩
        rw [← hx] at hidx
        have HX := hide hx
        have HE := hide hxe
        clear hx hxe
        have hlen : (((ys.take k).flatMap (encW 8)).map u8v).length = 8 * k := hown1.1.trans (by omega)
        obtain ⟨pre, hpre⟩ : ∃ pre, pre = (ys.take k).flatMap (encW 8) := ⟨_, rfl⟩
        rw [← hpre] at hown1 hlen
        have HP := hide hpre
        clear hpre
        have hpl : pre.length = 8 * k := by simpa using hlen
        have HPL := hide hpl
        clear hpl hlen
        clear hown hrow1 hrow2
        have hdk : decide ((k : Int) < 8) = true := by simp; omega
        go_wp2
        go_loopw [5, 8] (fun v i wq => ∃ (m : Nat) (bs : List UInt8), m ≤ 8 ∧ i = .int .i64 ((m : Int) - 1) ∧ wq.ownsRow w.heap.size 5 1 v (8 * k + (8 - m)) (bs.map u8v) ∧ Hid (bs ++ encW m x = pre ++ encW 8 x) ∧ Fr (fun _ => False) w wq) (fun _ i _ => (intOf i + 1).toNat)
        case atStart => exact ⟨8, pre, by omega, by simp, by simpa using hown1, hide rfl, hfr⟩
        case round =>
          obtain ⟨m, bs, hm, rfl, hown2, HB, hfr2⟩ := hrel
          clear hown1 hfr
          by_cases hm0 : 0 < m
          · go_wp2_with (at_builtin; refine wpList_append_box wr _ _ rfl (.tmp 24) (.tmp 30) _ rfl w.heap.size 5 i8 _ 1 1 Try.underlying55 hi8' hz80 hz81 hz82 rfl (by decide) _ _ _ rfl hown2 rfl rfl ?c1 ?c2 ?c3 ?c4 ?c5)
            case c1 => rfl
            case c2 => unfold maxLen; omega
            case c3 => omega
            case c4 => exact hfr2.size
            case c5 =>
              intro v' w2 hown3 hg _
              have R := enc_step hm0 HB.out
              have hfr3 := hfr2.grown hg (fun k hk => .inr ((hown2.lt k hk).1))
              have hown4 : w2.ownsRow w.heap.size 5 1 v' (8 * k + (8 - (m - 1))) ((bs ++ [UInt8.ofNat (x / 256 ^ (m - 1))]).map u8v) := by
                rw [show 8 * k + (8 - (m - 1)) = 8 * k + (8 - m) + 1 by omega, List.map_append, List.map_singleton, enc_digit x (m - 1)]
                exact hown3
              have R' := hide R
              clear R hown3 hg hown2 hfr2
              go_wp2
              go_roundw
              case rel => exact ⟨m - 1, _, by omega, by rw [show ((m - 1 : Nat) : Int) = (m : Int) - 1 by omega], hown4, R', hfr3⟩
              case measure => simp [intOf]; omega
          · obtain rfl : m = 0 := by omega
            have hown3 : wr.ownsRow w.heap.size 5 1 u5 (8 * (k + 1)) (((ys.take (k + 1)).flatMap (encW 8)).map u8v) := by
              have h := HB.out
              rw [show encW 0 x = [] from rfl, List.append_nil] at h
              have e : (ys.take (k + 1)).flatMap (encW 8) = pre ++ encW 8 x := by
                rw [List.take_succ_eq_append_getElem (by omega), List.flatMap_append, ← HP.out, HX.out, HE.out]
                simp
              rw [e, ← h]
              exact hown2
            go_wp2
            go_roundw
            case rel => exact ⟨k + 1, by omega, by go_num, hown3, hfr2⟩
            case measure => simp [intOf]; omega
      · obtain rfl : k = 8 := by omega
        have hys8 : ys.take 8 = ys := List.take_of_length_le (by omega)
        rw [hys8] at hown1
        obtain ⟨g, cap, rfl, hgc⟩ := own_bytes hown1 (by omega)
        have hlen := hown1.1
        rw [List.length_map, Nat.mul_one] at hlen
        have hcv := run_convert_bytes_back (P := Try.prog) wr 55 9 5 ⟨g, 0, none⟩ cap (ys.flatMap (encW 8)) Try.underlying55 Try.underlying5 Try.underlying9 hgc
        rw [hlen] at hcv
        have HF := hide hfr
        clear hown1 hys8 hlen hfr hgc
        go_wp2
        go_ret2
        exact ⟨rfl, HF.out⟩
theorem or_byte (x c : Nat) (hx : x < 72057594037927936) (hc : c < 256) :
    bits .or .u64 (IntKind.u64.wrap ((x : Int) * 256)) (IntKind.u64.wrap (c : Int)) = ((x * 256 + c : Nat) : Int) := by
  have e1 : IntKind.u64.wrap ((x : Int) * 256) = ((x * 256 : Nat) : Int) := by rw [IntKind.wrap_u64]; omega
  have e2 : IntKind.u64.wrap (c : Int) = ((c : Nat) : Int) := by rw [IntKind.wrap_u64]; omega
  rw [e1, e2, u64_or_nat _ _ (by omega) (by omega)]
  congr 1
  have h := Nat.two_pow_add_eq_or_of_lt (i := 8) (b := c) (by omega) x
  rw [Nat.mul_comm x 256]
  exact h.symm
theorem add_byte2 (x c : Nat) (hx : x < 72057594037927936) (hc : c < 256) :
    IntKind.u64.wrap (IntKind.u64.wrap (256 * (x : Int)) + IntKind.u64.wrap (c : Int)) = ((x * 256 + c : Nat) : Int) := by simp only [IntKind.wrap_u64]; omega

theorem dec_zero : madeCells #[.int .u64 0] 8 = ((decs []).map u64v).toArray := by rw [madeCells_one]; rfl
theorem dec_row {w : World} {g k x : Nat} {s : ByteArray} {L : List Nat} {v : Value} (hk : k < s.size) (h64 : s.size ≤ 64) (hrow : Blk w g 29 (L.map u64v).toArray) (hL : L = decs (s.data.toList.take k))
    (hx : x = L.getD (k / 8) 0) (hv : v = .int .u64 ((x * 256 + s[k].toNat : Nat) : Int)) :
    Blk (w.setCell ⟨g, k / 8, none⟩ v) g 29 ((decs (s.data.toList.take (k + 1))).map u64v).toArray := by
  have hk' : k < s.data.toList.length := by rw [Array.length_toList]; exact hk
  have h := hrow.set_ (k / 8) v
  have e : s.data.toList.take (k + 1) = s.data.toList.take k ++ [s[k]] := by
    rw [List.take_succ_eq_append_getElem hk']; rfl
  have hl : (s.data.toList.take k).length = k := by rw [List.length_take]; omega
  have h2 := decs_snoc (s.data.toList.take k) s[k] (by omega)
  rw [hl] at h2
  rw [e, h2, ← hL, ← hx, List.map_set]
  simpa [hv, u64v] using h
theorem dec_part {k x : Nat} {s : ByteArray} {L : List Nat} (hk : k < s.size) (h64 : s.size ≤ 64) (hL : L = decs (s.data.toList.take k)) (hx : x = L.getD (k / 8) 0) : x < 72057594037927936 := by
  have hk' : k < s.data.toList.length := by rw [Array.length_toList]; exact hk
  have hl : (s.data.toList.take k).length = k := by rw [List.length_take]; omega
  have h := decs_part_lt (s.data.toList.take k) (by omega)
  rw [hl, ← hL, ← hx] at h
  exact h

theorem decode_any (s : ByteArray) (w : World) (hs : s.size = 64) :
    Calls Try.prog 16 #[.string s] w fun e w' => ∃ g, e = .returned (.tuple #[.slice (some ⟨g, 0, none⟩) 8 8, .int .i64 0]) ∧ w.heap.size ≤ g ∧ Blk w' g 29 ((decs s.data.toList).map u64v).toArray ∧ Fr (fun _ => False) w w' := by
  have hmk : ∀ w, (Instr.makeSlice 38 (.int .i64 8) (.int .i64 8)).run Try.prog w = .ok (.slice (some ⟨w.heap.size, 0, none⟩) 8 8) (w.alloc (.cells (madeCells #[.int .u64 0] 8) 29)) := fun _ => by kernel_rfl
  have hbs : ((s.size : Int) != 64) = false := by simp [hs]
  have HS := hide hs
  have hs1 : s.size ≤ 64 := by omega
  have hs2 : 64 ≤ s.size := by omega
  clear hs
  go_enter Try.func16, Try.ntmps16
  go_wp2
  go_loopw [12] (fun i wr => ∃ (k : Nat) (L : List Nat), k ≤ 64 ∧ i = .int .i64 k ∧ Blk wr w.heap.size 29 (L.map u64v).toArray ∧ Hid (L = decs (s.data.toList.take k)) ∧ Fr (fun _ => False) w wr) (fun i _ => 64 - (intOf i).toNat)
  case atStart => exact ⟨0, decs [], by omega, rfl, by have h := Blk.new w 29 (madeCells #[.int .u64 0] 8); rw [dec_zero] at h; rw [dec_zero]; exact h, hide (by simp), (Fr.refl _ _).alloc _⟩
  case round =>
    obtain ⟨k, L, hk, rfl, hrow, HL, hfr⟩ := hrel
    by_cases hk64 : k < 64
    · have hl8 : L.length = 8 := by rw [HL.out]; simp [decs]
      obtain ⟨x, hx⟩ : ∃ x, x = L.getD (k / 8) 0 := ⟨_, rfl⟩
      have hc : wr.cell? ⟨w.heap.size, k / 8, none⟩ = some (.int .u64 x) := by
        rw [hrow.cell]; simp [show k / 8 < L.length by omega, hx, u64v]
      have hf := hrow.frozen (k / 8)
      have HX := hide hx
      have HL8 := hide hl8
      clear hx hl8
      go_wp2
      go_region
      go_wp2
      go_roundw
      case rel =>
        have hks : k < s.size := by omega
        refine ⟨k + 1, _, by omega, by go_num, (dec_row hks hs1 hrow HL.out HX.out ?_).drew, hide rfl, (hfr.setCell (p := ⟨w.heap.size, k / 8, none⟩) (.inr (Nat.le_refl _)) _).drew⟩
        rw [or_byte x s[k].toNat (dec_part hks hs1 HL.out HX.out) (by have := s[k].toNat_lt; omega)]
      case measure => simp [intOf]; omega
    · have e : s.data.toList.take k = s.data.toList := List.take_of_length_le (by have := HS.out; rw [Array.length_toList]; show s.size ≤ k; omega)
      have h := HL.out
      rw [e] at h
      rw [h] at hrow
      have HR := hide hrow
      clear hrow h e
      go_wp2
      go_ret2
      exact ⟨_, rfl, Nat.le_refl _, HR.out, hfr⟩
theorem decode_out (s : ByteArray) (w : World) (hs : s.size ≠ 64) :
    Calls Try.prog 16 #[.string s] w fun e w' => e = .returned (.tuple #[.slice none 0 0, .int .i64 10]) ∧ w = w' := by
  have hbs : ((s.size : Int) != 64) = true := by simp; omega
  go_enter Try.func16, Try.ntmps16
  go_wp2
  go_ret2
  exact ⟨rfl, rfl⟩
theorem rdecode_out (s : ByteArray) (w : World) (hs : s.size ≠ 64) :
    Calls Try.prog 17 #[.string s] w fun e w' => e = .returned (.tuple #[.slice none 0 0, .int .i64 10]) ∧ w = w' := by
  have hbs : ((s.size : Int) != 64) = true := by simp; omega
  go_enter Try.func17, Try.ntmps17
  go_wp2
  go_ret2
  exact ⟨rfl, rfl⟩
theorem rcount_any (n : Int) (w : World) (h0 : -9223372036854775808 ≤ n) (h1 : n ≤ 9223372036854775807) : Calls Try.prog 20 #[.int .i64 n] w fun e w' => e = .returned (.int .i64 (cnt n)) ∧ w = w' := by
  unfold cnt
  go_enter Try.func20, Try.ntmps20
  go_wp2
  · go_ret
    exact ⟨rfl, rfl⟩
  · go_ret
    refine ⟨?_, rfl⟩
    rw [show (n - 1) / 8 = n / 8 by omega]
    rfl
  · go_ret
    refine ⟨?_, rfl⟩
    rw [show (n - 1) / 8 + 1 = n / 8 by omega]
    rfl
theorem rdec_new {l : List UInt8} {k : Nat} (hk : k ≤ l.length) (h64 : k < 64) (hm : k % 8 = 0) : (decs (l.take k)).take (k / 8 + 1) = (decs (l.take k)).take (k / 8) ++ [0] := by
  have hl := decs_len (l.take k)
  rw [List.take_succ_eq_append_getElem (by omega)]
  congr 2
  have h := decs_getD (l.take k) (j := k / 8) (by omega)
  rw [List.drop_eq_nil_of_le (by simp; omega)] at h
  simpa [show k / 8 < (decs (l.take k)).length by omega, numB] using h
theorem rdec_set {l : List UInt8} {k : Nat} (hk : k < l.length) (h64 : k < 64) :
    ((decs (l.take k)).take (k / 8 + 1)).set (k / 8) ((decs (l.take k)).getD (k / 8) 0 * 256 + l[k].toNat) = (decs (l.take (k + 1))).take ((k + 1 + 7) / 8) := by
  have hl : (l.take k).length = k := by rw [List.length_take]; omega
  have h := decs_snoc (l.take k) l[k] (by omega)
  rw [hl] at h
  rw [List.take_succ_eq_append_getElem hk, h, show (k + 1 + 7) / 8 = k / 8 + 1 by omega, List.take_set]

theorem rdecode_any (s : ByteArray) (w : World) (hs : s.size = 64) :
    Calls Try.prog 17 #[.string s] w fun e w' => ∃ v, e = .returned (.tuple #[v, .int .i64 0]) ∧ w'.ownsRow w.heap.size 29 1 v 8 ((decs s.data.toList).map u64v) ∧ Fr (fun _ => False) w w' := by
  obtain ⟨i64, hi64, hz640, hz641, hz642⟩ := info_parts u64_info
  have hbs : ((s.size : Int) != 64) = false := by simp [hs]
  have HS := hide hs
  have hs1 : s.size ≤ 64 := by omega
  have hs2 : 64 ≤ s.size := by omega
  clear hs
  go_enter Try.func17, Try.ntmps17
  go_wp2
  go_loopw [4, 5] (fun v i wr => ∃ (k : Nat) (L : List Nat), k ≤ 64 ∧ i = .int .i64 k ∧ wr.ownsRow w.heap.size 29 1 v L.length (L.map u64v) ∧ Hid (L = (decs (s.data.toList.take k)).take ((k + 7) / 8)) ∧ Fr (fun _ => False) w wr) (fun _ i _ => 64 - (intOf i).toNat)
  case atStart => exact ⟨0, [], by omega, rfl, World.ownsRow_nil _ _ _ _, hide (by simp), Fr.refl _ _⟩
  case round =>
    obtain ⟨k, L, hk, rfl, hown, HL, hfr⟩ := hrel
    by_cases hk64 : k < 64
    · have hlen : L.length = (k + 7) / 8 := by rw [HL.out, List.length_take, decs_len]; omega
      by_cases hm : k % 8 = 0
      · have hmb : ((k : Int) % 8 == 0) = true := by simp; omega
        have HM := hide hm
        have HLen := hide hlen
        clear hm hlen
        go_wp2_with (at_builtin; refine wpList_append_box wr _ _ rfl (.tmp 18) (.tmp 19) _ rfl w.heap.size 29 i64 _ 1 8 Try.underlying38 hi64 hz640 hz641 hz642 rfl (by decide) _ _ _ rfl hown rfl rfl ?c1 ?c2 ?c3 ?c4 ?c5)
        case c1 => rfl
        case c2 => rw [HLen.out]; unfold maxLen; omega
        case c3 => rw [HLen.out]; omega
        case c4 => exact hfr.size
        case c5 =>
          intro v' w1 hown1 hg _
          have hfr1 := hfr.grown hg (fun q hq => .inr ((hown.lt q hq).1))
          have hM : List.map u64v L ++ [Value.int .u64 0] = ((decs (s.data.toList.take k)).take (k / 8 + 1)).map u64v := by
            rw [rdec_new (by rw [Array.length_toList]; show k ≤ s.size; omega) hk64 HM.out, List.map_append, HL.out, show (k + 7) / 8 = k / 8 by have := HM.out; omega]
            rfl
          have hown2 : w1.ownsRow w.heap.size 29 1 v' (L.length + 1) (((decs (s.data.toList.take k)).take (k / 8 + 1)).map u64v) := by rw [← hM]; exact hown1
          have hlt : k / 8 < L.length + 1 := by rw [HLen.out]; omega
          have HN : Hid (L.length + 1 = k / 8 + 1) := hide (by rw [HLen.out]; have := HM.out; omega)
          clear hown hown1 hg hfr hM
          obtain ⟨g, cap, rfl, hgb, _⟩ := hown2.form (by omega)
          obtain ⟨x, hx⟩ : ∃ x, x = (decs (s.data.toList.take k)).getD (k / 8) 0 := ⟨_, rfl⟩
          have hc : w1.cell? ⟨g, k / 8, none⟩ = some (.int .u64 x) := by
            rw [hown2.cellAt (k / 8) (by omega)]
            have hl := decs_len (s.data.toList.take k)
            simp [hx, u64v, show k / 8 < (decs (s.data.toList.take k)).length by omega]
          have hf := hown2.frozenAt (k / 8)
          have HX := hide hx
          clear hx
          go_wp2
          go_region
          go_wp2
          go_roundw
          case rel =>
            have hks : k < s.data.toList.length := by rw [Array.length_toList]; show k < s.size; omega
            have hst := (hown2.stored (k / 8) (.int .u64 ((x * 256 + s.data.toList[k].toNat : Nat) : Int))).1
            have e2 := rdec_set hks hk64
            rw [← HX.out] at e2
            have e3 : (((decs (s.data.toList.take k)).take (k / 8 + 1)).map u64v).set (k / 8) (.int .u64 ((x * 256 + s.data.toList[k].toNat : Nat) : Int)) = ((decs (s.data.toList.take (k + 1))).take ((k + 1 + 7) / 8)).map u64v := by
              rw [← e2, List.map_set]
              rfl
            rw [e3] at hst
            have hxl : x < 72057594037927936 := dec_part (by omega) hs1 rfl HX.out
            have e5 : (s[k] : UInt8) = s.data.toList[k] := rfl
            have e6 : (L.length+1) = ((decs (s.data.toList.take (k + 1))).take ((k + 1 + 7) / 8)).length := by rw [HN.out, List.length_take, decs_len]; omega
            rw [e6] at hst
            refine ⟨k + 1, _, by omega, by go_num, ?_, hide rfl, (hfr1.setCell (p := ⟨g, k / 8, none⟩) (.inr hgb) _).drew⟩
            rw [e6, e5, add_byte2 x _ hxl (by have := s.data.toList[k].toNat_lt; omega)]
            exact hst.drew
          case measure => simp [intOf]; omega
      · have hmb : ((k : Int) % 8 == 0) = false := by simp; omega
        have hown2 : wr.ownsRow w.heap.size 29 1 u4 L.length (((decs (s.data.toList.take k)).take (k / 8 + 1)).map u64v) := by
          rw [show k / 8 + 1 = (k + 7) / 8 by omega, ← HL.out]; exact hown
        have hlt : k / 8 < L.length := by omega
        have HN : Hid (L.length = k / 8 + 1) := hide (by omega)
        clear hown hlen hm
        obtain ⟨g, cap, rfl, hgb, _⟩ := hown2.form (by omega)
        obtain ⟨x, hx⟩ : ∃ x, x = (decs (s.data.toList.take k)).getD (k / 8) 0 := ⟨_, rfl⟩
        have hc : wr.cell? ⟨g, k / 8, none⟩ = some (.int .u64 x) := by
          rw [hown2.cellAt (k / 8) (by omega)]
          have hl := decs_len (s.data.toList.take k)
          simp [hx, u64v, show k / 8 < (decs (s.data.toList.take k)).length by omega]
        have hf := hown2.frozenAt (k / 8)
        have HX := hide hx
        clear hx
        go_wp2
        go_region
        go_wp2
        go_roundw
        case rel =>
          have hks : k < s.data.toList.length := by rw [Array.length_toList]; show k < s.size; omega
          have hst := (hown2.stored (k / 8) (.int .u64 ((x * 256 + s.data.toList[k].toNat : Nat) : Int))).1
          have e2 := rdec_set hks hk64
          rw [← HX.out] at e2
          have e3 : (((decs (s.data.toList.take k)).take (k / 8 + 1)).map u64v).set (k / 8) (.int .u64 ((x * 256 + s.data.toList[k].toNat : Nat) : Int)) = ((decs (s.data.toList.take (k + 1))).take ((k + 1 + 7) / 8)).map u64v := by
            rw [← e2, List.map_set]
            rfl
          rw [e3] at hst
          have hxl : x < 72057594037927936 := dec_part (by omega) hs1 rfl HX.out
          have e5 : (s[k] : UInt8) = s.data.toList[k] := rfl
          have e6 : (L.length) = ((decs (s.data.toList.take (k + 1))).take ((k + 1 + 7) / 8)).length := by rw [HN.out, List.length_take, decs_len]; omega
          rw [e6] at hst
          refine ⟨k + 1, _, by omega, by go_num, ?_, hide rfl, (hfr.setCell (p := ⟨g, k / 8, none⟩) (.inr hgb) _).drew⟩
          rw [e6, e5, add_byte2 x _ hxl (by have := s.data.toList[k].toNat_lt; omega)]
          exact hst.drew
        case measure => simp [intOf]; omega
    · have e : s.data.toList.take k = s.data.toList := List.take_of_length_le (by have := HS.out; rw [Array.length_toList]; show s.size ≤ k; omega)
      have h := HL.out
      rw [e, List.take_of_length_le (by rw [decs_len]; omega)] at h
      rw [h, decs_len] at hown
      have HR := hide hown
      clear hown h e
      go_wp2
      go_ret2
      exact ⟨_, rfl, HR.out, hfr⟩
theorem count_lit (n z : Int) (w : World) (h0 : -9223372036854775808 ≤ n) (h1 : n ≤ 9223372036854775807) (h : cnt n = z) : Calls Try.prog 19 #[.int .i64 n] w fun e w' => e = .returned (.int .i64 z) ∧ w = w' := by
  rw [← h]
  exact count_any n w h0 h1

/-- Encode, of whatever length -/
def encS (xs : List Nat) : ByteArray := if xs.length ≤ 8 then ⟨((xs ++ List.replicate (8 - xs.length) 0).flatMap (encW 8)).toArray⟩ else ⟨#[]⟩
def encE (xs : List Nat) : Int := if xs.length ≤ 8 then 0 else 3
theorem encode_tot (A : Option Addr) (n c : Nat) (xs : List Nat) (w : World) (hr : Reads w w.heap.size 1 A n (xs.map u64v)) :
    Calls Try.prog 14 #[.slice A n c] w fun e w' => e = .returned (.tuple #[.string (encS xs), .int .i64 (encE xs)]) ∧ Fr (fun _ => False) w w' := by
  have hl : xs.length = n := by have := hr.1; simpa using this
  by_cases h : n ≤ 8
  · have := encode_any A n c xs w hr h
    rw [encS, encE, if_pos (by omega), if_pos (by omega), hl]
    exact this
  · refine (encode_long A n c w (by omega)).mono ?_
    rintro e w' ⟨rfl, rfl⟩
    rw [encS, encE, if_neg (by omega), if_neg (by omega)]
    exact ⟨rfl, Fr.refl _ _⟩
theorem rencode_tot (A : Option Addr) (n c : Nat) (xs : List Nat) (w : World) (hr : Reads w w.heap.size 1 A n (xs.map u64v)) (hx64 : ∀ x ∈ xs, x < 18446744073709551616) :
    Calls Try.prog 15 #[.slice A n c] w fun e w' => e = .returned (.tuple #[.string (encS xs), .int .i64 (encE xs)]) ∧ Fr (fun _ => False) w w' := by
  have hl : xs.length = n := by have := hr.1; simpa using this
  by_cases h : n ≤ 8
  · have := rencode_any A n c xs w hr hx64 h
    rw [encS, encE, if_pos (by omega), if_pos (by omega), hl]
    exact this
  · refine (rencode_long A n c w (by omega)).mono ?_
    rintro e w' ⟨rfl, rfl⟩
    rw [encS, encE, if_neg (by omega), if_neg (by omega)]
    exact ⟨rfl, Fr.refl _ _⟩
/-- Decode, of whatever bytes -/
def decL (s : ByteArray) : List Nat := if s.size = 64 then decs s.data.toList else []
def decE (s : ByteArray) : Int := if s.size = 64 then 0 else 10
theorem decode_tot (s : ByteArray) (w : World) :
    Calls Try.prog 16 #[.string s] w fun e w' => ∃ A n c, e = .returned (.tuple #[.slice A n c, .int .i64 (decE s)]) ∧ Reads w' w'.heap.size 1 A n ((decL s).map u64v) ∧ n ≤ 8 ∧ Fr (fun _ => False) w w' := by
  by_cases h : s.size = 64
  · refine (decode_any s w h).mono ?_
    rintro e w' ⟨g, rfl, _, hb, hf⟩
    rw [decE, if_pos h, decL, if_pos h]
    exact ⟨_, _, _, rfl, Reads.blk hb (by simp [decs_len]), by omega, hf⟩
  · refine (decode_out s w h).mono ?_
    rintro e w' ⟨rfl, rfl⟩
    rw [decE, if_neg h, decL, if_neg h]
    exact ⟨_, _, _, rfl, Reads.none_, by omega, Fr.refl _ _⟩
theorem rdecode_tot (s : ByteArray) (w : World) :
    Calls Try.prog 17 #[.string s] w fun e w' => ∃ A n c, e = .returned (.tuple #[.slice A n c, .int .i64 (decE s)]) ∧ Reads w' w'.heap.size 1 A n ((decL s).map u64v) ∧ n ≤ 8 ∧ Fr (fun _ => False) w w' := by
  by_cases h : s.size = 64
  · refine (rdecode_any s w h).mono ?_
    rintro e w' ⟨v, rfl, hb, hf⟩
    obtain ⟨A, c, rfl⟩ := Reads.own_val hb
    rw [decE, if_pos h, decL, if_pos h]
    exact ⟨_, _, _, rfl, Reads.of_own hb, by omega, hf⟩
  · refine (rdecode_out s w h).mono ?_
    rintro e w' ⟨rfl, rfl⟩
    rw [decE, if_neg h, decL, if_neg h]
    exact ⟨_, _, _, rfl, Reads.none_, by omega, Fr.refl _ _⟩
end Go.Proofs.Ytneihcoepacadaa
