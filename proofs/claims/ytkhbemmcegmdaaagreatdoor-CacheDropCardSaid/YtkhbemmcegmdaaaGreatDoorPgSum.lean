/- PAGES: a text's sum, as bytes; a page, the program's and the reference's. -/
import Derived.Test.YtkhbemmcegmdaaaGreatDoorSums
import Derived.Test.YtkhbemmcegmdaaaGreatDoorShelf
set_option linter.all false
set_option linter.unusedVariables false
set_option maxRecDepth 100000
namespace Go.Proofs.YtkhbemmcegmdaaaGreatDoor
open Go.RowKit

theorem u8_info : (Tryz.prog.info? 5).map (fun i => (i.zero, i.size, i.bytes)) = some (some (.int .u8 0), 1, 1) := by kernel_rfl

/-- 'string([]byte{..})' -/
theorem run_strN {P : Program} (W : World) (src dst e e2 : TypeId) (zs : List Int) (h : ∀ z ∈ zs, 0 ≤ z ∧ z < 256) (hs : P.underlying src = some (.slice e)) (he : P.underlying e = some (.int .u8)) (hd : P.underlying dst = some .string) :
    (convert src dst (.slice (some ⟨W.heap.size, 0, none⟩) zs.length zs.length)).run P (W.alloc (.cells (zs.map (Value.int .u8)).toArray e2)) = .ok (.string ⟨(zs.map fun z => UInt8.ofNat z.toNat).toArray⟩) (W.alloc (.cells (zs.map (Value.int .u8)).toArray e2)) := by
  have h := run_convert_bytes_back (P := P) (W.alloc (.cells (zs.map (Value.int .u8)).toArray e2)) src dst e ⟨W.heap.size, 0, none⟩ zs.length (zs.map fun z => UInt8.ofNat z.toNat) hs he hd (by
    intro j hj
    have hj' : j < zs.length := by simpa using hj
    have hz := h zs[j] (List.getElem_mem hj')
    rw [show (⟨W.heap.size, 0, none⟩ : Addr).add j = ⟨W.heap.size, j, none⟩ by rw [Addr.add_lit, Nat.zero_add], cell_of_row _ W.heap.size j _ e2 (0, 0) (heap_alloc_new W _)]
    simp [hj']
    omega)
  simpa using h

theorem ofNat_mod (x : Nat) : UInt8.ofNat (x % 256) = UInt8.ofNat x := by
  apply UInt8.toNat.inj
  simp
theorem ofNat_z {z : Int} {x : Nat} (h : z = ((x % 256 : Nat) : Int)) : UInt8.ofNat z.toNat = UInt8.ofNat x := by
  subst h
  rw [Int.toNat_natCast, ofNat_mod]
def le4b (n : Nat) : List UInt8 := [UInt8.ofNat n, UInt8.ofNat (n / 256), UInt8.ofNat (n / 65536), UInt8.ofNat (n / 16777216)]
def sumB (l : List UInt8) : List UInt8 := le4b (sumN (l.map UInt8.toNat))
/-- what stands ahead of the sum: how many bytes, the bytes, zeros -/
def bodyB (d : List UInt8) : List UInt8 := [UInt8.ofNat (d.length / 256), UInt8.ofNat d.length] ++ d ++ List.replicate (122 - d.length) 0
theorem sumB_len (l : List UInt8) : (sumB l).length = 4 := rfl
def encB (d : List UInt8) : List UInt8 := bodyB d ++ sumB (bodyB d)
theorem bodyB_len {d : List UInt8} (h : d.length ≤ 122) : (bodyB d).length = 124 := by simp [bodyB]; omega
theorem nats_mk (l : List UInt8) : nats ⟨l.toArray⟩ = l.map UInt8.toNat := by simp [nats]
theorem nats_eq (s : ByteArray) : nats s = s.data.toList.map UInt8.toNat := rfl

theorem four_str (n : Nat) (hn : n < 4294967296) (W : World) : (convert 22 9 (.slice (some ⟨W.heap.size, 0, none⟩) 4 4)).run Tryz.prog (W.alloc (.cells #[.int .u8 ((n : Int) % 256), .int .u8 ((n : Int) / 256 % 256), .int .u8 ((n : Int) / 65536 % 256), .int .u8 ((n : Int) / 16777216)] 5)) =
    .ok (.string ⟨(le4b n).toArray⟩) (W.alloc (.cells #[.int .u8 ((n : Int) % 256), .int .u8 ((n : Int) / 256 % 256), .int .u8 ((n : Int) / 65536 % 256), .int .u8 ((n : Int) / 16777216)] 5)) := by
  have h := run_strN (P := Tryz.prog) W 22 9 5 5 [(n : Int) % 256, (n : Int) / 256 % 256, (n : Int) / 65536 % 256, (n : Int) / 16777216] (by
    intro z hz
    simp only [List.mem_cons, List.not_mem_nil, or_false] at hz
    omega) Tryz.underlying22 Tryz.underlying5 Tryz.underlying9
  have e : ([(n : Int) % 256, (n : Int) / 256 % 256, (n : Int) / 65536 % 256, (n : Int) / 16777216].map fun z => UInt8.ofNat z.toNat) = le4b n := by
    simp only [List.map_cons, List.map_nil, le4b]
    rw [ofNat_z (x := n) (by omega), ofNat_z (x := n / 256) (by omega), ofNat_z (x := n / 65536) (by omega), ofNat_z (x := n / 16777216) (by omega)]
  rw [e] at h
  exact h

theorem two_str (n : Nat) (hn : n ≤ 122) (W : World) : (convert 22 9 (.slice (some ⟨W.heap.size, 0, none⟩) 2 2)).run Tryz.prog (W.alloc (.cells #[.int .u8 ((n : Int) / 256), .int .u8 (n : Int)] 5)) =
    .ok (.string ⟨#[UInt8.ofNat (n / 256), UInt8.ofNat n]⟩) (W.alloc (.cells #[.int .u8 ((n : Int) / 256), .int .u8 (n : Int)] 5)) := by
  have h := run_strN (P := Tryz.prog) W 22 9 5 5 [(n : Int) / 256, (n : Int)] (by
    intro z hz
    simp only [List.mem_cons, List.not_mem_nil, or_false] at hz
    omega) Tryz.underlying22 Tryz.underlying5 Tryz.underlying9
  have e : ([(n : Int) / 256, (n : Int)].map fun z => UInt8.ofNat z.toNat) = [UInt8.ofNat (n / 256), UInt8.ofNat n] := by
    simp only [List.map_cons, List.map_nil]
    rw [ofNat_z (x := n / 256) (by omega), ofNat_z (x := n) (by omega)]
  rw [e] at h
  exact h

theorem two_str2 (n : Nat) (hn : n ≤ 122) (W : World) : (convert 22 9 (.slice (some ⟨W.heap.size, 0, none⟩) 2 2)).run Tryz.prog (W.alloc (.cells #[.int .u8 ((n : Int) / 256), .int .u8 ((n : Int) % 256)] 5)) =
    .ok (.string ⟨#[UInt8.ofNat (n / 256), UInt8.ofNat n]⟩) (W.alloc (.cells #[.int .u8 ((n : Int) / 256), .int .u8 ((n : Int) % 256)] 5)) := by
  have h := run_strN (P := Tryz.prog) W 22 9 5 5 [(n : Int) / 256, (n : Int) % 256] (by
    intro z hz
    simp only [List.mem_cons, List.not_mem_nil, or_false] at hz
    omega) Tryz.underlying22 Tryz.underlying5 Tryz.underlying9
  have e : ([(n : Int) / 256, (n : Int) % 256].map fun z => UInt8.ofNat z.toNat) = [UInt8.ofNat (n / 256), UInt8.ofNat n] := by
    simp only [List.map_cons, List.map_nil]
    rw [ofNat_z (x := n / 256) (by omega), ofNat_z (x := n) (by omega)]
  rw [e] at h
  exact h

theorem pg_sum (s : ByteArray) (hs : s.size ≤ 9223372036854775807) (w : World) : Calls Tryz.prog 60 #[.string s] w fun e w' => e = .returned (.string ⟨(sumB s.data.toList).toArray⟩) ∧ Fr (fun _ => False) w w' := by
  have hl := sumN_lt (nats_lt s)
  have H := hide (sum_any s hs w)
  have HB : Hid (sumB s.data.toList = le4b (sumN (nats s))) := rfl
  generalize sumN (nats s) = n at *
  have hc := four_str n hl
  go_enter Tryz.func60, Tryz.ntmps60
  go_wp2_with (go_at_call 108; refine H.out.mono ?_; rintro e w' ⟨rfl, rfl⟩)
  go_ret
  exact ⟨by rw [HB.out]; rfl, (Fr.refl _ _).alloc _⟩

theorem pg_enc_long (s : ByteArray) (h : 122 < s.size) (w : World) : Calls Tryz.prog 17 #[.string s] w fun e w' => e = .returned (.tuple #[.string ⟨#[]⟩, .int .i64 3]) ∧ w = w' := by
  go_enter Tryz.func17, Tryz.ntmps17
  go_wp2
  go_ret2
  exact ⟨rfl, rfl⟩

theorem pg_sumL (l : List UInt8) (hs : l.length ≤ 9223372036854775807) (w : World) : Calls Tryz.prog 60 #[.string ⟨l.toArray⟩] w fun e w' => e = .returned (.string ⟨(sumB l).toArray⟩) ∧ Fr (fun _ => False) w w' := by
  have h := pg_sum ⟨l.toArray⟩ (by show l.toArray.size ≤ _; simpa using hs) w
  simpa using h
/-- so many zero bytes -/
def zeroS (c : Nat) : ByteArray := ⟨(List.replicate c (0 : UInt8)).toArray⟩
theorem zeroS_size (c : Nat) : (zeroS c).size = c := by show (List.replicate c (0 : UInt8)).toArray.size = c; simp
theorem zeros_made (n : Nat) (h : n ≤ 1000) (z : Int) (hz : z = n) (W : World) : (Instr.makeSlice 22 (.int .i64 z) (.int .i64 z)).run Tryz.prog W = .ok (.slice (some ⟨W.heap.size, 0, none⟩) n n) (W.alloc (.cells (List.replicate n (Value.int .u8 0)).toArray 5)) := by
  subst hz
  obtain ⟨i0, hi, hz0, hz1, hz2⟩ := info_parts u8_info
  have h := run_make_rowN (P := Tryz.prog) 22 5 i0 (.int .u8 0) Tryz.underlying22 hi hz0 .i64 .i64 n n (Nat.le_refl _) (by rw [hz2]; omega) (by omega) W
  rw [hz1, Nat.mul_one] at h
  rw [h]
  show Result.ok _ (W.alloc (.cells (madeCells #[.int .u8 0] n) 5)) = _
  rw [madeCells_one]
theorem zeros_str (n : Nat) (W : World) : (convert 22 9 (.slice (some ⟨W.heap.size, 0, none⟩) n n)).run Tryz.prog (W.alloc (.cells (List.replicate n (Value.int .u8 0)).toArray 5)) = .ok (.string (zeroS n)) (W.alloc (.cells (List.replicate n (Value.int .u8 0)).toArray 5)) := by
  have h := run_strN (P := Tryz.prog) W 22 9 5 5 (List.replicate n 0) (by
    intro z hz
    obtain rfl := List.eq_of_mem_replicate hz
    omega) Tryz.underlying22 Tryz.underlying5 Tryz.underlying9
  simpa [zeroS] using h
theorem repeat_zero (c : Nat) : Lib.repeatL [0] c = List.replicate c (0 : UInt8) := by
  induction c with
  | zero => rfl
  | succ c ih => simp [Lib.repeatL, List.replicate_succ] at *; try simp [ih]
theorem rep_any (z : Int) (c : Nat) (hz : z = c) (hc : c ≤ 1000) (w : World) : Calls Tryz.prog 59 #[.string ⟨#[0]⟩, .int .i64 z] w fun e w' => e = .returned (.string (zeroS c)) ∧ Fr (fun _ => False) w w' := by
  subst hz
  refine (Tryz.strings_Repeat ⟨#[0]⟩ c w (by omega) (by show 1 * c ≤ _; omega)).mono ?_
  rintro e w' ⟨rfl, hb⟩
  exact ⟨by unfold zeroS; rw [← repeat_zero c], Fr.of_below hb _⟩
theorem body_str (s : ByteArray) (h : s.size ≤ 122) : ((⟨#[UInt8.ofNat (s.size / 256), UInt8.ofNat s.size]⟩ : ByteArray) ++ s) ++ zeroS (122 - s.size) = ⟨(bodyB s.data.toList).toArray⟩ := by
  apply ByteArray.ext
  simp [bodyB, zeroS, ByteArray.data_append]
theorem pg_enc (s : ByteArray) (h : s.size ≤ 122) (w : World) : Calls Tryz.prog 17 #[.string s] w fun e w' => e = .returned (.tuple #[.string ⟨(encB s.data.toList).toArray⟩, .int .i64 0]) ∧ Fr (fun _ => False) w w' := by
  have hc := two_str s.size h
  have HB := hide (body_str s h)
  have hl : s.data.toList.length = s.size := by simp
  have HL := hide (bodyB_len (d := s.data.toList) (by omega))
  have HE : Hid (encB s.data.toList = bodyB s.data.toList ++ sumB (bodyB s.data.toList)) := rfl
  have HS := hide (fun w => pg_sumL (bodyB s.data.toList) (by rw [HL.out]; omega) w)
  clear hl
  generalize bodyB s.data.toList = l at *
  have hzs := zeroS_size (122 - s.size)
  go_enter Tryz.func17, Tryz.ntmps17
  go_wp2_with fail
  go_at_call 59
  refine (rep_any (124 - (2 + (s.size : Int))) (122 - s.size) (by omega) (by omega) _).mono ?_
  rintro e w1 ⟨rfl, hf⟩
  have HF := hide (((Fr.refl (fun _ => False) w).alloc _).then_ hf)
  clear hf
  go_wp2_with fail
  go_at_call 60
  rw [HB.out]
  refine (HS.out _).mono ?_
  rintro e w2 ⟨rfl, hf⟩
  have hl1 := HL.out
  have hl2 := sumB_len l
  have HF := hide (HF.out.then_ hf)
  clear hf
  go_wp2
  go_ret2
  exact ⟨by rw [HE.out, ← bytes_append]; rfl, HF.out⟩

/-! the reference's -/
theorem rpg_enc_long (s : ByteArray) (h : 122 < s.size) (w : World) : Calls Tryz.prog 112 #[.string s] w fun e w' => e = .returned (.tuple #[.string ⟨#[]⟩, .int .i64 3]) ∧ w = w' := by
  go_enter Tryz.func112, Tryz.ntmps112
  go_wp2
  go_ret2
  exact ⟨rfl, rfl⟩
theorem rpg_enc (s : ByteArray) (h : s.size ≤ 122) (w : World) : Calls Tryz.prog 112 #[.string s] w fun e w' => e = .returned (.tuple #[.string ⟨(encB s.data.toList).toArray⟩, .int .i64 0]) ∧ Fr (fun _ => False) w w' := by
  have hc := two_str2 s.size h
  have hm := zeros_made (122 - s.size) (by omega) (124 - (2 + (s.size : Int))) (by omega)
  have hcz : ∀ o, (convert 22 9 (.slice (some ⟨w.heap.size + 1, 0, none⟩) (122 - s.size) (122 - s.size))).run Tryz.prog ((w.alloc o).alloc (.cells (Array.replicate (122 - s.size) (Value.int .u8 0)) 5)) = .ok (.string (zeroS (122 - s.size))) ((w.alloc o).alloc (.cells (Array.replicate (122 - s.size) (Value.int .u8 0)) 5)) := by
    intro o
    have h := zeros_str (122 - s.size) (w.alloc o)
    simpa using h
  have HB := hide (body_str s h)
  have hl : s.data.toList.length = s.size := by simp
  have HL := hide (bodyB_len (d := s.data.toList) (by omega))
  have HE : Hid (encB s.data.toList = bodyB s.data.toList ++ sumB (bodyB s.data.toList)) := rfl
  have HS := hide (fun w => rsum_any ⟨(bodyB s.data.toList).toArray⟩ (by show (bodyB s.data.toList).toArray.size ≤ _; simp [HL.out]) w)
  have hn := sumN_lt (nats_lt ⟨(bodyB s.data.toList).toArray⟩)
  have HBB : Hid (sumB (bodyB s.data.toList) = le4b (sumN (nats ⟨(bodyB s.data.toList).toArray⟩))) := by unfold Hid sumB; rw [nats_mk]
  clear hl
  generalize bodyB s.data.toList = l at *
  generalize sumN (nats ⟨l.toArray⟩) = n at *
  have hf4 : ∀ o o', (convert 22 9 (.slice (some ⟨w.heap.size + 1 + 1, 0, none⟩) 4 4)).run Tryz.prog (((w.alloc o).alloc o').alloc (.cells #[.int .u8 ((n : Int) % 256), .int .u8 ((n : Int) / 256 % 256), .int .u8 ((n : Int) / 65536 % 256), .int .u8 ((n : Int) / 16777216)] 5)) =
      .ok (.string ⟨(le4b n).toArray⟩) (((w.alloc o).alloc o').alloc (.cells #[.int .u8 ((n : Int) % 256), .int .u8 ((n : Int) / 256 % 256), .int .u8 ((n : Int) / 65536 % 256), .int .u8 ((n : Int) / 16777216)] 5)) := by
    intro o o'
    have h := four_str n hn ((w.alloc o).alloc o')
    simpa using h
  have hl4 : (le4b n).length = 4 := rfl
  have hzs := zeroS_size (122 - s.size)
  go_enter Tryz.func112, Tryz.ntmps112
  have hl1 := HL.out
  go_wp2_with fail
  go_at_call 148
  rw [HB.out]
  refine (HS.out _).mono ?_
  rintro e w2 ⟨rfl, rfl⟩
  go_wp2
  go_ret2
  exact ⟨by rw [HE.out, HBB.out, ← bytes_append]; rfl, (((Fr.refl _ _).alloc _).alloc _).alloc _⟩
end Go.Proofs.YtkhbemmcegmdaaaGreatDoor
