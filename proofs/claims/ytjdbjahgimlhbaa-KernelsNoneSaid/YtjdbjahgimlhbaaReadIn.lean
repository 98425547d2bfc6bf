/- A ROW READ, into new memory. -/
import Derived.Test.YtjdbjahgimlhbaaJobA
set_option linter.unusedVariables false
set_option maxRecDepth 100000
namespace Go.Proofs.Ytjdbjahgimlhbaa
open Go.RowKit

/-- a slice whose memory lies from lo on -/
def ReadsIn (w : World) (lo size : Nat) (A : Option Addr) (n : Nat) (xs : List Value) : Prop :=
  xs.length = n * size ∧ (0 < n → ∃ b o, A = some ⟨b, o, none⟩ ∧ lo ≤ b ∧ b < w.heap.size ∧ ∀ j u, xs[j]? = some u → w.cell? ⟨b, o + j, none⟩ = some u)
theorem ReadsIn.reads {w : World} {lo size n : Nat} {A : Option Addr} {xs : List Value} (h : ReadsIn w lo size A n xs) : Reads w w.heap.size size A n xs :=
  ⟨h.1, fun h0 => by obtain ⟨b, o, e, _, hb, hc⟩ := h.2 h0; exact ⟨b, o, e, hb, hc⟩⟩
theorem ReadsIn.fr {S : Nat → Prop} {w w' : World} {lo size n : Nat} {A : Option Addr} {xs : List Value} (h : ReadsIn w lo size A n xs) (hf : Fr S w w') (hs : ∀ k, S k → k < lo) : ReadsIn w' lo size A n xs :=
  ⟨h.1, fun h0 => by
    obtain ⟨b, o, e, hl, hb, hc⟩ := h.2 h0
    exact ⟨b, o, e, hl, Nat.lt_of_lt_of_le hb hf.size, fun j u hu => hf.cell (hc j u hu) (fun hS => by have := hs _ hS; simp only at this; omega)⟩⟩
theorem ReadsIn.less {w : World} {lo lo' size n : Nat} {A : Option Addr} {xs : List Value} (h : ReadsIn w lo size A n xs) (hl : lo' ≤ lo) : ReadsIn w lo' size A n xs :=
  ⟨h.1, fun h0 => by obtain ⟨b, o, e, h1, hb, hc⟩ := h.2 h0; exact ⟨b, o, e, Nat.le_trans hl h1, hb, hc⟩⟩
theorem ReadsIn.of_own {w : World} {base size n c : Nat} {A : Option Addr} {xs : List Value} {e : TypeId} (h : w.ownsRow base e size (.slice A n c) n xs) : ReadsIn w base size A n xs := by
  have hr := Reads.of_own h
  refine ⟨hr.1, fun h0 => ?_⟩
  obtain ⟨b, o, rfl, hb, hc⟩ := hr.2 h0
  refine ⟨b, o, rfl, ?_, hb, hc⟩
  rcases h.2 with ⟨h1, _⟩ | ⟨g, cap, cur, h1, hg, _⟩
  · simp at h1
  · injection h1 with h1 _ _
    injection h1 with h1
    injection h1 with h1 _ _
    rw [h1]; exact hg
theorem ReadsIn.cell {w : World} {lo n k : Nat} {A : Option Addr} {xs : List Nat} (h : ReadsIn w lo 1 A n (xs.map u64v)) (hk : k < n) : ∃ b o, A = some ⟨b, o, none⟩ ∧ w.cell? ⟨b, o + k, none⟩ = some (.int .u64 ((xs.getD k 0 : Nat) : Int)) := by
  have hl : xs.length = n := by have := h.1; simpa using this
  obtain ⟨b, o, e, _, hb, hc⟩ := h.2 (by omega)
  refine ⟨b, o, e, hc k _ ?_⟩
  rw [List.getElem?_map, List.getElem?_eq_getElem (by omega)]
  simp [u64v, List.getD, show k < xs.length by omega]
theorem read_in {p g : Nat} {xs : List Nat} {w : World} (h : PlainAt w p g xs) :
    Calls Try.prog 26 #[.pointer (some ⟨p, 0, none⟩)] w fun e w' => ∃ A c, e = .returned (.slice A xs.length c) ∧ ReadsIn w' w.heap.size 1 A xs.length (xs.map u64v) ∧ Fr (fun _ => False) w w' := by
  obtain ⟨i0, hi, hz0, hz1, hz2⟩ := info_parts u64_info
  have hl := h.len
  have H := hide h
  clear h
  go_enter Try.func26, Try.ntmps26
  go_wp2
  go_loopw [3, 4] (fun r i wr => ∃ k : Nat, k ≤ xs.length ∧ i = .int .i64 k ∧ wr.ownsRow w.heap.size 36 1 r k ((xs.take k).map u64v) ∧ Hid (Fr (fun _ => False) w wr)) (fun _ i _ => xs.length - (intOf i).toNat)
  case atStart => exact ⟨0, by omega, rfl, by simpa using World.ownsRow_nil w _ 36 1, hide (Fr.refl _ _)⟩
  case round =>
    obtain ⟨k, hk, rfl, hown, HF⟩ := hrel
    have HP := hide (H.out.fr HF.out id id)
    go_wp2_with fail
    go_at_call 61
    refine (len_any HP.out).mono ?_
    rintro e w1 ⟨rfl, rfl⟩
    by_cases hlt : k < xs.length
    · have HG := hide (get_in HP.out k hlt)
      generalize hxk : xs.getD k 0 = x at *
      go_wp2_with fail
      go_at_call 21
      refine HG.out.mono ?_
      rintro e w1 ⟨rfl, rfl⟩
      go_wp2_with (at_builtin; refine wpList_append_box wr _ _ rfl (.tmp 19) (.tmp 21) _ rfl w.heap.size 36 i0 _ 1 8 Try.underlying49 hi hz0 hz1 hz2 rfl (by decide) _ _ _ rfl hown rfl rfl ?c1 ?c2 ?c3 ?c4 ?c5)
      case c1 => simp [Value.oneCell']
      case c2 => unfold maxLen; omega
      case c3 => omega
      case c4 => exact HF.out.size
      case c5 =>
        intro v' w1 hown1 hg _
        have HF1 := hide (HF.out.grown hg (fun q hq => .inr ((hown.lt q hq).1)))
        have hM : (xs.take k).map u64v ++ [Value.int .u64 (x : Int)] = (xs.take (k + 1)).map u64v := by
          rw [List.take_succ_eq_append_getElem hlt, List.map_append, ← hxk]
          simp [u64v, List.getD, hlt]
        have hown2 : w1.ownsRow w.heap.size 36 1 v' (k + 1) ((xs.take (k + 1)).map u64v) := by rw [← hM]; simpa [List.map_take] using hown1
        clear hown hown1 hg hM
        go_wp2
        go_roundw
        case rel => exact ⟨k + 1, by omega, by go_num, hown2, HF1⟩
        case measure => simp [intOf]; omega
    · obtain rfl : k = xs.length := by omega
      rw [List.take_of_length_le (Nat.le_refl _)] at hown
      obtain ⟨A, c, rfl⟩ := Reads.own_val hown
      have HR := hide (ReadsIn.of_own hown)
      clear hown
      go_wp2
      go_ret
      exact ⟨_, _, rfl, HR.out, HF.out⟩
end Go.Proofs.Ytjdbjahgimlhbaa
