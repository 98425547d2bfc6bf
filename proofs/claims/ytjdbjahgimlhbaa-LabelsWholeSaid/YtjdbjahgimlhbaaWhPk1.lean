/- Parts of the proof of several laws: no conditions of their own. -/
import Derived.Test.YtjdbjahgimlhbaaWhPk0
import Derived.Sort.OwnSortedInts
section
set_option linter.unusedVariables false
set_option maxRecDepth 100000
namespace Go.Proofs.Ytjdbjahgimlhbaa
open Go.RowKit

/-- a plain vector in an interface -/
def vecv (p : Nat) : Value := .iface 31 (.pointer (some ⟨p, 0, none⟩))

theorem meth_len (p : Nat) (w : World) : (method 321 31 (.pointer (some ⟨p, 0, none⟩)) "Len").run Try.prog w = .ok (61, .pointer (some ⟨p, 0, none⟩)) w := by kernel_rfl
theorem meth_get (p : Nat) (w : World) : (method 321 31 (.pointer (some ⟨p, 0, none⟩)) "Get").run Try.prog w = .ok (21, .pointer (some ⟨p, 0, none⟩)) w := by kernel_rfl
theorem meth_set (p : Nat) (w : World) : (method 321 31 (.pointer (some ⟨p, 0, none⟩)) "Set").run Try.prog w = .ok (24, .pointer (some ⟨p, 0, none⟩)) w := by kernel_rfl

theorem check_ok {pa ga pb gb : Nat} {xs ys : List Nat} {w : World} (ha : PlainAt w pa ga xs) (hb : PlainAt w pb gb ys) (h1 : 1 ≤ xs.length) (h2 : ys.length = xs.length) :
    Calls Try.prog 53 #[vecv pa, vecv pb] w fun e w' => e = .returned (.int .i64 0) ∧ w = w' := by
  have h3 := ha.len
  have hm := fun p => meth_len p
  have hbe : ((xs.length : Int) != (xs.length : Int)) = false := by simp
  unfold vecv
  go_enter Try.func53, Try.ntmps53
  go_wp2_with fail
  go_at_call 61
  refine (len_any ha).mono ?_
  rintro e w1 ⟨rfl, rfl⟩
  go_wp2_with fail
  go_at_call 61
  refine (len_any hb).mono ?_
  rintro e w1 ⟨rfl, rfl⟩
  rw [h2]
  go_wp2
  go_ret
  exact ⟨rfl, rfl⟩

def mayB (n m : Nat) : Bool := decide (1 ≤ n ∧ n ≤ 256 ∧ m = n)

/-- What a closure does at each place, done at each. -/
theorem each_any (F : Nat) (hF : ∀ args w, (callFunc F args).run Try.prog w = .ok (.enter F args) w) (cap : Array Value) (n : Nat) (I : Nat → World → Prop) (w : World) (h0 : I 0 w)
    (step : ∀ i w, i < n → I i w → Calls Try.prog F (#[.int .i64 (i : Int)] ++ cap) w fun e w' => e = .returned (.int .i64 0) ∧ I (i + 1) w') (hn : n ≤ 256) :
    Calls Try.prog 54 #[.int .i64 n, .func (.func F) #[] cap] w fun e w' => e = .returned (.int .i64 0) ∧ I n w' := by
  go_enter Try.func54, Try.ntmps54
  go_wp2
  go_loopw [8] (fun i wr => ∃ k : Nat, k ≤ n ∧ i = .int .i64 k ∧ Hid (I k wr)) (fun i _ => n - (intOf i).toNat)
  case atStart => exact ⟨0, by omega, rfl, h0⟩
  case round =>
    obtain ⟨k, hk, rfl, HI⟩ := hrel
    by_cases hlt : k < n
    · go_wp2_with fail
      refine (step k _ hlt HI.out).mono ?_
      rintro e w1 ⟨rfl, HJ⟩
      have HK := hide HJ
      clear HJ step
      go_wp2
      go_roundw
      case rel => exact ⟨k + 1, by omega, by go_num, HK⟩
      case measure => simp [intOf]; omega
    · obtain rfl : k = n := by omega
      go_wp2
      go_ret
      exact ⟨rfl, HI.out⟩
end Go.Proofs.Ytjdbjahgimlhbaa
end
section
set_option linter.unusedVariables false
set_option maxRecDepth 100000
namespace Go.Proofs.Ytjdbjahgimlhbaa
open Go.RowKit

/-- slices of whole numbers, in a slice -/
def ListsAt (w : World) (B : Nat) (A : Option Addr) (n : Nat) (L : List (List Int)) : Prop :=
  n = L.length ∧ ∃ vs : List Value, Reads w B 1 A n vs ∧ ∀ (i : Nat) (l : List Int), L[i]? = some l → ∃ A' c, vs[i]? = some (.slice A' l.length c) ∧ Reads w B 1 A' l.length (l.map (Value.int .i64)) ∧ l.length ≤ 9223372036854775807

section
variable {w w' : World} {B n : Nat} {A : Option Addr} {L : List (List Int)}
theorem ListsAt.fr {S : Nat → Prop} (h : ListsAt w B A n L) (hf : Fr S w w') (hB : B ≤ w.heap.size) (hs : ∀ k, S k → B ≤ k) : ListsAt w' B A n L := by
  obtain ⟨h1, vs, h2, h3⟩ := h
  refine ⟨h1, vs, h2.fr hf hB hs, fun i l hl => ?_⟩
  obtain ⟨A', c, e1, e2, e3⟩ := h3 i l hl
  exact ⟨A', c, e1, e2.fr hf hB hs, e3⟩
theorem ListsAt.more {B' : Nat} (h : ListsAt w B A n L) (hB : B ≤ B') : ListsAt w B' A n L := by
  obtain ⟨h1, vs, h2, h3⟩ := h
  refine ⟨h1, vs, h2.more hB, fun i l hl => ?_⟩
  obtain ⟨A', c, e1, e2, e3⟩ := h3 i l hl
  exact ⟨A', c, e1, e2.more hB, e3⟩
theorem ListsAt.up (h : ListsAt w w.heap.size A n L) (hf : Fr (fun _ => False) w w') : ListsAt w' w'.heap.size A n L := (h.fr hf (Nat.le_refl _) (fun _ h => h.elim)).more hf.size
theorem ListsAt.at_ (h : ListsAt w B A n L) {k : Nat} (hk : k < n) : ∃ b o A' c, ∃ l : List Int, A = some ⟨b, o, none⟩ ∧ b < B ∧ L.drop k = l :: L.drop (k + 1) ∧ w.cell? ⟨b, o + k, none⟩ = some (.slice A' l.length c) ∧ Reads w B 1 A' l.length (l.map (Value.int .i64)) ∧ l.length ≤ 9223372036854775807 := by
  obtain ⟨rfl, vs, h2, h3⟩ := h
  obtain ⟨A', c, e1, e2, e3⟩ := h3 k L[k] (by simp)
  obtain ⟨b, o, u, rfl, hb, hu, hc⟩ := h2.at_ hk
  rw [hu] at e1
  obtain rfl := Option.some.inj e1
  exact ⟨b, o, A', c, L[k], rfl, hb, List.drop_eq_getElem_cons hk, hc, e2, e3⟩
end
/-- the same, the slices by name -/
def LsAt (w : World) (vs : List Value) (A : Option Addr) (n : Nat) (L : List (List Int)) : Prop :=
  n = L.length ∧ Reads w w.heap.size 1 A n vs ∧ ∀ (i : Nat) (l : List Int), L[i]? = some l → ∃ A' c, vs[i]? = some (.slice A' l.length c) ∧ Reads w w.heap.size 1 A' l.length (l.map (Value.int .i64)) ∧ l.length ≤ 9223372036854775807
theorem LsAt.lists {w : World} {vs : List Value} {A : Option Addr} {n : Nat} {L : List (List Int)} (h : LsAt w vs A n L) : ListsAt w w.heap.size A n L := ⟨h.1, vs, h.2⟩
theorem LsAt.lens {w : World} {vs : List Value} {A : Option Addr} {n : Nat} {L : List (List Int)} (h : LsAt w vs A n L) : ∀ l ∈ L, l.length ≤ 9223372036854775807 := by
  intro l hl
  obtain ⟨i, hi, rfl⟩ := List.getElem_of_mem hl
  obtain ⟨_, _, _, _, h⟩ := h.2.2 i L[i] (by simp)
  exact h
theorem LsAt.up {w w' : World} {vs : List Value} {A : Option Addr} {n : Nat} {L : List (List Int)} (h : LsAt w vs A n L) (hf : Fr (fun _ => False) w w') : LsAt w' vs A n L := by
  obtain ⟨h1, h2, h3⟩ := h
  refine ⟨h1, h2.up hf, fun i l hl => ?_⟩
  obtain ⟨A', c, e1, e2, e3⟩ := h3 i l hl
  exact ⟨A', c, e1, e2.up hf, e3⟩
theorem ListsAt.name {w : World} {B n : Nat} {A : Option Addr} {L : List (List Int)} (h : ListsAt w B A n L) : ∃ vs, ∀ (S : Nat → Prop) w', Fr S w w' → B ≤ w.heap.size → (∀ k, S k → B ≤ k) → LsAt w' vs A n L := by
  obtain ⟨h1, vs, h2, h3⟩ := h
  refine ⟨vs, fun S w' hf hB hS => ⟨h1, (h2.fr hf hB hS).more (Nat.le_trans hB hf.size), fun i l hl => ?_⟩⟩
  obtain ⟨A', c, e1, e2, e3⟩ := h3 i l hl
  exact ⟨A', c, e1, (e2.fr hf hB hS).more (Nat.le_trans hB hf.size), e3⟩
theorem LsAt.at_ {w : World} {vs : List Value} {A : Option Addr} {n : Nat} {L : List (List Int)} (h : LsAt w vs A n L) {k : Nat} (hk : k < n) :
    ∃ b o A' c, ∃ l : List Int, A = some ⟨b, o, none⟩ ∧ b < w.heap.size ∧ L.drop k = l :: L.drop (k + 1) ∧ w.cell? ⟨b, o + k, none⟩ = some (.slice A' l.length c) ∧ Reads w w.heap.size 1 A' l.length (l.map (Value.int .i64)) ∧ l.length ≤ 9223372036854775807 ∧ vs[k]? = some (.slice A' l.length c) := by
  obtain ⟨rfl, h2, h3⟩ := h
  obtain ⟨A', c, e1, e2, e3⟩ := h3 k L[k] (by simp)
  obtain ⟨b, o, u, rfl, hb, hu, hc⟩ := h2.at_ hk
  have e1' := e1
  rw [hu] at e1
  obtain rfl := Option.some.inj e1
  exact ⟨b, o, A', c, L[k], rfl, hb, List.drop_eq_getElem_cons hk, hc, e2, e3, e1'⟩
theorem ints_at {w : World} {B n : Nat} {A : Option Addr} {l : List Int} (h : Reads w B 1 A n (l.map (Value.int .i64))) {k : Nat} (hk : k < n) :
    ∃ b o v, A = some ⟨b, o, none⟩ ∧ b < B ∧ l.drop k = v :: l.drop (k + 1) ∧ w.cell? ⟨b, o + k, none⟩ = some (.int .i64 v) := by
  have hn : l.length = n := by have := h.1; simpa using this
  obtain ⟨b, o, u, rfl, hb, hu, hc⟩ := h.at_ hk
  have hk' : k < l.length := by omega
  rw [List.getElem?_map, List.getElem?_eq_getElem hk'] at hu
  obtain rfl := Option.some.inj hu
  exact ⟨b, o, l[k], rfl, hb, List.drop_eq_getElem_cons hk', hc⟩

def okV (n : Nat) (v : Int) : Bool := decide (0 ≤ v ∧ v < n)
def okLs (n : Nat) (L : List (List Int)) : Bool := L.all fun l => l.all (okV n)
def fitsB (fr to : Int) (n : Nat) (L : List (List Int)) : Bool := decide (0 ≤ fr ∧ fr ≤ to ∧ to ≤ n ∧ (L.length : Int) = to - fr) && okLs n L
def errB (b : Bool) : Int := if b then 0 else 2

theorem okLs_next {n : Nat} {l : List Int} {L L' R : List (List Int)} {k : Nat} (h : okLs n L = okLs n (R.drop k)) (hd : R.drop k = l :: R.drop (k + 1)) : okLs n L = (l.all (okV n) && okLs n (R.drop (k + 1))) := by
  rw [h, hd]; rfl
theorem okV_next {n : Nat} {l : List Int} {a b : Bool} {j : Nat} {v : Int} (h : a = ((l.drop j).all (okV n) && b)) (hd : l.drop j = v :: l.drop (j + 1)) (hv : okV n v = true) : a = ((l.drop (j + 1)).all (okV n) && b) := by
  rw [h, hd]; simp [hv]
theorem okV_bad {n : Nat} {l : List Int} {a b : Bool} {j : Nat} {v : Int} (h : a = ((l.drop j).all (okV n) && b)) (hd : l.drop j = v :: l.drop (j + 1)) (hv : okV n v = false) : a = false := by
  rw [h, hd]; simp [hv]
theorem fits_any (fr to : Int) (n m c : Nat) (A : Option Addr) (L : List (List Int)) (w : World) (hl : ListsAt w w.heap.size A m L) (hn : n ≤ 256) :
    Calls Try.prog 57 #[.agg #[.int .i64 fr, .int .i64 to, .slice A m c], .int .i64 n] w fun e w' => e = .returned (.int .i64 (errB (fitsB fr to n L))) ∧ Fr (fun _ => False) w w' := by
  by_cases h1 : fr < 0
  · have hr : fitsB fr to n L = false := by simp [fitsB]; omega
    rw [hr]
    clear hl hr
    go_enter Try.func57, Try.ntmps57
    go_wp2
    go_ret
    exact ⟨rfl, (Fr.refl _ _).alloc _⟩
  by_cases h2 : (n : Int) < to
  · have hr : fitsB fr to n L = false := by simp [fitsB]; omega
    rw [hr]
    clear hl hr
    go_enter Try.func57, Try.ntmps57
    go_wp2
    go_ret
    exact ⟨rfl, (Fr.refl _ _).alloc _⟩
  by_cases h3 : to < fr
  · have hr : fitsB fr to n L = false := by simp [fitsB]; omega
    rw [hr]
    clear hl hr
    go_enter Try.func57, Try.ntmps57
    go_wp2
    go_ret
    exact ⟨rfl, (Fr.refl _ _).alloc _⟩
  by_cases h4 : (m : Int) = to - fr
  · have hb4 : ((m : Int) != to - fr) = false := by simp [h4]
    have hm : m = L.length := hl.1
    have hr : fitsB fr to n L = okLs n L := by
      simp only [fitsB, show (0 ≤ fr ∧ fr ≤ to ∧ to ≤ (n : Int) ∧ (L.length : Int) = to - fr) by omega, and_self, decide_true, Bool.true_and]
    rw [hr]
    have HF := (Fr.refl (fun _ => False) w).alloc (.cells #[.int .i64 fr, .int .i64 to, .slice A m c] 45)
    have hl' := hl.fr HF (Nat.le_refl _) (fun k hk => hk.elim)
    have HF' := hide HF
    have HM := hide hm
    have hm2 : m ≤ 256 := by omega
    have HL := hide hl'
    clear hl hr HF hm hl' h4
    go_enter Try.func57, Try.ntmps57
    go_wp2
    go_loopw [45] (fun i wr => ∃ k : Nat, k ≤ m ∧ i = .int .i64 k ∧ Hid (okLs n L = okLs n (L.drop k)) ∧ wr = w.alloc (.cells #[.int .i64 fr, .int .i64 to, .slice A m c] 45)) (fun i _ => m - (intOf i).toNat)
    case atStart => exact ⟨0, by omega, rfl, hide rfl, rfl⟩
    case round =>
      obtain ⟨k, hk, rfl, HK, rfl⟩ := hrel
      by_cases hlt : k < m
      · obtain ⟨b, o, A', c', l, rfl, hb, hd, hc, hr, hmx⟩ := HL.out.at_ hlt
        have HK' := hide (okLs_next (L' := L) HK.out hd)
        generalize hq : l.length = q at *
        have HQ := hide hq
        clear hd hq HK
        go_wp2
        go_loopw [51] (fun i wr => ∃ j : Nat, j ≤ q ∧ i = .int .i64 j ∧ Hid (okLs n L = ((l.drop j).all (okV n) && okLs n (L.drop (k + 1)))) ∧ wr = w.alloc (.cells #[.int .i64 fr, .int .i64 to, .slice (some ⟨b, o, none⟩) m c] 45)) (fun i _ => q - (intOf i).toNat)
        case atStart => exact ⟨0, by omega, rfl, hide HK'.out, rfl⟩
        case round =>
          obtain ⟨j, hj, rfl, HJ, rfl⟩ := hrel
          by_cases hlt2 : j < q
          · obtain ⟨b2, o2, v, rfl, hb2, hd2, hc2⟩ := ints_at hr hlt2
            by_cases hv : 0 ≤ v ∧ v < n
            · have HJ' := hide (okV_next HJ.out hd2 (by simpa [okV] using hv))
              obtain ⟨hv1, hv2⟩ := hv
              clear hd2 HJ hr
              go_wp2
              go_roundw
              case rel => exact ⟨j + 1, by omega, by go_num, HJ', by first | rfl | trivial⟩
              case measure => simp [intOf]; omega
            · have HJ' := hide (okV_bad HJ.out hd2 (by simpa [okV] using hv))
              clear hd2 HJ hr
              by_cases hv1 : v < 0
              · go_wp2
                go_ret
                exact ⟨by rw [HJ'.out]; rfl, HF'.out⟩
              · have hv2 : (n : Int) ≤ v := by omega
                clear hv
                go_wp2
                go_ret
                exact ⟨by rw [HJ'.out]; rfl, HF'.out⟩
          · have HJ' : Hid (okLs n L = okLs n (L.drop (k + 1))) := by
              have h := HJ.out
              rw [List.drop_of_length_le (by rw [HQ.out]; omega)] at h
              exact hide (by simpa using h)
            go_wp2
            go_roundw
            case rel => exact ⟨k + 1, by omega, by go_num, HJ', by first | rfl | trivial⟩
            case measure => simp [intOf]; omega
      · have HK' : Hid (okLs n L = true) := by
          have h := HK.out
          rw [List.drop_of_length_le (by rw [← HM.out]; omega)] at h
          exact h
        clear HK
        go_wp2
        go_ret
        exact ⟨by rw [HK'.out]; rfl, HF'.out⟩
  · have hb4 : ((m : Int) != to - fr) = true := by simp [h4]
    have hr : fitsB fr to n L = false := by have := hl.1; simp [fitsB]; omega
    rw [hr]
    clear hl hr h4
    go_enter Try.func57, Try.ntmps57
    go_wp2
    go_ret
    exact ⟨rfl, (Fr.refl _ _).alloc _⟩
end Go.Proofs.Ytjdbjahgimlhbaa
end
section
set_option linter.unusedVariables false
set_option maxRecDepth 100000
namespace Go.Proofs.Ytjdbjahgimlhbaa
open Go.RowKit Go.Sort

def ivals (l : List Nat) : List Value := l.map fun v : Nat => .int .i64 (v : Int)
theorem ivals_len (l : List Nat) : (ivals l).length = l.length := by simp [ivals]
theorem ivals_ints (l : List Nat) : ivals l = (l.map fun v : Nat => (v : Int)).map (Value.int .i64) := by simp [ivals]
theorem int_info : (Try.prog.info? 3).map (fun i => (i.zero, i.size, i.bytes)) = some (some (.int .i64 0), 1, 8) := by kernel_rfl
theorem ints_info : (Try.prog.info? 64).map (fun i => (i.zero, i.size, i.bytes)) = some (some (.slice none 0 0), 1, 24) := by kernel_rfl
theorem own_fr {w w' : World} {base size n : Nat} {e : TypeId} {v : Value} {xs : List Value} (h : w.ownsRow base e size v n xs) (hf : Fr (fun _ => False) w w') : w'.ownsRow base e size v n xs :=
  h.kept (row := none) ⟨hf.os, hf.tape, hf.output, hf.size, fun k hk _ => hf.block k hk (fun h => h)⟩ (by cases hv : v.ownBlock <;> simp)
theorem own_frS {S : Nat → Prop} {w w' : World} {base size n : Nat} {e : TypeId} {v : Value} {xs : List Value} (h : w.ownsRow base e size v n xs) (hf : Fr S w w') (hn : ∀ k, v.ownBlock = some k → ¬ S k) : w'.ownsRow base e size v n xs := by
  refine ⟨h.1, ?_⟩
  rcases h.2 with h1 | ⟨g, cap, cur, rfl, hb, hg, rest⟩
  · exact .inl h1
  · refine .inr ⟨g, cap, cur, rfl, hb, ?_, rest⟩
    rw [hf.block g (Array.getElem?_eq_some_iff.1 hg).1 (hn g (by simp [Value.ownBlock]))]
    exact hg
/-- lists whose memory is the blocks from lo to hi -/
def ListsIn (w : World) (lo hi : Nat) (A : Option Addr) (m : Nat) (L : List (List Int)) : Prop := ∀ (S : Nat → Prop) (w' : World), Fr S w w' → (∀ k, lo ≤ k → k < hi → ¬ S k) → ListsAt w' w'.heap.size A m L
theorem ListsIn.fr {S : Nat → Prop} {w w' : World} {lo hi m : Nat} {A : Option Addr} {L : List (List Int)} (h : ListsIn w lo hi A m L) (hf : Fr S w w') (hs : ∀ k, lo ≤ k → k < hi → ¬ S k) : ListsIn w' lo hi A m L := fun S' w2 hf2 hs2 =>
  h (fun k => S k ∨ S' k) w2 ((hf.mono (fun k h => .inl h)).trans hf2 (fun k h => .inl (.inr h))) (fun k h1 h2 h3 => h3.elim (hs k h1 h2) (hs2 k h1 h2))
theorem ListsIn.lists {w : World} {lo hi m : Nat} {A : Option Addr} {L : List (List Int)} (h : ListsIn w lo hi A m L) : ListsAt w w.heap.size A m L := h (fun _ => False) w (Fr.refl _ _) (fun _ _ _ h => h)
theorem grown_set {w w' : World} {row : Option Nat} (hg : w.grownBy w' row) : Fr (fun k => row = some k) w w' := Fr.of_grown hg
theorem set_grown (w : World) (B i : Nat) (v : Value) : w.grownBy (w.setCell ⟨B, i, none⟩ v) (some B) := by
  have h := Fr.one w B i v
  exact ⟨h.os, h.tape, h.output, h.size, fun k hk hn => h.block k hk (fun e => hn (by rw [e]))⟩

/-- a table of rows; each row lies from H on, no two in one block -/
def RowsAt (w : World) (H B : Nat) (L : List (List Nat)) : Prop :=
  B < H ∧ ∃ vs : Array Value, Blk w B 64 vs ∧ vs.size = L.length ∧ (∀ (i : Nat) (l : List Nat), L[i]? = some l → ∃ v, vs[i]? = some v ∧ w.ownsRow H 3 1 v l.length (ivals l)) ∧
    (∀ (i j : Nat) (u v : Value), i ≠ j → vs[i]? = some u → vs[j]? = some v → u.ownBlock = none ∨ u.ownBlock ≠ v.ownBlock)
section
variable {w w' : World} {H B : Nat} {L : List (List Nat)}
theorem RowsAt.fr (h : RowsAt w H B L) (hf : Fr (fun _ => False) w w') : RowsAt w' H B L := by
  obtain ⟨h0, vs, h1, h2, h3, h4⟩ := h
  refine ⟨h0, vs, h1.fr hf (fun h => h), h2, fun i l hl => ?_, h4⟩
  obtain ⟨v, e1, e2⟩ := h3 i l hl
  exact ⟨v, e1, own_fr e2 hf⟩
theorem RowsAt.row (h : RowsAt w H B L) {i : Nat} {l : List Nat} (hi : L[i]? = some l) : ∃ A c, w.cell? ⟨B, i, none⟩ = some (.slice A l.length c) ∧ w.ownsRow H 3 1 (.slice A l.length c) l.length (ivals l) := by
  obtain ⟨h0, vs, h1, h2, h3, h4⟩ := h
  obtain ⟨v, e1, e2⟩ := h3 i l hi
  obtain ⟨A, c, rfl⟩ := Reads.own_val e2
  exact ⟨A, c, by rw [h1.cell]; exact e1, e2⟩
theorem RowsAt.lt (h : RowsAt w H B L) : B < w.heap.size := by
  obtain ⟨h0, vs, h1, h2, h3, h4⟩ := h
  exact h1.lt
theorem RowsAt.frozen (h : RowsAt w H B L) (i : Nat) : w.frozen? ⟨B, i, none⟩ = false := by
  obtain ⟨h0, vs, h1, h2, h3, h4⟩ := h
  exact h1.frozen i
theorem RowsAt.frS {S : Nat → Prop} (h : RowsAt w H B L) (hf : Fr S w w') (hs : ∀ k, k = B ∨ (H ≤ k ∧ k < w.heap.size) → ¬ S k) : RowsAt w' H B L := by
  obtain ⟨h0, vs, h1, h2, h3, h4⟩ := h
  refine ⟨h0, vs, h1.fr hf (hs B (.inl rfl)), h2, fun i l hl => ?_, h4⟩
  obtain ⟨v, e1, e2⟩ := h3 i l hl
  exact ⟨v, e1, own_frS e2 hf (fun k hk => hs k (.inr (e2.lt k hk)))⟩
/-- a row turned: the table's cell is to be set yet -/
theorem RowsAt.turn (h : RowsAt w H B L) {i : Nat} {l l' : List Nat} {v v' : Value} (hi : L[i]? = some l) (hv : w.cell? ⟨B, i, none⟩ = some v) (hg : w.grownBy w' v.ownBlock) (ho : w'.ownsRow H 3 1 v' l'.length (ivals l'))
    (hn : v'.ownBlock = v.ownBlock ∨ ∃ g, v'.ownBlock = some g ∧ w.heap.size ≤ g) : RowsAt (w'.setCell ⟨B, i, none⟩ v') H B (L.set i l') := by
  obtain ⟨h0, vs, h1, h2, h3, h4⟩ := h
  have hiL : i < L.length := (List.getElem?_eq_some_iff.1 hi).1
  obtain ⟨v2, e1, e2⟩ := h3 i l hi
  have : v2 = v := by rw [h1.cell, e1] at hv; exact Option.some.inj hv
  subst this
  have hBv : some B ≠ v2.ownBlock := fun e => by have := (e2.lt B e.symm).1; omega
  have hB1 : Blk w' B 64 vs := (hg.block B h1.lt hBv).trans h1
  have hBo : ∀ u (x : World) m ys, x.ownsRow H 3 1 u m ys → u.ownBlock = none ∨ u.ownBlock ≠ some B := fun u x m ys hu => by
    cases hub : u.ownBlock with
    | none => exact .inl rfl
    | some k => have := (hu.lt k hub).1; exact .inr (by simp; omega)
  refine ⟨h0, vs.setIfInBounds i v', hB1.set_ i v', by simp [h2], fun j m hm => ?_, fun j k u x hjk hu hx => ?_⟩
  · by_cases hji : j = i
    · subst hji
      rw [List.getElem?_set_self hiL] at hm
      obtain rfl := Option.some.inj hm
      refine ⟨v', ?_, ho.kept (set_grown _ _ _ _) (hBo _ _ _ _ ho)⟩
      simp [h2, hiL]
    · rw [List.getElem?_set_ne (Ne.symm hji)] at hm
      obtain ⟨u, f1, f2⟩ := h3 j m hm
      refine ⟨u, by rw [Array.getElem?_setIfInBounds_ne (Ne.symm hji)]; exact f1, (f2.kept hg (h4 j i u v2 hji f1 e1)).kept (set_grown _ _ _ _) (hBo _ _ _ _ f2)⟩
  · have hsz : i < vs.size := by omega
    have old : ∀ (k : Nat) (u : Value), k ≠ i → vs[k]? = some u → u.ownBlock = none ∨ (u.ownBlock ≠ v'.ownBlock) := fun k u hki hu => by
      rcases h4 k i u v2 hki hu e1 with h | h
      · exact .inl h
      · rcases hn with hn | ⟨g, hn, hge⟩
        · exact .inr (by rw [hn]; exact h)
        · have hk : k < L.length := by rw [← h2]; exact (Array.getElem?_eq_some_iff.1 hu).1
          obtain ⟨u2, f1, f2⟩ := h3 k L[k] (List.getElem?_eq_getElem hk)
          rw [hu] at f1
          obtain rfl := Option.some.inj f1
          cases hub : u.ownBlock with
          | none => exact .inl rfl
          | some b => have := (f2.lt b hub).2; exact .inr (by rw [hn]; simp; omega)
    by_cases hj : j = i
    · subst hj
      rw [Array.getElem?_setIfInBounds_self_of_lt hsz] at hu
      obtain rfl := Option.some.inj hu
      rw [Array.getElem?_setIfInBounds_ne hjk] at hx
      rcases old k x (Ne.symm hjk) hx with h | h
      · cases hv' : v'.ownBlock with
        | none => exact .inl rfl
        | some b => exact .inr (by rw [h]; simp)
      · exact .inr (Ne.symm h)
    · rw [Array.getElem?_setIfInBounds_ne (Ne.symm hj)] at hu
      by_cases hk : k = i
      · subst hk
        rw [Array.getElem?_setIfInBounds_self_of_lt hsz] at hx
        obtain rfl := Option.some.inj hx
        exact old j u hj hu
      · rw [Array.getElem?_setIfInBounds_ne (Ne.symm hk)] at hx
        exact h4 j k u x hjk hu hx
/-- a row turned in place -/
theorem RowsAt.same (h : RowsAt w H B L) {i : Nat} {l : List Nat} {v : Value} (hi : L[i]? = some l) (hv : w.cell? ⟨B, i, none⟩ = some v) (hg : w.grownBy w' v.ownBlock) (ho : w'.ownsRow H 3 1 v l.length (ivals l)) : RowsAt w' H B L := by
  obtain ⟨h0, vs, h1, h2, h3, h4⟩ := h
  obtain ⟨v2, e1, e2⟩ := h3 i l hi
  have : v2 = v := by rw [h1.cell, e1] at hv; exact Option.some.inj hv
  subst this
  have hBv : some B ≠ v2.ownBlock := fun e => by have := (e2.lt B e.symm).1; omega
  refine ⟨h0, vs, (hg.block B h1.lt hBv).trans h1, h2, fun j m hm => ?_, h4⟩
  by_cases hji : j = i
  · subst hji
    rw [hi] at hm
    obtain rfl := Option.some.inj hm
    exact ⟨v2, e1, ho⟩
  · obtain ⟨u, f1, f2⟩ := h3 j m hm
    exact ⟨u, f1, f2.kept hg (h4 j i u v2 hji f1 e1)⟩
/-- a store elsewhere -/
theorem RowsAt.far (h : RowsAt w H B L) {g i : Nat} (u : Value) (h1 : g ≠ B) (h2 : g < H) : RowsAt (w.setCell ⟨g, i, none⟩ u) H B L := by
  obtain ⟨h0, vs, h3, h4, h5, h6⟩ := h
  refine ⟨h0, vs, h3.far (p := ⟨g, i, none⟩) (Ne.symm h1) u, h4, fun j m hm => ?_, h6⟩
  obtain ⟨x, e1, e2⟩ := h5 j m hm
  refine ⟨x, e1, e2.kept (set_grown _ _ _ _) ?_⟩
  cases hx : x.ownBlock with
  | none => exact .inl rfl
  | some k => have := (e2.lt k hx).1; exact .inr (by simp; omega)
/-- as lists -/
theorem RowsAt.lists (h : RowsAt w H B L) {m : Nat} (hm : L.length = m) (hb : ∀ l ∈ L, l.length ≤ 9223372036854775807) : ListsAt w w.heap.size (some ⟨B, 0, none⟩) m (L.map fun l => l.map fun v : Nat => (v : Int)) := by
  obtain ⟨h0, vs, h1, h2, h3, h4⟩ := h
  refine ⟨by simp [hm], vs.toList, ?_, fun i l hl => ?_⟩
  · have : Blk w B 64 vs.toList.toArray := by simpa using h1
    exact Reads.blk this (by simp [h2, hm])
  · rw [List.getElem?_map] at hl
    cases hx : L[i]? with
    | none => rw [hx] at hl; cases hl
    | some x =>
      rw [hx] at hl
      obtain rfl := Option.some.inj hl
      obtain ⟨v, e1, e2⟩ := h3 i x hx
      obtain ⟨A, c, rfl⟩ := Reads.own_val e2
      have hr := Reads.of_own e2
      rw [ivals_ints] at hr
      refine ⟨A, c, ?_, ?_, ?_⟩
      · rw [List.length_map, Array.getElem?_toList]
        exact e1
      · simpa using hr
      · rw [List.length_map]
        exact hb x (List.mem_of_getElem? hx)
end

theorem ints_sorted {l : List Nat} (h : l.Pairwise (· < ·)) : (l.map fun v : Nat => (v : Int)).mergeSort (fun x y => decide (x ≤ y)) = l.map fun v : Nat => (v : Int) := by
  apply List.mergeSort_of_pairwise
  rw [List.pairwise_map]
  refine h.imp ?_
  intro a b hab
  simp
  omega
theorem ints_compact {l : List Nat} (h : l.Pairwise (· < ·)) : Lib.compact (l.map fun v : Nat => (v : Int)) = l.map fun v : Nat => (v : Int) := by
  apply Lib.compact_all
  intro j hj
  simp only [List.length_map] at hj
  unfold Lib.keeps
  rw [decide_eq_true_iff]
  rcases Nat.eq_zero_or_pos j with h0 | h0
  · exact .inl h0
  · refine .inr ?_
    have h1 := (List.pairwise_iff_getElem.1 h) (j - 1) j (by omega) hj (by omega)
    rw [getElem!_pos _ j (by simpa using hj), getElem!_pos _ (j - 1) (by simp; omega)]
    simp
    omega
theorem sort_own {H : Nat} {v : Value} {l : List Nat} {w : World} (ho : w.ownsRow H 3 1 v l.length (ivals l)) (hs : l.Pairwise (· < ·)) (hn : l.length ≤ 4096) :
    Calls Try.prog 82 #[v] w fun e w' => e = .returned (.tuple #[]) ∧ w.grownBy w' v.ownBlock ∧ w'.ownsRow H 3 1 v l.length (ivals l) := by
  rcases ho.2 with ⟨rfl, h0⟩ | ⟨g, cap, cur, rfl, hb, hg, h1, h2, h3, h4⟩
  · have hc := Try.slices_Sort_int_none none 0 w
    have hl : l = [] := List.eq_nil_of_length_eq_zero h0
    refine hc.mono ?_
    rintro e w' ⟨rfl, rfl⟩
    exact ⟨rfl, ⟨rfl, rfl, rfl, Nat.le_refl _, fun _ _ _ => rfl⟩, ho⟩
  · rw [Nat.mul_one, ivals_ints] at h4
    have hlen : (l.map fun v : Nat => (v : Int)).length = l.length := by simp
    have hH := holds_of_blockI (ss := l.map fun v : Nat => (v : Int)) hg (by rw [hlen]; exact h4)
    have hc := Try.slices_Sort_int g 0 cap (l.map fun v : Nat => (v : Int)) w hH (Array.getElem?_eq_some_iff.1 hg).1 (by rw [hlen]; omega)
    rw [hlen, ints_sorted hs] at hc
    refine hc.mono ?_
    rintro e w' ⟨rfl, n, os, rfl⟩
    refine ⟨rfl, grownBy_sortedI _, ?_⟩
    have := ownsRow_sortedI (n := n) (os := os) (ss := l.map fun v : Nat => (v : Int)) (ts := l.map fun v : Nat => (v : Int)) rfl hb hg (by rw [hlen]; exact h1) h2 h3
    rw [hlen] at this
    rw [ivals_ints]
    exact this
theorem compact_own {H : Nat} {v : Value} {l : List Nat} {w : World} (ho : w.ownsRow H 3 1 v l.length (ivals l)) (hs : l.Pairwise (· < ·)) (hn : l.length ≤ 4096) :
    Calls Try.prog 83 #[v] w fun e w' => e = .returned v ∧ w.grownBy w' v.ownBlock ∧ w'.ownsRow H 3 1 v l.length (ivals l) := by
  rcases ho.2 with ⟨rfl, h0⟩ | ⟨g, cap, cur, rfl, hb, hg, h1, h2, h3, h4⟩
  · refine (Try.slices_Compact_int_empty none 0 w).mono ?_
    rintro e w' ⟨rfl, rfl⟩
    exact ⟨rfl, ⟨rfl, rfl, rfl, Nat.le_refl _, fun _ _ _ => rfl⟩, ho⟩
  · rw [Nat.mul_one, ivals_ints] at h4
    have hlen : (l.map fun v : Nat => (v : Int)).length = l.length := by simp
    have hH := holds_of_blockI (ss := l.map fun v : Nat => (v : Int)) hg (by rw [hlen]; exact h4)
    have hc := Try.slices_Compact_int g 0 cap (l.map fun v : Nat => (v : Int)) w hH (by rw [hlen]; omega) (by rw [hlen]; exact h1)
    rw [ints_compact hs, hlen, Nat.sub_self, List.replicate_zero, List.append_nil] at hc
    refine hc.mono ?_
    rintro e w' ⟨rfl, q, rfl⟩
    have hgr : grow (putRow (Value.int .i64) (Sort.ahead w q) g 0 (l.map fun v : Nat => (v : Int)).toArray) #[] = putRow (Value.int .i64) (Sort.ahead w q) g 0 (l.map fun v : Nat => (v : Int)).toArray := by unfold grow; rw [Array.append_empty]
    refine ⟨rfl, ?_, ?_⟩
    · rw [← hgr]
      exact grownBy_sortedI _
    · have := ownsRow_sortedI (n := q) (os := #[]) (ss := l.map fun v : Nat => (v : Int)) (ts := l.map fun v : Nat => (v : Int)) rfl hb hg (by rw [hlen]; exact h1) h2 h3
      rw [hlen, hgr] at this
      rw [ivals_ints]
      exact this
end Go.Proofs.Ytjdbjahgimlhbaa
end
