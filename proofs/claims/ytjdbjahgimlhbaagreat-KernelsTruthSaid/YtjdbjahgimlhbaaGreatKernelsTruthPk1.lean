/- Parts of the proof of KernelsTruth: no conditions of their own. -/
import Derived.Test.YtjdbjahgimlhbaaGreatKernelsTruthPk0
section
set_option linter.unusedVariables false
set_option maxRecDepth 100000
namespace Go.Proofs.YtjdbjahgimlhbaaGreat
open Go.RowKit

/-- a plain vector in an interface -/
def vecv (p : Nat) : Value := .iface 67 (.pointer (some ⟨p, 0, none⟩))

theorem meth_len (p : Nat) (w : World) : (method 309 67 (.pointer (some ⟨p, 0, none⟩)) "Len").run Tryz.prog w = .ok (154, .pointer (some ⟨p, 0, none⟩)) w := by kernel_rfl
theorem meth_get (p : Nat) (w : World) : (method 309 67 (.pointer (some ⟨p, 0, none⟩)) "Get").run Tryz.prog w = .ok (153, .pointer (some ⟨p, 0, none⟩)) w := by kernel_rfl
theorem meth_set (p : Nat) (w : World) : (method 309 67 (.pointer (some ⟨p, 0, none⟩)) "Set").run Tryz.prog w = .ok (155, .pointer (some ⟨p, 0, none⟩)) w := by kernel_rfl

theorem check_ok {pa ga pb gb : Nat} {xs ys : List Nat} {w : World} (ha : PlainAt w pa ga xs) (hb : PlainAt w pb gb ys) (h1 : 1 ≤ xs.length) (h2 : ys.length = xs.length) :
    Calls Tryz.prog 42 #[vecv pa, vecv pb] w fun e w' => e = .returned (.int .i64 0) ∧ w = w' := by
  have h3 := ha.len
  have hm := fun p => meth_len p
  have hbe : ((xs.length : Int) != (xs.length : Int)) = false := by simp
  unfold vecv
  go_enter Tryz.func42, Tryz.ntmps42
  go_wp2_with fail
  go_at_call 154
  refine (len_any ha).mono ?_
  rintro e w1 ⟨rfl, rfl⟩
  go_wp2_with fail
  go_at_call 154
  refine (len_any hb).mono ?_
  rintro e w1 ⟨rfl, rfl⟩
  rw [h2]
  go_wp2
  go_ret
  exact ⟨rfl, rfl⟩

def mayB (n m : Nat) : Bool := decide (1 ≤ n ∧ n ≤ 256 ∧ m = n)

/-- What a closure does at each place, done at each. -/
theorem each_any (F : Nat) (hF : ∀ args w, (callFunc F args).run Tryz.prog w = .ok (.enter F args) w) (cap : Array Value) (n : Nat) (I : Nat → World → Prop) (w : World) (h0 : I 0 w)
    (step : ∀ i w, i < n → I i w → Calls Tryz.prog F (#[.int .i64 (i : Int)] ++ cap) w fun e w' => e = .returned (.int .i64 0) ∧ I (i + 1) w') (hn : n ≤ 256) :
    Calls Tryz.prog 87 #[.int .i64 n, .func (.func F) #[] cap] w fun e w' => e = .returned (.int .i64 0) ∧ I n w' := by
  go_enter Tryz.func87, Tryz.ntmps87
  go_wp2
  go_loopw [8] (fun i wr => ∃ k : Nat, k ≤ n ∧ i = .int .i64 k ∧ Hid (I k wr)) (fun i _ => n - (intOf i).toNat)
  case atStart => exact ⟨0, by omega, rfl, h0⟩
  case round =>
    obtain ⟨k, hk, rfl, HI⟩ := hrel
    by_cases hlt : k < n
    · go_wp2_with fail
      refine (step k _ hlt HI.out).mono ?_
      rintro e w1 ⟨rfl, HJ⟩
      have HK := hide HJ
      clear HJ step
      go_wp2
      go_roundw
      case rel => exact ⟨k + 1, by omega, by go_num, HK⟩
      case measure => simp [intOf]; omega
    · obtain rfl : k = n := by omega
      go_wp2
      go_ret
      exact ⟨rfl, HI.out⟩
end Go.Proofs.YtjdbjahgimlhbaaGreat
end
section
set_option linter.unusedVariables false
set_option maxRecDepth 100000
namespace Go.Proofs.YtjdbjahgimlhbaaGreat
open Go.RowKit

/-- slices of whole numbers, in a slice -/
def ListsAt (w : World) (B : Nat) (A : Option Addr) (n : Nat) (L : List (List Int)) : Prop :=
  n = L.length ∧ ∃ vs : List Value, Reads w B 1 A n vs ∧ ∀ (i : Nat) (l : List Int), L[i]? = some l → ∃ A' c, vs[i]? = some (.slice A' l.length c) ∧ Reads w B 1 A' l.length (l.map (Value.int .i64)) ∧ l.length ≤ 9223372036854775807

section
variable {w w' : World} {B n : Nat} {A : Option Addr} {L : List (List Int)}
theorem ListsAt.fr {S : Nat → Prop} (h : ListsAt w B A n L) (hf : Fr S w w') (hB : B ≤ w.heap.size) (hs : ∀ k, S k → B ≤ k) : ListsAt w' B A n L := by
  obtain ⟨h1, vs, h2, h3⟩ := h
  refine ⟨h1, vs, h2.fr hf hB hs, fun i l hl => ?_⟩
  obtain ⟨A', c, e1, e2, e3⟩ := h3 i l hl
  exact ⟨A', c, e1, e2.fr hf hB hs, e3⟩
theorem ListsAt.more {B' : Nat} (h : ListsAt w B A n L) (hB : B ≤ B') : ListsAt w B' A n L := by
  obtain ⟨h1, vs, h2, h3⟩ := h
  refine ⟨h1, vs, h2.more hB, fun i l hl => ?_⟩
  obtain ⟨A', c, e1, e2, e3⟩ := h3 i l hl
  exact ⟨A', c, e1, e2.more hB, e3⟩
theorem ListsAt.up (h : ListsAt w w.heap.size A n L) (hf : Fr (fun _ => False) w w') : ListsAt w' w'.heap.size A n L := (h.fr hf (Nat.le_refl _) (fun _ h => h.elim)).more hf.size
theorem ListsAt.at_ (h : ListsAt w B A n L) {k : Nat} (hk : k < n) : ∃ b o A' c, ∃ l : List Int, A = some ⟨b, o, none⟩ ∧ b < B ∧ L.drop k = l :: L.drop (k + 1) ∧ w.cell? ⟨b, o + k, none⟩ = some (.slice A' l.length c) ∧ Reads w B 1 A' l.length (l.map (Value.int .i64)) ∧ l.length ≤ 9223372036854775807 := by
  obtain ⟨rfl, vs, h2, h3⟩ := h
  obtain ⟨A', c, e1, e2, e3⟩ := h3 k L[k] (by simp)
  obtain ⟨b, o, u, rfl, hb, hu, hc⟩ := h2.at_ hk
  rw [hu] at e1
  obtain rfl := Option.some.inj e1
  exact ⟨b, o, A', c, L[k], rfl, hb, List.drop_eq_getElem_cons hk, hc, e2, e3⟩
end
/-- the same, the slices by name -/
def LsAt (w : World) (vs : List Value) (A : Option Addr) (n : Nat) (L : List (List Int)) : Prop :=
  n = L.length ∧ Reads w w.heap.size 1 A n vs ∧ ∀ (i : Nat) (l : List Int), L[i]? = some l → ∃ A' c, vs[i]? = some (.slice A' l.length c) ∧ Reads w w.heap.size 1 A' l.length (l.map (Value.int .i64)) ∧ l.length ≤ 9223372036854775807
theorem LsAt.lists {w : World} {vs : List Value} {A : Option Addr} {n : Nat} {L : List (List Int)} (h : LsAt w vs A n L) : ListsAt w w.heap.size A n L := ⟨h.1, vs, h.2⟩
theorem LsAt.lens {w : World} {vs : List Value} {A : Option Addr} {n : Nat} {L : List (List Int)} (h : LsAt w vs A n L) : ∀ l ∈ L, l.length ≤ 9223372036854775807 := by
  intro l hl
  obtain ⟨i, hi, rfl⟩ := List.getElem_of_mem hl
  obtain ⟨_, _, _, _, h⟩ := h.2.2 i L[i] (by simp)
  exact h
theorem LsAt.up {w w' : World} {vs : List Value} {A : Option Addr} {n : Nat} {L : List (List Int)} (h : LsAt w vs A n L) (hf : Fr (fun _ => False) w w') : LsAt w' vs A n L := by
  obtain ⟨h1, h2, h3⟩ := h
  refine ⟨h1, h2.up hf, fun i l hl => ?_⟩
  obtain ⟨A', c, e1, e2, e3⟩ := h3 i l hl
  exact ⟨A', c, e1, e2.up hf, e3⟩
theorem ListsAt.name {w : World} {B n : Nat} {A : Option Addr} {L : List (List Int)} (h : ListsAt w B A n L) : ∃ vs, ∀ (S : Nat → Prop) w', Fr S w w' → B ≤ w.heap.size → (∀ k, S k → B ≤ k) → LsAt w' vs A n L := by
  obtain ⟨h1, vs, h2, h3⟩ := h
  refine ⟨vs, fun S w' hf hB hS => ⟨h1, (h2.fr hf hB hS).more (Nat.le_trans hB hf.size), fun i l hl => ?_⟩⟩
  obtain ⟨A', c, e1, e2, e3⟩ := h3 i l hl
  exact ⟨A', c, e1, (e2.fr hf hB hS).more (Nat.le_trans hB hf.size), e3⟩
theorem LsAt.at_ {w : World} {vs : List Value} {A : Option Addr} {n : Nat} {L : List (List Int)} (h : LsAt w vs A n L) {k : Nat} (hk : k < n) :
    ∃ b o A' c, ∃ l : List Int, A = some ⟨b, o, none⟩ ∧ b < w.heap.size ∧ L.drop k = l :: L.drop (k + 1) ∧ w.cell? ⟨b, o + k, none⟩ = some (.slice A' l.length c) ∧ Reads w w.heap.size 1 A' l.length (l.map (Value.int .i64)) ∧ l.length ≤ 9223372036854775807 ∧ vs[k]? = some (.slice A' l.length c) := by
  obtain ⟨rfl, h2, h3⟩ := h
  obtain ⟨A', c, e1, e2, e3⟩ := h3 k L[k] (by simp)
  obtain ⟨b, o, u, rfl, hb, hu, hc⟩ := h2.at_ hk
  have e1' := e1
  rw [hu] at e1
  obtain rfl := Option.some.inj e1
  exact ⟨b, o, A', c, L[k], rfl, hb, List.drop_eq_getElem_cons hk, hc, e2, e3, e1'⟩
theorem ints_at {w : World} {B n : Nat} {A : Option Addr} {l : List Int} (h : Reads w B 1 A n (l.map (Value.int .i64))) {k : Nat} (hk : k < n) :
    ∃ b o v, A = some ⟨b, o, none⟩ ∧ b < B ∧ l.drop k = v :: l.drop (k + 1) ∧ w.cell? ⟨b, o + k, none⟩ = some (.int .i64 v) := by
  have hn : l.length = n := by have := h.1; simpa using this
  obtain ⟨b, o, u, rfl, hb, hu, hc⟩ := h.at_ hk
  have hk' : k < l.length := by omega
  rw [List.getElem?_map, List.getElem?_eq_getElem hk'] at hu
  obtain rfl := Option.some.inj hu
  exact ⟨b, o, l[k], rfl, hb, List.drop_eq_getElem_cons hk', hc⟩

def okV (n : Nat) (v : Int) : Bool := decide (0 ≤ v ∧ v < n)
def okLs (n : Nat) (L : List (List Int)) : Bool := L.all fun l => l.all (okV n)
def fitsB (fr to : Int) (n : Nat) (L : List (List Int)) : Bool := decide (0 ≤ fr ∧ fr ≤ to ∧ to ≤ n ∧ (L.length : Int) = to - fr) && okLs n L
def errB (b : Bool) : Int := if b then 0 else 2

theorem okLs_next {n : Nat} {l : List Int} {L L' R : List (List Int)} {k : Nat} (h : okLs n L = okLs n (R.drop k)) (hd : R.drop k = l :: R.drop (k + 1)) : okLs n L = (l.all (okV n) && okLs n (R.drop (k + 1))) := by
  rw [h, hd]; rfl
theorem okV_next {n : Nat} {l : List Int} {a b : Bool} {j : Nat} {v : Int} (h : a = ((l.drop j).all (okV n) && b)) (hd : l.drop j = v :: l.drop (j + 1)) (hv : okV n v = true) : a = ((l.drop (j + 1)).all (okV n) && b) := by
  rw [h, hd]; simp [hv]
theorem okV_bad {n : Nat} {l : List Int} {a b : Bool} {j : Nat} {v : Int} (h : a = ((l.drop j).all (okV n) && b)) (hd : l.drop j = v :: l.drop (j + 1)) (hv : okV n v = false) : a = false := by
  rw [h, hd]; simp [hv]
theorem fits_any (fr to : Int) (n m c : Nat) (A : Option Addr) (L : List (List Int)) (w : World) (hl : ListsAt w w.heap.size A m L) (hn : n ≤ 256) :
    Calls Tryz.prog 89 #[.agg #[.int .i64 fr, .int .i64 to, .slice A m c], .int .i64 n] w fun e w' => e = .returned (.int .i64 (errB (fitsB fr to n L))) ∧ Fr (fun _ => False) w w' := by
  by_cases h1 : fr < 0
  · have hr : fitsB fr to n L = false := by simp [fitsB]; omega
    rw [hr]
    clear hl hr
    go_enter Tryz.func89, Tryz.ntmps89
    go_wp2
    go_ret
    exact ⟨rfl, (Fr.refl _ _).alloc _⟩
  by_cases h2 : (n : Int) < to
  · have hr : fitsB fr to n L = false := by simp [fitsB]; omega
    rw [hr]
    clear hl hr
    go_enter Tryz.func89, Tryz.ntmps89
    go_wp2
    go_ret
    exact ⟨rfl, (Fr.refl _ _).alloc _⟩
  by_cases h3 : to < fr
  · have hr : fitsB fr to n L = false := by simp [fitsB]; omega
    rw [hr]
    clear hl hr
    go_enter Tryz.func89, Tryz.ntmps89
    go_wp2
    go_ret
    exact ⟨rfl, (Fr.refl _ _).alloc _⟩
  by_cases h4 : (m : Int) = to - fr
  · have hb4 : ((m : Int) != to - fr) = false := by simp [h4]
    have hm : m = L.length := hl.1
    have hr : fitsB fr to n L = okLs n L := by
      simp only [fitsB, show (0 ≤ fr ∧ fr ≤ to ∧ to ≤ (n : Int) ∧ (L.length : Int) = to - fr) by omega, and_self, decide_true, Bool.true_and]
    rw [hr]
    have HF := (Fr.refl (fun _ => False) w).alloc (.cells #[.int .i64 fr, .int .i64 to, .slice A m c] 43)
    have hl' := hl.fr HF (Nat.le_refl _) (fun k hk => hk.elim)
    have HF' := hide HF
    have HM := hide hm
    have hm2 : m ≤ 256 := by omega
    have HL := hide hl'
    clear hl hr HF hm hl' h4
    go_enter Tryz.func89, Tryz.ntmps89
    go_wp2
    go_loopw [45] (fun i wr => ∃ k : Nat, k ≤ m ∧ i = .int .i64 k ∧ Hid (okLs n L = okLs n (L.drop k)) ∧ wr = w.alloc (.cells #[.int .i64 fr, .int .i64 to, .slice A m c] 43)) (fun i _ => m - (intOf i).toNat)
    case atStart => exact ⟨0, by omega, rfl, hide rfl, rfl⟩
    case round =>
      obtain ⟨k, hk, rfl, HK, rfl⟩ := hrel
      by_cases hlt : k < m
      · obtain ⟨b, o, A', c', l, rfl, hb, hd, hc, hr, hmx⟩ := HL.out.at_ hlt
        have HK' := hide (okLs_next (L' := L) HK.out hd)
        generalize hq : l.length = q at *
        have HQ := hide hq
        clear hd hq HK
        go_wp2
        go_loopw [51] (fun i wr => ∃ j : Nat, j ≤ q ∧ i = .int .i64 j ∧ Hid (okLs n L = ((l.drop j).all (okV n) && okLs n (L.drop (k + 1)))) ∧ wr = w.alloc (.cells #[.int .i64 fr, .int .i64 to, .slice (some ⟨b, o, none⟩) m c] 43)) (fun i _ => q - (intOf i).toNat)
        case atStart => exact ⟨0, by omega, rfl, hide HK'.out, rfl⟩
        case round =>
          obtain ⟨j, hj, rfl, HJ, rfl⟩ := hrel
          by_cases hlt2 : j < q
          · obtain ⟨b2, o2, v, rfl, hb2, hd2, hc2⟩ := ints_at hr hlt2
            by_cases hv : 0 ≤ v ∧ v < n
            · have HJ' := hide (okV_next HJ.out hd2 (by simpa [okV] using hv))
              obtain ⟨hv1, hv2⟩ := hv
              clear hd2 HJ hr
              go_wp2
              go_roundw
              case rel => exact ⟨j + 1, by omega, by go_num, HJ', by first | rfl | trivial⟩
              case measure => simp [intOf]; omega
            · have HJ' := hide (okV_bad HJ.out hd2 (by simpa [okV] using hv))
              clear hd2 HJ hr
              by_cases hv1 : v < 0
              · go_wp2
                go_ret
                exact ⟨by rw [HJ'.out]; rfl, HF'.out⟩
              · have hv2 : (n : Int) ≤ v := by omega
                clear hv
                go_wp2
                go_ret
                exact ⟨by rw [HJ'.out]; rfl, HF'.out⟩
          · have HJ' : Hid (okLs n L = okLs n (L.drop (k + 1))) := by
              have h := HJ.out
              rw [List.drop_of_length_le (by rw [HQ.out]; omega)] at h
              exact hide (by simpa using h)
            go_wp2
            go_roundw
            case rel => exact ⟨k + 1, by omega, by go_num, HJ', by first | rfl | trivial⟩
            case measure => simp [intOf]; omega
      · have HK' : Hid (okLs n L = true) := by
          have h := HK.out
          rw [List.drop_of_length_le (by rw [← HM.out]; omega)] at h
          exact h
        clear HK
        go_wp2
        go_ret
        exact ⟨by rw [HK'.out]; rfl, HF'.out⟩
  · have hb4 : ((m : Int) != to - fr) = true := by simp [h4]
    have hr : fitsB fr to n L = false := by have := hl.1; simp [fitsB]; omega
    rw [hr]
    clear hl hr h4
    go_enter Tryz.func89, Tryz.ntmps89
    go_wp2
    go_ret
    exact ⟨rfl, (Fr.refl _ _).alloc _⟩
end Go.Proofs.YtjdbjahgimlhbaaGreat
end
section
set_option linter.unusedVariables false
set_option maxRecDepth 100000
namespace Go.Proofs.YtjdbjahgimlhbaaGreat.frame
open Go.ChangeShapes Go.WideShapes Go.ChangeAt Go.RowKit
open Go.ChangeMaps (open_string shut_string)

section
variable {H : Type} {enc : TypeId × Value → H} {W W' : World} {base : Nat} {t : TypeId} {v : Value} {d : DataW H} {ps : List MemPlace}
theorem ints_cells {P : Program} {k : IntKind} {e : TypeId} {fuel : Nat} {cs : List Value} {x : DataW H × List MemPlace} (ht : P.underlying t = some (.slice e)) (he : P.underlying e = some (.int k)) (hc : P.cellsOf e = 1) (hf : DataW.trod enc P W 0 (fun _ => true) true fuel t cs = some x) :
    ∃ A n c, ∃ zs : List Int, cs = [.slice A n c] ∧ Reads W W.heap.size 1 A n (zs.map (Value.int k)) ∧ n ≤ c ∧ c ≤ maxLen ∧ (∀ z ∈ zs, (Lit.int k z).wf = true) := by
  rcases open_ints ht he hc hf with ⟨hcs, _⟩ | ⟨x, l, cp, zs, hcs, _, hl, hm, hz, hx, hcell, hwz⟩
  · exact ⟨none, 0, 0, [], hcs, Reads.none_, Nat.le_refl _, by unfold maxLen; omega, by simp⟩
  · have hz' : zs.length = cp := by simpa using hz
    refine ⟨some x, l, cp, zs.take l, hcs, ⟨by simp; omega, fun hn => ?_⟩, hl, hm, fun z hz => hwz z (List.mem_of_mem_take hz)⟩
    have h0 := hcell 0 (by omega)
    have hb := World.block_lt_of_cell? W _ h0
    obtain ⟨b, o, s⟩ := x
    have hs : s = none := by simpa [Addr.add] using World.cell?_spot h0
    subst hs
    refine ⟨b, o, rfl, by simpa [Addr.add] using hb, fun j u hu => ?_⟩
    have hj : j < l := by
      have := (List.getElem?_eq_some_iff.1 hu).1
      simp at this
      omega
    have hc := hcell j (by omega)
    rw [Addr.add_lit] at hc
    rw [hc, ← hu]
    simp [List.getD, hj, show j < zs.length by omega]

theorem u64s_cells {fuel : Nat} {cs : List Value} {x : DataW H × List MemPlace} (hf : DataW.trod enc Tryz.prog W 0 (fun _ => true) true fuel 47 cs = some x) :
    ∃ A n c, ∃ xs : List Nat, cs = [.slice A n c] ∧ Reads W W.heap.size 1 A n (xs.map u64v) ∧ (∀ x ∈ xs, x < 18446744073709551616) := by
  obtain ⟨A, n, c, zs, h1, hr, hn, hm, hz⟩ := ints_cells Tryz.underlying47 Tryz.underlying57 (by kernel_rfl) hf
  obtain ⟨xs, hx, hxl, hxb⟩ := u64_nums hz
  refine ⟨A, n, c, xs, h1, ?_, hxb⟩
  rw [hx] at hr
  exact hr

end
end Go.Proofs.YtjdbjahgimlhbaaGreat.frame
end
