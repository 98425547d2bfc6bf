/- Parts of the proof of several laws: no conditions of their own. -/
import Derived.Test.YtjdbjahgimlhbaaWhPk0
import Derived.Deep.RegionLaw
import Derived.Deep.RegionLawGrows
import Derived.Deep.RegionHeld3
import Derived.Test.YtjdbjahgimlhbaaWhPk4
import Derived.OwnWalk
section
set_option linter.unusedVariables false
set_option maxRecDepth 100000
namespace Go.Proofs.Ytjdbjahgimlhbaa
open Go.RowKit

/-- block g begins with the numbers xs; behind them spare room -/
def RowAt (w : World) (g : Nat) (xs : List Nat) : Prop := (∃ sp : List Value, Blk w g 36 (xs.map u64v ++ sp).toArray) ∧ ∀ x ∈ xs, x < 18446744073709551616
section
variable {w w' : World} {g : Nat} {xs : List Nat} {S : Nat → Prop}
theorem RowAt.fr (h : RowAt w g xs) (hf : Fr S w w') (hg : ¬ S g) : RowAt w' g xs := by
  obtain ⟨⟨sp, h1⟩, h2⟩ := h
  exact ⟨⟨sp, h1.fr hf hg⟩, h2⟩
theorem RowAt.lt (h : RowAt w g xs) : g < w.heap.size := by
  obtain ⟨⟨sp, h1⟩, h2⟩ := h
  exact h1.lt
theorem RowAt.cell (h : RowAt w g xs) {i : Nat} (hi : i < xs.length) : w.cell? ⟨g, i, none⟩ = some (.int .u64 (xs.getD i 0 : Nat)) := by
  obtain ⟨⟨sp, h1⟩, h2⟩ := h
  rw [h1.cell i]
  simp [hi, u64v, List.getElem?_append_left]
theorem RowAt.frozen (h : RowAt w g xs) (i : Nat) : w.frozen? ⟨g, i, none⟩ = false := by
  obtain ⟨⟨sp, h1⟩, h2⟩ := h
  exact h1.frozen i
theorem RowAt.set_ (h : RowAt w g xs) {i y : Nat} (hi : i < xs.length) (hy : y < 18446744073709551616) : RowAt (w.setCell ⟨g, i, none⟩ (.int .u64 (y : Int))) g (xs.set i y) := by
  obtain ⟨⟨sp, h1⟩, h2⟩ := h
  refine ⟨⟨sp, ?_⟩, ?_⟩
  · have := h1.set_ i (.int .u64 (y : Int))
    simpa [List.map_set, u64v, List.set_append_left, hi] using this
  · intro x hx
    rcases List.mem_or_eq_of_mem_set hx with h' | h'
    · exact h2 x h'
    · omega
theorem RowAt.far (h : RowAt w g xs) {p : Addr} (hp : g ≠ p.block) (u : Value) : RowAt (w.setCell p u) g xs := by
  obtain ⟨⟨sp, h1⟩, h2⟩ := h
  exact ⟨⟨sp, h1.far hp u⟩, h2⟩
theorem RowAt.alloc (h : RowAt w g xs) (o : Obj) : RowAt (w.alloc o) g xs := by
  obtain ⟨⟨sp, h1⟩, h2⟩ := h
  exact ⟨⟨sp, h1.alloc o⟩, h2⟩
theorem RowAt.reads (h : RowAt w g xs) : Reads w w.heap.size 1 (some ⟨g, 0, none⟩) xs.length (xs.map u64v) := by
  obtain ⟨⟨sp, h1⟩, h2⟩ := h
  refine ⟨by simp, fun _ => ⟨g, 0, rfl, h1.lt, fun j u hu => ?_⟩⟩
  have hj : j < (xs.map u64v).length := (List.getElem?_eq_some_iff.1 hu).1
  rw [Nat.zero_add, h1.cell j, ← hu, List.getElem?_toArray, List.getElem?_append_left hj]
end
theorem RowAt.of_own {w : World} {base n : Nat} {v : Value} {xs : List Nat} (h : w.ownsRow base 36 1 v n (xs.map u64v)) (h0 : 1 ≤ n) (hx : ∀ x ∈ xs, x < 18446744073709551616) :
    ∃ g c, v = .slice (some ⟨g, 0, none⟩) n c ∧ base ≤ g ∧ RowAt w g xs := by
  rcases h.2 with ⟨_, h1⟩ | ⟨g, cap, cur, rfl, hb, hg, _, _, hs, ht⟩
  · omega
  · refine ⟨g, cap, rfl, hb, ⟨cur.toList.drop n, ?_⟩, hx⟩
    rw [← ht, Nat.mul_one, List.take_append_drop]
    exact hg

theorem step_copy {ops : Array Oper} {o : Oper} {a : Act} {w : World} {K : Act → World → Prop} {Q : Exit → Act → World → Prop} {E : Prop}
    (hg : o.guard = none) (s x : Operand) (hop : o.op = Op.call { callee := Callee.builtin Builtin.append, args := #[s, x], argTypes := #[49, 49] })
    (h : Addr) (hs : a.eval s = .slice (some h) 0 0) (b q n c B : Nat) (xs : List Nat) (hx : a.eval x = .slice (some ⟨b, q, none⟩) n c) (hr : Reads w B 1 (some ⟨b, q, none⟩) n (xs.map u64v)) (h1 : 1 ≤ n) (hn : n ≤ 256) (hx64 : ∀ x ∈ xs, x < 18446744073709551616)
    (hK : ∀ g cap w', RowAt w' g xs → Fr (fun _ => False) w w' → w.heap.size ≤ g → K (a.put o.dst (.slice (some ⟨g, 0, none⟩) n cap)) w') :
    if Region.wanted o (yielded ops a.tmps) = true then Oper.wp Try.prog o a w K Q else E := by
  obtain ⟨i0, hi, hz0, hz1, hz2⟩ := info_parts u64_info
  obtain ⟨b', o', hA, _, hc⟩ := hr.2 h1
  injection hA with hA
  injection hA with e1 e2
  subst e1
  subst e2
  refine step_append_grows hg s x 49 hop 36 i0 (.int .u64 0) 1 8 Try.underlying49 hi hz0 hz1 hz2 rfl (by decide) (some h) 0 0 [] hs (by simp) rfl (by simp) ⟨b, q, none⟩ n c (xs.map u64v) hx (by have := hr.1; simpa using this)
    (fun j u hu => by rw [Addr.add_lit]; exact hc j u hu) (by simp [u64v, Value.oneCell']) (by omega) (by simp [maxLen]; omega) (by omega) fun v' w' ho hgr => ?_
  rw [Nat.zero_add] at ho
  rw [List.nil_append] at ho
  obtain ⟨g, cap, rfl, hge, hrow⟩ := RowAt.of_own ho h1 hx64
  exact hK g cap w' hrow ((Fr.of_grown hgr).mono (by simp)) hge

theorem held_step {W0 w1 w2 : World} {p q : Addr} {u v : Value} {r : Nat} {t : TypeId} (h : w1.cell? p = some u ∧ w1.cell? q = some v ∧ Fr (fun k => k = r) W0 w1 ∧ ∃ x y, Blk w1 r t #[x, y]) (hf : Fr (fun _ => False) w1 w2) :
    w2.cell? p = some u ∧ w2.cell? q = some v ∧ Fr (fun k => k = r) W0 w2 ∧ ∃ x y, Blk w2 r t #[x, y] := by
  obtain ⟨h1, h2, h3, x, y, h4⟩ := h
  exact ⟨hf.cell h1 id, hf.cell h2 id, h3.then_ hf, x, y, h4.fr hf id⟩
theorem held_store {W0 w1 : World} {p q : Addr} {u v u' v' : Value} {r : Nat} {t : TypeId} (hp : p.block ≠ r) (hq : q.block ≠ r) (h : w1.cell? p = some u ∧ w1.cell? q = some v ∧ Fr (fun k => k = r) W0 w1 ∧ ∃ x y, Blk w1 r t #[x, y]) :
    ((w1.setCell ⟨r, 0, none⟩ u').setCell ⟨r, 1, none⟩ v').cell? p = some u ∧ ((w1.setCell ⟨r, 0, none⟩ u').setCell ⟨r, 1, none⟩ v').cell? q = some v ∧ Fr (fun k => k = r) W0 ((w1.setCell ⟨r, 0, none⟩ u').setCell ⟨r, 1, none⟩ v') ∧ ∃ x y, Blk ((w1.setCell ⟨r, 0, none⟩ u').setCell ⟨r, 1, none⟩ v') r t #[x, y] := by
  obtain ⟨h1, h2, h3, x, y, h4⟩ := h
  have hf : Fr (fun k => k = r) w1 ((w1.setCell ⟨r, 0, none⟩ u').setCell ⟨r, 1, none⟩ v') := ((Fr.refl (fun k => k = r) _).setCell (p := ⟨r, 0, none⟩) (.inl rfl) _).setCell (p := ⟨r, 1, none⟩) (.inl rfl) _
  exact ⟨hf.cell h1 hp, hf.cell h2 hq, h3.trans hf (fun k h => .inl h), u', v', (h4.set_ 0 u').set_ 1 v'⟩
theorem held_alloc (w : World) (o : Obj) : Fr (fun _ => False) w.drew (w.alloc o).drew := ⟨rfl, rfl, rfl, by simp, fun k hk _ => Below.heap_alloc w o k hk⟩
theorem held_alloc' (w : World) (o : Obj) : Fr (fun _ => False) w (w.alloc o) := (Fr.refl _ _).alloc _
theorem held_drew (w : World) : Fr (fun _ => False) w w.drew := (Fr.refl _ _).drew
theorem held_fr {W0 w' : World} {a b c : Prop} {S : Nat → Prop} (h : a ∧ b ∧ Fr S W0 w' ∧ c) : Fr S W0 w' := h.2.2.1
theorem held_blk {w' : World} {a b c : Prop} {r : Nat} {t : TypeId} (h : a ∧ b ∧ c ∧ ∃ x y, Blk w' r t #[x, y]) : ∃ x y, Blk w' r t #[x, y] := h.2.2.2

end Go.Proofs.Ytjdbjahgimlhbaa
end
section
set_option linter.unusedVariables false
set_option maxRecDepth 100000
namespace Go.Proofs.Ytjdbjahgimlhbaa
open Go.RowKit

theorem beqT {a b : Int} (h : a = b) : (a == b) = true := by simp [h]
theorem beqF {a b : Int} (h : a ≠ b) : (a == b) = false := by simpa using h
theorem bneT {a b : Int} (h : a ≠ b) : (a != b) = true := by simpa using h
theorem bneF {a b : Int} (h : a = b) : (a != b) = false := by simp [h]
theorem wrap_succ {n : Nat} (h : n ≤ 9223372036854775807) : IntKind.u64.wrap ((n : Int) + 1) = ((n + 1 : Nat) : Int) := by simp [IntKind.wrap, IntKind.bits, IntKind.signed]; omega
theorem wrap_same {n : Int} (h0 : 0 ≤ n) (h : n ≤ 9223372036854775807) : IntKind.u64.wrap n = n := by simp [IntKind.wrap, IntKind.bits, IntKind.signed]; omega

theorem set_same (xs : List Nat) (i : Nat) : xs.set i (xs.getD i 0) = xs := by
  apply List.ext_getElem
  · simp
  · intro j h1 h2
    rw [List.getElem_set]
    split
    · rename_i h
      subst h
      simp [List.getD, h2]
    · rfl

theorem less_any {p g : Nat} {xs : List Nat} {w : World} (h : PlainAt w p g xs) (i x : Nat) (hi : i < xs.length) (hx : x < 18446744073709551616) :
    Calls Try.prog 63 #[vecv p, .int .i64 i, .int .u64 x] w fun e w' => e = .returned (.tuple #[.bool (decide (x < xs.getD i 0)), .int .i64 0]) ∧ PlainAt w' p g (xs.set i (min (xs.getD i 0) x)) ∧ Fr (fun k => k = g) w w' := by
  have hms := fun p => meth_set p
  have hmg := fun p => meth_get p
  have H := hide h
  have G := hide (get_in h i hi)
  unfold vecv
  by_cases hlt : x < xs.getD i 0
  · have hz : min (xs.getD i 0) x = x := by omega
    rw [hz, decide_eq_true hlt]
    generalize xs.getD i 0 = y at *
    clear h hz
    go_enter Try.func63, Try.ntmps63
    go_wp2_with fail
    go_at_call 21
    refine G.out.mono ?_
    rintro e w1 ⟨rfl, rfl⟩
    go_wp2_with fail
    go_at_call 24
    refine (set_in H.out i x hi hx).mono ?_
    rintro e w1 ⟨rfl, hP, hf⟩
    have H2 := hide hP
    have HF := hide hf
    clear hP hf
    go_wp2
    go_ret2
    exact ⟨rfl, H2.out, HF.out⟩
  · have hz : xs.set i (min (xs.getD i 0) x) = xs := by rw [show min (xs.getD i 0) x = xs.getD i 0 by omega]; exact set_same xs i
    rw [hz, decide_eq_false hlt]
    generalize xs.getD i 0 = y at *
    clear h hz
    go_enter Try.func63, Try.ntmps63
    go_wp2_with fail
    go_at_call 21
    refine G.out.mono ?_
    rintro e w1 ⟨rfl, rfl⟩
    go_wp2
    go_ret2
    exact ⟨rfl, H.out, Fr.refl _ _⟩

theorem two_any {pa ga pb gb : Nat} {xs ys : List Nat} {w : World} (h : TwoAt w pa ga pb gb xs ys) (i : Nat) (hi : i < xs.length) (hj : i < ys.length) :
    Calls Try.prog 73 #[vecv pa, vecv pb, .int .i64 i] w fun e w' => e = .returned (.tuple #[.int .u64 (xs.getD i 0 : Nat), .int .u64 (ys.getD i 0 : Nat), .int .i64 0]) ∧ w = w' := by
  have hmg := fun p => meth_get p
  have G := hide (get_in h.a i hi)
  have G2 := hide (get_in h.b i hj)
  unfold vecv
  clear h
  generalize xs.getD i 0 = x at *
  generalize ys.getD i 0 = y at *
  go_enter Try.func73, Try.ntmps73
  go_wp2_with fail
  go_at_call 21
  refine G.out.mono ?_
  rintro e w1 ⟨rfl, rfl⟩
  go_wp2_with fail
  go_at_call 21
  refine G2.out.mono ?_
  rintro e w1 ⟨rfl, rfl⟩
  go_wp2
  go_ret3
  exact ⟨rfl, rfl⟩

theorem ls_any {w : World} {B : Nat} {vs : List Value} {L : List (List Int)} {n : Nat} (hB : Blk w B 64 vs.toArray) (hn : n = L.length)
    (h : ∀ (i : Nat) (l : List Int), L[i]? = some l → ∃ A' c, vs[i]? = some (.slice A' l.length c) ∧ Reads w w.heap.size 1 A' l.length (l.map (Value.int .i64)) ∧ l.length ≤ 9223372036854775807) (hv : vs.length = n := by rfl) : LsAt w vs (some ⟨B, 0, none⟩) n L :=
  ⟨hn, Reads.blk hB hv, h⟩
end Go.Proofs.Ytjdbjahgimlhbaa
end
section
set_option linter.unusedVariables false
set_option maxRecDepth 100000
namespace Go.Proofs.Ytjdbjahgimlhbaa
open Go.RowKit

theorem fresh_any (n : Nat) (w : World) (hn : n ≤ 256) :
    Calls Try.prog 19 #[.int .i64 n] w fun e w' => ∃ pa ga pb gb, e = .returned (.tuple #[.pointer (some ⟨pa, 0, none⟩), .pointer (some ⟨pb, 0, none⟩)]) ∧ w.heap.size ≤ ga ∧ w.heap.size ≤ gb ∧ TwoAt w' pa ga pb gb (List.replicate n 0) (List.replicate n 0) ∧ Fr (fun _ => False) w w' := by
  have HN := hide (fun w => new_ok n w hn)
  go_enter Try.func19, Try.ntmps19
  go_wp2_with fail
  go_at_call 52
  refine (HN.out _).mono ?_
  rintro e w1 ⟨p, g, rfl, hp, hg, hP, hf⟩
  have HP := hide hP
  have HF := hide hf
  clear hP hf
  go_wp2_with fail
  go_at_call 52
  refine (HN.out _).mono ?_
  rintro e w2 ⟨p2, g2, rfl, hp2, hg2, hP2, hf2⟩
  have HT := hide (show TwoAt w2 p g p2 g2 (List.replicate n 0) (List.replicate n 0) from ⟨HP.out.fr hf2 id id, hP2, by have := HP.out.row.lt; omega⟩)
  have HF2 := hide (HF.out.then_ hf2)
  have hs := HF.out.size
  clear hP2 hf2
  go_wp2
  go_ret2
  exact ⟨_, _, _, _, rfl, hg, by omega, HT.out, HF2.out⟩

theorem held3 {w w1 w2 : World} {p q : Addr} {u v : Value} (h : w1.cell? p = some u ∧ w1.cell? q = some v ∧ Fr (fun _ => False) w w1) (hf : Fr (fun _ => False) w1 w2) : w2.cell? p = some u ∧ w2.cell? q = some v ∧ Fr (fun _ => False) w w2 := ⟨hf.cell h.1 id, hf.cell h.2.1 id, h.2.2.then_ hf⟩
theorem held3f {w w1 : World} {a b : Prop} (h : a ∧ b ∧ Fr (fun _ => False) w w1) : Fr (fun _ => False) w w1 := h.2.2
theorem read_any {p g : Nat} {xs : List Nat} {w : World} (h : PlainAt w p g xs) :
    Calls Try.prog 26 #[.pointer (some ⟨p, 0, none⟩)] w fun e w' => ∃ A c, e = .returned (.slice A xs.length c) ∧ Reads w' w'.heap.size 1 A xs.length (xs.map u64v) ∧ Fr (fun _ => False) w w' := by
  obtain ⟨i0, hi, hz0, hz1, hz2⟩ := info_parts u64_info
  have hl := h.len
  have H := hide h
  clear h
  go_enter Try.func26, Try.ntmps26
  go_wp2
  go_loopw [3, 4] (fun r i wr => ∃ k : Nat, k ≤ xs.length ∧ i = .int .i64 k ∧ wr.ownsRow w.heap.size 36 1 r k ((xs.take k).map u64v) ∧ Hid (Fr (fun _ => False) w wr)) (fun _ i _ => xs.length - (intOf i).toNat)
  case atStart => exact ⟨0, by omega, rfl, by simpa using World.ownsRow_nil w _ 36 1, hide (Fr.refl _ _)⟩
  case round =>
    obtain ⟨k, hk, rfl, hown, HF⟩ := hrel
    have HP := hide (H.out.fr HF.out id id)
    go_wp2_with fail
    go_at_call 61
    refine (len_any HP.out).mono ?_
    rintro e w1 ⟨rfl, rfl⟩
    by_cases hlt : k < xs.length
    · have HG := hide (get_in HP.out k hlt)
      generalize hxk : xs.getD k 0 = x at *
      go_wp2_with fail
      go_at_call 21
      refine HG.out.mono ?_
      rintro e w1 ⟨rfl, rfl⟩
      go_wp2_with (at_builtin; refine wpList_append_box wr _ _ rfl (.tmp 19) (.tmp 21) _ rfl w.heap.size 36 i0 _ 1 8 Try.underlying49 hi hz0 hz1 hz2 rfl (by decide) _ _ _ rfl hown rfl rfl ?c1 ?c2 ?c3 ?c4 ?c5)
      case c1 => simp [Value.oneCell']
      case c2 => unfold maxLen; omega
      case c3 => omega
      case c4 => exact HF.out.size
      case c5 =>
        intro v' w1 hown1 hg _
        have HF1 := hide (HF.out.grown hg (fun q hq => .inr ((hown.lt q hq).1)))
        have hM : (xs.take k).map u64v ++ [Value.int .u64 (x : Int)] = (xs.take (k + 1)).map u64v := by
          rw [List.take_succ_eq_append_getElem hlt, List.map_append, ← hxk]
          simp [u64v, List.getD, hlt]
        have hown2 : w1.ownsRow w.heap.size 36 1 v' (k + 1) ((xs.take (k + 1)).map u64v) := by rw [← hM]; simpa [List.map_take] using hown1
        clear hown hown1 hg hM
        go_wp2
        go_roundw
        case rel => exact ⟨k + 1, by omega, by go_num, hown2, HF1⟩
        case measure => simp [intOf]; omega
    · obtain rfl : k = xs.length := by omega
      rw [List.take_of_length_le (Nat.le_refl _)] at hown
      obtain ⟨A, c, rfl⟩ := Reads.own_val hown
      have HR := hide (Reads.of_own hown)
      clear hown
      go_wp2
      go_ret
      exact ⟨_, _, rfl, HR.out, HF.out⟩

theorem same_any (A A' : Option Addr) (n c m d B : Nat) (xs ys : List Nat) (w : World) (ha : Reads w B 1 A n (xs.map u64v)) (hb : Reads w B 1 A' m (ys.map u64v)) (hn : n ≤ 9223372036854775807) :
    Calls Try.prog 29 #[.slice A n c, .slice A' m d] w fun e w' => e = .returned (.bool (decide (xs = ys))) ∧ Fr (fun _ => False) w w' := by
  have la : xs.length = n := by have := ha.1; simpa using this
  have lb : ys.length = m := by have := hb.1; simpa using this
  by_cases hnm : n = m
  · have hb1 : ((n : Int) != (m : Int)) = false := by simp [hnm]
    have LA := hide la
    have LB := hide lb
    have HNM := hide hnm
    have hle : n ≤ m := by omega
    clear la lb hnm
    go_enter Try.func29, Try.ntmps29
    go_wp2
    go_loopw [5] (fun i wr => ∃ k q : Nat, k ≤ n ∧ i = .int .i64 k ∧ wr = w.drewN q ∧ Hid (xs.take k = ys.take k)) (fun i _ => n - (intOf i).toNat)
    case atStart => exact ⟨0, 0, by omega, rfl, rfl, hide rfl⟩
    case round =>
      obtain ⟨k, q, hk, rfl, rfl, HK⟩ := hrel
      by_cases hkn : k < n
      · obtain ⟨b1, o1, u1, rfl, _, hu1, hc1⟩ := ha.at_ hkn
        obtain ⟨b2, o2, u2, rfl, _, hu2, hc2⟩ := hb.at_ (show k < m by omega)
        have lx : k < xs.length := by rw [LA.out]; omega
        have ly : k < ys.length := by rw [LB.out]; omega
        obtain rfl : u1 = u64v xs[k] := by simp [lx] at hu1; exact hu1.symm
        obtain rfl : u2 = u64v ys[k] := by simp [ly] at hu2; exact hu2.symm
        obtain ⟨x, hx⟩ : ∃ x, x = xs[k] := ⟨_, rfl⟩
        obtain ⟨y, hy⟩ : ∃ y, y = ys[k] := ⟨_, rfl⟩
        rw [← hx] at hc1
        rw [← hy] at hc2
        unfold u64v at hc1 hc2
        have HX := hide hx
        have HY := hide hy
        have hkm : k < m := by omega
        clear hx hy hu1 hu2 ha hb
        by_cases hxy : x = y
        · have hbe : ((x : Int) != (y : Int)) = false := by simp [hxy]
          have HXY := hide hxy
          clear hxy
          go_wp2
          go_quiet (fail)
          go_wp2
          go_roundw
          case rel => exact ⟨k + 1, _, by omega, by go_num, rfl, hide (by rw [List.take_succ_eq_append_getElem lx, List.take_succ_eq_append_getElem ly, HK.out, ← HX.out, ← HY.out, HXY.out])⟩
          case measure => simp [intOf]; omega
        · have hbe : ((x : Int) != (y : Int)) = true := by simp; omega
          have hne : decide (xs = ys) = false := by
            simp only [decide_eq_false_iff_not]
            rintro rfl
            exact hxy (HX.out.trans HY.out.symm)
          have HN := hide hne
          clear hne hxy
          go_wp2
          go_quiet (fail)
          go_wp2
          go_ret
          exact ⟨by rw [HN.out]; rfl, ((Fr.refl _ _).drewN _).drewN _⟩
      · have he : decide (xs = ys) = true := by
          have h := HK.out
          have hnm := HNM.out
          rw [List.take_of_length_le (by rw [LA.out]; omega), List.take_of_length_le (by rw [LB.out]; omega)] at h
          simpa using h
        have HN := hide he
        clear he ha hb
        go_wp2
        go_ret
        exact ⟨by rw [HN.out]; rfl, (Fr.refl _ _).drewN _⟩
  · have hb1 : ((n : Int) != (m : Int)) = true := by simp; omega
    have hne : decide (xs = ys) = false := by
      simp only [decide_eq_false_iff_not]
      rintro rfl
      exact hnm (la.symm.trans lb)
    rw [hne]
    clear la lb hnm hne
    go_enter Try.func29, Try.ntmps29
    go_wp2
    go_ret
    exact ⟨rfl, Fr.refl _ _⟩


end Go.Proofs.Ytjdbjahgimlhbaa
end
