/- Parts of the proof of several laws: no conditions of their own. -/
import Derived.Test.YtjdbjahgimlhbaaWhPk3
import Derived.Test.YtjdbjahgimlhbaaWhPk1
import Derived.Test.YtjdbjahgimlhbaaWhPk2
section
set_option linter.unusedVariables false
namespace Go.Proofs.Ytjdbjahgimlhbaa
open Go

section
variable {P : Program} {ops : Array Oper} {Q : Exit → Act → World → Prop} {md : Region.Mode} {S : World → Prop}

/-- the operations in an order: (i, true): read; (i, false): carried out, alone -/
def wpOrd (P : Program) (ops : Array Oper) (Q : Exit → Act → World → Prop) (S : World → Prop) : List (Nat × Bool) → Act → World → Prop
  | [], a, w => Q .normal a w
  | (i, true) :: r, a, w => ∃ o v, ops[i]? = some o ∧ YieldsIf P ops S o v a ∧ wpOrd P ops Q S r (a.put o.dst v) w
  | (i, false) :: r, a, w => ∃ o, ops[i]? = some o ∧ wpList P ops (midQ Q fun a' w' => S w' ∧ wpOrd P ops Q S r a' w') [o] a w
def ordB (md : Region.Mode) (ops : Array Oper) : List (Nat × Bool) → Array Bool → Bool
  | [], listed => (Region.ready md ops listed).isEmpty
  | (i, true) :: r, listed => (Region.ready md ops listed).contains i && Region.free md ops listed i && ordB md ops r (listed.setIfInBounds i true)
  | (i, false) :: r, listed => decide (Region.ready md ops listed = [i]) && ordB md ops r (listed.setIfInBounds i true)
theorem wpAnyH_ord (hsel : Region.noSelect ops = true) (hQ : ∀ c a (d : Option Tmp) v w, Q (.panic c) (a.put d v) w → Q (.panic c) a w) :
    ∀ (r : List (Nat × Bool)) (listed : Array Bool) (a : Act) (w : World), S w → ordB md ops r listed = true → wpOrd P ops Q S r a w → wpAnyH P md ops Q S r.length listed a w
  | [], listed, a, w, _, hB, h => wpAnyH_done (by simpa [ordB] using hB) h _
  | (i, true) :: r, listed, a, w, hS, hB, h => by
    simp only [ordB, Bool.and_eq_true] at hB
    obtain ⟨⟨h1, h2⟩, h3⟩ := hB
    obtain ⟨o, v, h0, hy, hrest⟩ := h
    exact wpAnyH_take h0 hsel h2 h1 (fun c a w => hQ c a _ _ w) hy hS (wpAnyH_ord hsel hQ r _ _ _ hS h3 hrest)
  | (i, false) :: r, listed, a, w, hS, hB, h => by
    simp only [ordB, Bool.and_eq_true, decide_eq_true_eq] at hB
    obtain ⟨h1, h3⟩ := hB
    obtain ⟨o, h0, hl⟩ := h
    refine wpAnyH_all h1 (by simp) (fun j hj => ?_)
    obtain rfl := List.mem_singleton.1 hj
    exact wpOp_mono (fun a' w' h' => ⟨h'.1, wpAnyH_ord hsel hQ r _ a' w' h'.1 h3 h'.2⟩) (wpOp_of_mid h0 hl)
theorem wp_region_ord {id : Nat} {a : Act} {w : World} {l : List Oper} (ord : List (Nat × Bool)) (S : World → Prop) (hm : P.follows .mixedOrders = true) (hB : (Region.noSelect l.toArray && decide (ord.length = l.length) && ordB .any l.toArray ord (Array.replicate l.length false)) = true) (hS : S w.drew)
    (h : wpOrd P l.toArray (NoPanic Q) S ord a w.drew) : (Code.region id l.toArray true).wp P Q a w := by
  simp only [Bool.and_eq_true, decide_eq_true_eq] at hB
  obtain ⟨⟨h1, h2⟩, h3⟩ := hB
  refine wp_region_noPanic (wp_region_held (S := S) hm ?_)
  have := wpAnyH_ord (Q := NoPanic Q) (md := .any) h1 (fun c a d v w h => h) ord (Array.replicate l.length false) a w.drew hS h3 h
  rw [h2] at this
  simpa using this
theorem ord_read {i : Nat} {o : Oper} {r : List (Nat × Bool)} {a : Act} {w : World} (h0 : ops[i]? = some o) (hg : Region.wanted o (yielded ops a.tmps) = true) (v : Value) (h : ∀ w, S w → (execOp a.eval o).run P w = .ok (.value v) w) (hr : wpOrd P ops Q S r (a.put o.dst v) w) : wpOrd P ops Q S ((i, true) :: r) a w := ⟨o, v, h0, .inl ⟨hg, h⟩, hr⟩
theorem ord_skip {i : Nat} {o : Oper} {r : List (Nat × Bool)} {a : Act} {w : World} (h0 : ops[i]? = some o) (hg : Region.wanted o (yielded ops a.tmps) = false) (hr : wpOrd P ops Q S r (a.put o.dst undef) w) : wpOrd P ops Q S ((i, true) :: r) a w := ⟨o, undef, h0, .inr ⟨hg, rfl⟩, hr⟩
theorem ord_act {i : Nat} {o : Oper} {r : List (Nat × Bool)} {a : Act} {w : World} (h0 : ops[i]? = some o) (h : wpList P ops (midQ Q fun a' w' => S w' ∧ wpOrd P ops Q S r a' w') [o] a w) : wpOrd P ops Q S ((i, false) :: r) a w := ⟨o, h0, h⟩
theorem ord_done {a : Act} {w : World} (h : Q .normal a w) : wpOrd P ops Q S [] a w := h
end
end Go.Proofs.Ytjdbjahgimlhbaa
end
section
set_option linter.unusedVariables false
set_option maxRecDepth 100000
namespace Go.Proofs.Ytjdbjahgimlhbaa
open Go.RowKit

structure TwoAt (w : World) (pa ga pb gb : Nat) (xs ys : List Nat) : Prop where
  a : PlainAt w pa ga xs
  b : PlainAt w pb gb ys
  ne : ga ≠ gb
section
variable {w w' : World} {pa ga pb gb : Nat} {xs ys : List Nat}
theorem TwoAt.pa_ga (h : TwoAt w pa ga pb gb xs ys) : pa ≠ ga := h.a.ne
theorem TwoAt.pa_gb (h : TwoAt w pa ga pb gb xs ys) : pa ≠ gb := h.a.head.ne_ h.b.row (by decide)
theorem TwoAt.pb_ga (h : TwoAt w pa ga pb gb xs ys) : pb ≠ ga := h.b.head.ne_ h.a.row (by decide)
theorem TwoAt.pb_gb (h : TwoAt w pa ga pb gb xs ys) : pb ≠ gb := h.b.ne
theorem TwoAt.fr {S : Nat → Prop} (h : TwoAt w pa ga pb gb xs ys) (hf : Fr S w w') (h1 : ¬ S pa) (h2 : ¬ S ga) (h3 : ¬ S pb) (h4 : ¬ S gb) : TwoAt w' pa ga pb gb xs ys := ⟨h.a.fr hf h1 h2, h.b.fr hf h3 h4, h.ne⟩
theorem TwoAt.still (h : TwoAt w pa ga pb gb xs ys) (hf : Fr (fun _ => False) w w') : TwoAt w' pa ga pb gb xs ys := h.fr hf id id id id
theorem TwoAt.setA (h : TwoAt w pa ga pb gb xs ys) {zs : List Nat} (hp : PlainAt w' pa ga zs) (hf : Fr (fun k => k = ga) w w') : TwoAt w' pa ga pb gb zs ys := ⟨hp, h.b.fr hf h.pb_ga (fun e => h.ne e.symm), h.ne⟩
theorem TwoAt.setB (h : TwoAt w pa ga pb gb xs ys) {zs : List Nat} (hp : PlainAt w' pb gb zs) (hf : Fr (fun k => k = gb) w w') : TwoAt w' pa ga pb gb xs zs := ⟨h.a.fr hf h.pa_gb h.ne, hp, h.ne⟩
theorem Fr.ab {S : Nat → Prop} {w0 : World} (h : Fr S w0 w) (k : Fr (fun k => k = ga ∨ k = gb) w w') (h1 : S ga ∨ w0.heap.size ≤ ga) (h2 : S gb ∨ w0.heap.size ≤ gb) : Fr S w0 w' := h.trans k (by rintro k (rfl | rfl) <;> assumption)
end
theorem set_z {p g : Nat} {xs : List Nat} {w : World} (h : PlainAt w p g xs) (i y : Nat) (z : Int) (hz : z = y) (hi : i < xs.length) (hy : y < 18446744073709551616) :
    Calls Try.prog 24 #[.pointer (some ⟨p, 0, none⟩), .int .i64 i, .int .u64 z] w fun e w' => e = .returned (.int .i64 0) ∧ PlainAt w' p g (xs.set i y) ∧ Fr (fun k => k = g) w w' := by
  subst hz
  exact set_in h i y hi hy
theorem check_any {pa ga pb gb : Nat} {xs ys : List Nat} {w : World} (h : TwoAt w pa ga pb gb xs ys) :
    Calls Try.prog 53 #[vecv pa, vecv pb] w fun e w' => e = .returned (.int .i64 (errB (mayB xs.length ys.length))) ∧ w = w' := by
  have h3 := h.a.len
  by_cases h1 : 1 ≤ xs.length
  · by_cases h2 : ys.length = xs.length
    · have hr : mayB xs.length ys.length = true := by simp [mayB]; omega
      rw [hr]
      exact check_ok h.a h.b h1 h2
    · have hr : mayB xs.length ys.length = false := by simp [mayB]; omega
      have hm := fun p => meth_len p
      have hbe : ((ys.length : Int) != (xs.length : Int)) = true := by simp; omega
      rw [hr]
      have H := hide h
      unfold vecv
      clear h hr h2
      go_enter Try.func53, Try.ntmps53
      go_wp2_with fail
      go_at_call 61
      refine (len_any H.out.a).mono ?_
      rintro e w1 ⟨rfl, rfl⟩
      go_wp2_with fail
      go_at_call 61
      refine (len_any H.out.b).mono ?_
      rintro e w1 ⟨rfl, rfl⟩
      go_wp2
      go_ret
      exact ⟨rfl, rfl⟩
  · have hr : mayB xs.length ys.length = false := by simp [mayB]; omega
    have hm := fun p => meth_len p
    rw [hr]
    have H := hide h
    unfold vecv
    clear h hr
    go_enter Try.func53, Try.ntmps53
    go_wp2_with fail
    go_at_call 61
    refine (len_any H.out.a).mono ?_
    rintro e w1 ⟨rfl, rfl⟩
    go_wp2
    go_ret
    exact ⟨rfl, rfl⟩

theorem check_nilA (v : Value) (w : World) (hv : v = .nilIface ∨ ∃ p, v = vecv p) :
    Calls Try.prog 53 #[.nilIface, v] w fun e w' => e = .returned (.int .i64 1) ∧ w = w' := by
  unfold vecv at hv
  rcases hv with rfl | ⟨p, rfl⟩
  · go_enter Try.func53, Try.ntmps53
    go_wp2
    go_ret
    exact ⟨rfl, rfl⟩
  · go_enter Try.func53, Try.ntmps53
    go_wp2
    go_ret
    exact ⟨rfl, rfl⟩
theorem check_nilB (p : Nat) (w : World) :
    Calls Try.prog 53 #[vecv p, .nilIface] w fun e w' => e = .returned (.int .i64 1) ∧ w = w' := by
  unfold vecv
  go_enter Try.func53, Try.ntmps53
  go_wp2
  go_ret
  exact ⟨rfl, rfl⟩
theorem check_empty {p g : Nat} {w : World} (h : PlainAt w p g []) :
    Calls Try.prog 53 #[vecv p, vecv p] w fun e w' => e = .returned (.int .i64 2) ∧ w = w' := by
  have hm := fun p => meth_len p
  have L := hide (len_any h)
  unfold vecv
  clear h
  go_enter Try.func53, Try.ntmps53
  go_wp2_with fail
  go_at_call 61
  refine L.out.mono ?_
  rintro e w1 ⟨rfl, rfl⟩
  go_wp2
  go_ret
  exact ⟨rfl, rfl⟩

/-- the first k places of a row set anew -/
def pre (f : Nat → Nat) (k : Nat) (xs : List Nat) : List Nat := (List.range k).map f ++ xs.drop k
theorem pre_zero (f : Nat → Nat) (xs : List Nat) : pre f 0 xs = xs := by simp [pre]
theorem pre_len (f : Nat → Nat) {k : Nat} {xs : List Nat} (h : k ≤ xs.length) : (pre f k xs).length = xs.length := by simp [pre]; omega
theorem pre_full (f : Nat → Nat) {k : Nat} {xs : List Nat} (h : xs.length = k) : pre f k xs = (List.range k).map f := by
  unfold pre; rw [List.drop_of_length_le (by omega)]; simp
theorem pre_get (f : Nat → Nat) {k : Nat} {xs : List Nat} (h : k < xs.length) : (pre f k xs).getD k 0 = xs.getD k 0 := by
  unfold pre
  simp only [List.getD]
  rw [List.getElem?_append_right (by simp)]
  simp [List.getElem?_drop]
theorem pre_set (f : Nat → Nat) {k : Nat} {xs : List Nat} (h : k < xs.length) : (pre f k xs).set k (f k) = pre f (k + 1) xs := by
  unfold pre
  rw [List.set_append_right _ _ (by simp)]
  simp only [List.length_map, List.length_range, Nat.sub_self]
  rw [List.drop_eq_getElem_cons h, List.set_cons_zero, List.range_succ, List.map_append, List.append_assoc]; rfl
theorem pre_same {xs : List Nat} {f : Nat → Nat} (hf : ∀ i, i < xs.length → f i = xs.getD i 0) : (List.range xs.length).map f = xs := by
  apply List.ext_getElem
  · simp
  · intro i h1 h2
    simp only [List.getElem_map, List.getElem_range]
    rw [hf i h2]
    simp [List.getD, h2]

/-- the edges of lists: where each begins, where it leads, how many begin there -/
def edgs (fr : Int) : List (List Int) → List (Int × Int × Nat)
  | [] => []
  | l :: L => l.map (fun v => (fr, v, l.length)) ++ edgs (fr + 1) L
theorem edgs_ok {n : Nat} : ∀ (L : List (List Int)) (fr : Int), okLs n L = true → 0 ≤ fr → fr + L.length ≤ n → (∀ l ∈ L, l.length ≤ 9223372036854775807) → ∀ e ∈ edgs fr L, (0 ≤ e.1 ∧ e.1 < n) ∧ (0 ≤ e.2.1 ∧ e.2.1 < n) ∧ 1 ≤ e.2.2 ∧ e.2.2 ≤ 9223372036854775807
  | [], _, _, _, _, _, e, he => by simp [edgs] at he
  | l :: L, fr, h, h0, h1, hlen, e, he => by
    simp only [okLs, List.all_cons, Bool.and_eq_true] at h
    simp only [List.length_cons] at h1
    rcases List.mem_append.1 he with he | he
    · obtain ⟨v, hv, rfl⟩ := List.mem_map.1 he
      have := List.all_eq_true.1 h.1 v hv
      simp only [okV, decide_eq_true_eq] at this
      have hl := List.length_pos_of_mem hv
      exact ⟨⟨h0, by simp only []; omega⟩, this, hl, hlen l (by simp)⟩
    · exact edgs_ok L (fr + 1) h.2 (by omega) (by omega) (fun l h => hlen l (List.mem_cons_of_mem _ h)) e he

/-- what is still to be done, done from here, comes to the whole -/
def Togo {σ : Type} (step : σ → Int × Int × Nat → σ) (P : Int × Int × Nat → Prop) (z s : σ) (rest : List (Int × Int × Nat)) : Prop := z = rest.foldl step s ∧ ∀ e ∈ rest, P e
theorem Togo.next {σ : Type} {step : σ → Int × Int × Nat → σ} {P : Int × Int × Nat → Prop} {z s : σ} {e : Int × Int × Nat} {rest : List (Int × Int × Nat)} (h : Togo step P z s (e :: rest)) : Togo step P z (step s e) rest ∧ P e :=
  ⟨⟨h.1, fun x hx => h.2 x (List.mem_cons_of_mem _ hx)⟩, h.2 e (by simp)⟩

theorem edges_any (F : Nat) (hF : ∀ args w, (callFunc F args).run Try.prog w = .ok (.enter F args) w) (cap : Array Value) (fr to : Int) (m c : Nat) (A : Option Addr) (vs : List Value) (L : List (List Int)) (w : World)
    {σ : Type} (step : σ → Int × Int × Nat → σ) (P : Int × Int × Nat → Prop) (R : σ → World → Prop) (s0 : σ)
    (h0 : 0 ≤ fr) (h1 : fr + m ≤ 256) (hm : m = L.length) (hP : ∀ e ∈ edgs fr L, P e)
    (hR : R s0 (w.alloc (.cells #[.int .i64 fr, .int .i64 to, .slice A m c] 45)))
    (hW : ∀ s w', R s w' → LsAt w' vs A m L ∧ w'.cell? ⟨w.heap.size, 0, none⟩ = some (.int .i64 fr))
    (hstep : ∀ s e w', P e → R s w' → Calls Try.prog F (#[.int .i64 e.1, .int .i64 e.2.1, .int .i64 (e.2.2 : Int)] ++ cap) w' fun x w'' => x = .returned (.int .i64 0) ∧ R (step s e) w'') :
    Calls Try.prog 58 #[.agg #[.int .i64 fr, .int .i64 to, .slice A m c], .func (.func F) #[] cap] w fun x w' => x = .returned (.int .i64 0) ∧ R ((edgs fr L).foldl step s0) w' := by
  have HT : Hid (∃ s, R s (w.alloc (.cells #[.int .i64 fr, .int .i64 to, .slice A m c] 45)) ∧ Togo step P ((edgs fr L).foldl step s0) s (edgs (fr + (0 : Nat)) (L.drop 0))) := ⟨s0, hR, by rw [show fr + ((0 : Nat) : Int) = fr by omega]; exact ⟨rfl, hP⟩⟩
  generalize (edgs fr L).foldl step s0 = z at *
  have HM := hide hm
  have HW := hide hW
  have HST := hide hstep
  clear hm hW hstep hR hP
  go_enter Try.func58, Try.ntmps58
  go_wp2
  go_loopw [13] (fun i wr => ∃ k : Nat, k ≤ m ∧ i = .int .i64 k ∧ Hid (∃ s, R s wr ∧ Togo step P z s (edgs (fr + k) (L.drop k)))) (fun i _ => m - (intOf i).toNat)
  case atStart => exact ⟨0, by omega, rfl, HT⟩
  case round =>
    obtain ⟨k, hk, rfl, HK⟩ := hrel
    by_cases hlt : k < m
    · obtain ⟨wo, rfl⟩ : ∃ wo : World, wo = wr := ⟨_, rfl⟩
      obtain ⟨s, hs, ht⟩ := HK.out
      obtain ⟨b, o, A', c', l', rfl, hb, hd, hc, hr1, hmx, hvk⟩ := (HW.out s _ hs).1.at_ hlt
      rw [hd] at ht
      have HI : Hid (∃ s, R s wo ∧ Togo step P z s ((l'.drop 0).map (fun v => (fr + k, v, l'.length)) ++ edgs (fr + k + 1) (L.drop (k + 1)))) := ⟨s, hs, ht⟩
      have HR : Hid (∀ s w', R s w' → Reads w' w'.heap.size 1 A' l'.length (l'.map (.int .i64))) := by
        intro s w' h
        obtain ⟨_, _, A2, c2, l2, _, _, hd2, _, hr2, _, hv2⟩ := (HW.out s w' h).1.at_ hlt
        rw [hd] at hd2
        obtain ⟨rfl, _⟩ := List.cons.inj hd2
        rw [hvk] at hv2
        injection hv2 with hv2
        injection hv2 with e1 e2 e3
        rw [e1]
        exact hr2
      clear ht hs hd HK hr1 hvk
      generalize hq : l'.length = q at *
      go_wp2
      go_loopw [20] (fun i wr => ∃ j : Nat, j ≤ q ∧ i = .int .i64 j ∧ Hid (∃ s, R s wr ∧ Togo step P z s ((l'.drop j).map (fun v => (fr + k, v, q)) ++ edgs (fr + k + 1) (L.drop (k + 1))))) (fun i _ => q - (intOf i).toNat)
      case atStart => exact ⟨0, by omega, rfl, HI⟩
      case round =>
        obtain ⟨j, hj, rfl, HJ⟩ := hrel
        obtain ⟨s, hs, ht⟩ := HJ.out
        by_cases hlt2 : j < q
        · obtain ⟨b2, o2, v, rfl, hb2, hd2, hc2⟩ := ints_at (HR.out s _ hs) hlt2
          have hcf := (HW.out s _ hs).2
          rw [hd2] at ht
          have HX := hide ht.next
          have HS := hide hs
          clear ht hs hd2 HJ
          go_wp2_with fail
          refine (HST.out s (fr + k, v, q) _ HX.out.2 HS.out).mono ?_
          rintro e w1 ⟨rfl, hs1⟩
          have HS1 := hide hs1
          clear hs1
          go_wp2
          go_roundw
          case rel => exact ⟨j + 1, by omega, by go_num, _, HS1.out, HX.out.1⟩
          case measure => simp [intOf]; omega
        · have HZ : Hid (∃ s, R s wr ∧ Togo step P z s (edgs (fr + (k + 1 : Nat)) (L.drop (k + 1)))) := by
            rw [List.drop_of_length_le (by omega)] at ht
            refine ⟨s, hs, ?_⟩
            rw [show fr + ((k + 1 : Nat) : Int) = fr + k + 1 by omega]
            exact ht
          clear ht hs HJ
          go_wp2
          go_roundw
          case rel => exact ⟨k + 1, by omega, by go_num, HZ⟩
          case measure => simp [intOf]; omega
    · have HZ : Hid (R z wr) := by
        obtain ⟨s, hs, ht⟩ := HK.out
        rw [List.drop_of_length_le (by rw [← HM.out]; omega)] at ht
        rw [ht.1]
        exact hs
      clear HK
      go_wp2
      go_ret
      exact ⟨rfl, HZ.out⟩
end Go.Proofs.Ytjdbjahgimlhbaa
end
section
set_option linter.unusedVariables false
namespace Go.Proofs.Ytjdbjahgimlhbaa.Gr
open Go.RowKit

/-- an edge as the rows' fold takes it: from, to, how many begin where it begins -/
abbrev T := Int × Int × Nat
def deg (l : List E) (u : Nat) : Nat := (outs l u).length
def trip (l : List E) (e : E) : T := ((e.1 : Int), (e.2 : Int), deg l e.1)
def flat (l : List E) : List T := l.map (trip l)
/-- the lists of the vertices from a on, so many -/
def lists (l : List E) (a m : Nat) : List (List Int) := (List.range m).map fun k => (outs l (a + k)).map (fun v : Nat => (v : Int))
theorem lists_len (l : List E) (a m : Nat) : (lists l a m).length = m := by simp [lists]
theorem lists_succ (l : List E) (a m : Nat) : lists l a (m + 1) = (outs l a).map (fun v : Nat => (v : Int)) :: lists l (a + 1) m := by
  unfold lists
  rw [List.range_succ_eq_map, List.map_cons, List.map_map]
  congr 1
  apply List.map_congr_left
  intro k _
  simp only [Function.comp]
  rw [show a + k.succ = a + 1 + k by omega]
/-- the edges of a part -/
def within (l : List E) (a b : Nat) : List E := l.filter fun e => decide (a ≤ e.1) && decide (e.1 < b)
theorem one_edgs (l : List E) (u : Nat) : ((outs l u).map (fun v : Nat => (v : Int))).map (fun v => ((u : Int), v, ((outs l u).map (fun v : Nat => (v : Int))).length)) = (l.filter fun e => e.1 == u).map (trip l) := by
  rw [List.length_map]
  unfold outs
  rw [List.map_map, List.map_map]
  apply List.map_congr_left
  intro e he
  have hu : e.1 = u := by simpa using (List.mem_filter.1 he).2
  simp only [Function.comp, trip, deg, outs, hu]
theorem lists_edgs (l : List E) : ∀ (m a : Nat), (edgs (a : Int) (lists l a m)).Perm ((within l a (a + m)).map (trip l))
  | 0, a => by
    have : within l a (a + 0) = [] := by
      unfold within
      rw [List.filter_eq_nil_iff]
      intro e _
      simp only [Bool.and_eq_true, decide_eq_true_eq]
      omega
    rw [this]
    exact List.Perm.nil
  | m + 1, a => by
    rw [lists_succ]
    show (((outs l a).map (fun v : Nat => (v : Int))).map (fun v => ((a : Int), v, ((outs l a).map (fun v : Nat => (v : Int))).length)) ++ edgs ((a : Int) + 1) (lists l (a + 1) m)).Perm _
    rw [one_edgs, show ((a : Int) + 1) = ((a + 1 : Nat) : Int) by omega]
    refine (List.Perm.append_left _ (lists_edgs l m (a + 1))).trans ?_
    rw [← List.map_append]
    apply List.Perm.map
    have h := List.filter_append_perm (fun e : E => e.1 == a) (within l a (a + (m + 1)))
    have h1 : (within l a (a + (m + 1))).filter (fun e : E => e.1 == a) = l.filter (fun e => e.1 == a) := by
      unfold within
      rw [List.filter_filter]
      apply List.filter_congr
      intro e _
      by_cases hc : e.1 = a
      · simp [hc]
      · simp [hc]
    have h2 : (within l a (a + (m + 1))).filter (fun e : E => !(e.1 == a)) = within l (a + 1) (a + 1 + m) := by
      unfold within
      rw [List.filter_filter]
      apply List.filter_congr
      intro e _
      rw [Bool.eq_iff_iff]
      simp only [Bool.and_eq_true, Bool.not_eq_true', beq_eq_false_iff_ne, decide_eq_true_eq]
      omega
    rw [h1, h2] at h
    exact h
theorem within_all (l : List E) (n : Nat) (h : ∀ e ∈ l, e.1 < n) : within l 0 n = l := by
  unfold within
  rw [List.filter_eq_self]
  intro e he
  simp [h e he]
theorem within_split (l : List E) (a b c : Nat) (h1 : a ≤ b) (h2 : b ≤ c) : (within l a b ++ within l b c).Perm (within l a c) := by
  have h := List.filter_append_perm (fun e : E => decide (e.1 < b)) (within l a c)
  have e1 : (within l a c).filter (fun e : E => decide (e.1 < b)) = within l a b := by
    unfold within
    rw [List.filter_filter]
    apply List.filter_congr
    intro e _
    rw [Bool.eq_iff_iff]
    simp only [Bool.and_eq_true, decide_eq_true_eq]
    omega
  have e2 : (within l a c).filter (fun e : E => !decide (e.1 < b)) = within l b c := by
    unfold within
    rw [List.filter_filter]
    apply List.filter_congr
    intro e _
    rw [Bool.eq_iff_iff]
    simp only [Bool.and_eq_true, decide_eq_true_eq, Bool.not_eq_true', decide_eq_false_iff_not]
    omega
  rw [e1, e2] at h
  exact h
theorem cut_mono {n s k : Nat} : cut n s k ≤ cut n s (k + 1) := Nat.div_le_div_right (Nat.mul_le_mul_right _ (by omega))
/-- the k-th shard's lists; what it says, edge by edge -/
def shardL (l : List E) (n s k : Nat) : List (List Int) := lists l (cut n s k) (cut n s (k + 1) - cut n s k)
def shardT (l : List E) (n s k : Nat) : List T := edgs (cut n s k : Int) (shardL l n s k)
theorem shardT_perm (l : List E) (n s k : Nat) : (shardT l n s k).Perm ((within l (cut n s k) (cut n s (k + 1))).map (trip l)) := by
  have := lists_edgs l (cut n s (k + 1) - cut n s k) (cut n s k)
  rwa [Nat.add_sub_cancel' cut_mono] at this
theorem shardsT_perm (l : List E) (n s : Nat) : ∀ k, ((List.range k).flatMap (shardT l n s)).Perm ((within l 0 (cut n s k)).map (trip l))
  | 0 => by
    have : within l 0 (cut n s 0) = [] := by
      unfold within
      rw [cut_zero, List.filter_eq_nil_iff]
      intro e _
      simp
    rw [this]
    exact List.Perm.nil
  | k + 1 => by
    rw [List.range_succ, List.flatMap_append]
    refine (List.Perm.append (shardsT_perm l n s k) (by simpa using shardT_perm l n s k)).trans ?_
    rw [← List.map_append]
    exact (within_split l 0 _ _ (Nat.zero_le _) cut_mono).map _
/-- all shards say just the edges -/
theorem allT_perm (l : List E) (n s : Nat) (h0 : 0 < s) (h : ∀ e ∈ l, e.1 < n) : ((List.range s).flatMap (shardT l n s)).Perm (flat l) := by
  have := shardsT_perm l n s s
  rwa [cut_full h0, within_all l n h] at this
theorem orderT_perm (l : List E) (n s : Nat) (h0 : 0 < s) (h : ∀ e ∈ l, e.1 < n) (o : List Nat) (ho : o.Perm (List.range s)) : (o.flatMap (shardT l n s)).Perm (flat l) :=
  (List.Perm.flatMap_right _ ho).trans (allT_perm l n s h0 h)
/-- the shards fit -/
theorem lists_ok (l : List E) (n a m : Nat) (h : ∀ e ∈ l, e.2 < n) : okLs n (lists l a m) = true := by
  unfold okLs lists
  rw [List.all_eq_true]
  intro L hL
  obtain ⟨k, _, rfl⟩ := List.mem_map.1 hL
  rw [List.all_eq_true]
  intro v hv
  obtain ⟨u, hu, rfl⟩ := List.mem_map.1 hv
  have := h _ ((outs_mem l _ u).1 hu)
  simp only [okV, decide_eq_true_eq] at this ⊢
  omega
theorem shard_fits (l : List E) (n s k : Nat) (h0 : 0 < s) (hk : k < s) (h : ∀ e ∈ l, e.2 < n) : fitsB (cut n s k : Int) (cut n s (k + 1) : Int) n (shardL l n s k) = true := by
  have h1 := cut_le (n := n) h0 (show k + 1 ≤ s by omega)
  have h2 : cut n s k ≤ cut n s (k + 1) := cut_mono
  unfold fitsB shardL
  rw [lists_ok l n _ _ h, lists_len]
  simp only [Bool.and_true, decide_eq_true_eq]
  omega
/-- a fold over what is there in either list, in any order, as often as one likes -/
theorem foldl_absorb {σ α : Type} (f : σ → α → σ) (hc : ∀ s x y, f (f s x) y = f (f s y) x) (hi : ∀ s x, f (f s x) x = f s x) (x : α) : ∀ (l : List α) (s : σ), x ∈ l → l.foldl f (f s x) = l.foldl f s
  | y :: l, s, h => by
    rw [List.foldl_cons, List.foldl_cons]
    rcases List.mem_cons.1 h with rfl | h
    · rw [hi]
    · rw [hc]
      exact foldl_absorb f hc hi x l (f s y) h
theorem foldl_more {σ α : Type} (f : σ → α → σ) (hc : ∀ s x y, f (f s x) y = f (f s y) x) (hi : ∀ s x, f (f s x) x = f s x) (m : List α) : ∀ (l : List α) (s : σ), (∀ x ∈ l, x ∈ m) → m.foldl f (l.foldl f s) = m.foldl f s
  | [], s, _ => rfl
  | x :: l, s, h => by
    rw [List.foldl_cons, foldl_more f hc hi m l (f s x) (fun y hy => h y (List.mem_cons_of_mem _ hy))]
    exact foldl_absorb f hc hi x m s (h x (by simp))
theorem foldl_same {σ α : Type} (f : σ → α → σ) (hc : ∀ s x y, f (f s x) y = f (f s y) x) (hi : ∀ s x, f (f s x) x = f s x) (l m : List α) (s : σ) (h : ∀ x, x ∈ l ↔ x ∈ m) : l.foldl f s = m.foldl f s := by
  have h1 := foldl_more f hc hi m l s (fun x hx => (h x).1 hx)
  have h2 := foldl_more f hc hi l m s (fun x hx => (h x).2 hx)
  have h3 : (l ++ m).foldl f s = (m ++ l).foldl f s := List.Perm.foldl_eq' List.perm_append_comm (fun x _ y _ z => hc z x y) s
  rw [List.foldl_append, List.foldl_append, h1, h2] at h3
  exact h3.symm
theorem foldl_flatMap {σ α β : Type} (f : σ → β → σ) (g : α → List β) : ∀ (l : List α) (s : σ), (l.flatMap g).foldl f s = l.foldl (fun s a => (g a).foldl f s) s
  | [], s => rfl
  | a :: l, s => by rw [List.flatMap_cons, List.foldl_append, List.foldl_cons, foldl_flatMap f g l]
end Go.Proofs.Ytjdbjahgimlhbaa.Gr
end
