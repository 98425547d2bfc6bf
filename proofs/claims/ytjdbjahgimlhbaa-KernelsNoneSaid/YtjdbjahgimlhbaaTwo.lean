/- TWO ROWS OF A JOB; a shard's edges gone through. -/
import Derived.Test.YtjdbjahgimlhbaaRwS
set_option linter.unusedVariables false
set_option maxRecDepth 100000
namespace Go.Proofs.Ytjdbjahgimlhbaa
open Go.RowKit

structure TwoAt (w : World) (pa ga pb gb : Nat) (xs ys : List Nat) : Prop where
  a : PlainAt w pa ga xs
  b : PlainAt w pb gb ys
  ne : ga ≠ gb
section
variable {w w' : World} {pa ga pb gb : Nat} {xs ys : List Nat}
theorem TwoAt.pa_ga (h : TwoAt w pa ga pb gb xs ys) : pa ≠ ga := h.a.ne
theorem TwoAt.pa_gb (h : TwoAt w pa ga pb gb xs ys) : pa ≠ gb := h.a.head.ne_ h.b.row (by decide)
theorem TwoAt.pb_ga (h : TwoAt w pa ga pb gb xs ys) : pb ≠ ga := h.b.head.ne_ h.a.row (by decide)
theorem TwoAt.pb_gb (h : TwoAt w pa ga pb gb xs ys) : pb ≠ gb := h.b.ne
theorem TwoAt.fr {S : Nat → Prop} (h : TwoAt w pa ga pb gb xs ys) (hf : Fr S w w') (h1 : ¬ S pa) (h2 : ¬ S ga) (h3 : ¬ S pb) (h4 : ¬ S gb) : TwoAt w' pa ga pb gb xs ys := ⟨h.a.fr hf h1 h2, h.b.fr hf h3 h4, h.ne⟩
theorem TwoAt.still (h : TwoAt w pa ga pb gb xs ys) (hf : Fr (fun _ => False) w w') : TwoAt w' pa ga pb gb xs ys := h.fr hf id id id id
theorem TwoAt.setA (h : TwoAt w pa ga pb gb xs ys) {zs : List Nat} (hp : PlainAt w' pa ga zs) (hf : Fr (fun k => k = ga) w w') : TwoAt w' pa ga pb gb zs ys := ⟨hp, h.b.fr hf h.pb_ga (fun e => h.ne e.symm), h.ne⟩
theorem TwoAt.setB (h : TwoAt w pa ga pb gb xs ys) {zs : List Nat} (hp : PlainAt w' pb gb zs) (hf : Fr (fun k => k = gb) w w') : TwoAt w' pa ga pb gb xs zs := ⟨h.a.fr hf h.pa_gb h.ne, hp, h.ne⟩
theorem Fr.ab {S : Nat → Prop} {w0 : World} (h : Fr S w0 w) (k : Fr (fun k => k = ga ∨ k = gb) w w') (h1 : S ga ∨ w0.heap.size ≤ ga) (h2 : S gb ∨ w0.heap.size ≤ gb) : Fr S w0 w' := h.trans k (by rintro k (rfl | rfl) <;> assumption)
end
theorem set_z {p g : Nat} {xs : List Nat} {w : World} (h : PlainAt w p g xs) (i y : Nat) (z : Int) (hz : z = y) (hi : i < xs.length) (hy : y < 18446744073709551616) :
    Calls Try.prog 24 #[.pointer (some ⟨p, 0, none⟩), .int .i64 i, .int .u64 z] w fun e w' => e = .returned (.int .i64 0) ∧ PlainAt w' p g (xs.set i y) ∧ Fr (fun k => k = g) w w' := by
  subst hz
  exact set_in h i y hi hy
theorem check_any {pa ga pb gb : Nat} {xs ys : List Nat} {w : World} (h : TwoAt w pa ga pb gb xs ys) :
    Calls Try.prog 53 #[vecv pa, vecv pb] w fun e w' => e = .returned (.int .i64 (errB (mayB xs.length ys.length))) ∧ w = w' := by
  have h3 := h.a.len
  by_cases h1 : 1 ≤ xs.length
  · by_cases h2 : ys.length = xs.length
    · have hr : mayB xs.length ys.length = true := by simp [mayB]; omega
      rw [hr]
      exact check_ok h.a h.b h1 h2
    · have hr : mayB xs.length ys.length = false := by simp [mayB]; omega
      have hm := fun p => meth_len p
      have hbe : ((ys.length : Int) != (xs.length : Int)) = true := by simp; omega
      rw [hr]
      have H := hide h
      unfold vecv
      clear h hr h2
      go_enter Try.func53, Try.ntmps53
      go_wp2_with fail
      go_at_call 61
      refine (len_any H.out.a).mono ?_
      rintro e w1 ⟨rfl, rfl⟩
      go_wp2_with fail
      go_at_call 61
      refine (len_any H.out.b).mono ?_
      rintro e w1 ⟨rfl, rfl⟩
      go_wp2
      go_ret
      exact ⟨rfl, rfl⟩
  · have hr : mayB xs.length ys.length = false := by simp [mayB]; omega
    have hm := fun p => meth_len p
    rw [hr]
    have H := hide h
    unfold vecv
    clear h hr
    go_enter Try.func53, Try.ntmps53
    go_wp2_with fail
    go_at_call 61
    refine (len_any H.out.a).mono ?_
    rintro e w1 ⟨rfl, rfl⟩
    go_wp2
    go_ret
    exact ⟨rfl, rfl⟩

theorem check_nilA (v : Value) (w : World) (hv : v = .nilIface ∨ ∃ p, v = vecv p) :
    Calls Try.prog 53 #[.nilIface, v] w fun e w' => e = .returned (.int .i64 1) ∧ w = w' := by
  unfold vecv at hv
  rcases hv with rfl | ⟨p, rfl⟩
  · go_enter Try.func53, Try.ntmps53
    go_wp2
    go_ret
    exact ⟨rfl, rfl⟩
  · go_enter Try.func53, Try.ntmps53
    go_wp2
    go_ret
    exact ⟨rfl, rfl⟩
theorem check_nilB (p : Nat) (w : World) :
    Calls Try.prog 53 #[vecv p, .nilIface] w fun e w' => e = .returned (.int .i64 1) ∧ w = w' := by
  unfold vecv
  go_enter Try.func53, Try.ntmps53
  go_wp2
  go_ret
  exact ⟨rfl, rfl⟩
theorem check_empty {p g : Nat} {w : World} (h : PlainAt w p g []) :
    Calls Try.prog 53 #[vecv p, vecv p] w fun e w' => e = .returned (.int .i64 2) ∧ w = w' := by
  have hm := fun p => meth_len p
  have L := hide (len_any h)
  unfold vecv
  clear h
  go_enter Try.func53, Try.ntmps53
  go_wp2_with fail
  go_at_call 61
  refine L.out.mono ?_
  rintro e w1 ⟨rfl, rfl⟩
  go_wp2
  go_ret
  exact ⟨rfl, rfl⟩

/-- the first k places of a row set anew -/
def pre (f : Nat → Nat) (k : Nat) (xs : List Nat) : List Nat := (List.range k).map f ++ xs.drop k
theorem pre_zero (f : Nat → Nat) (xs : List Nat) : pre f 0 xs = xs := by simp [pre]
theorem pre_len (f : Nat → Nat) {k : Nat} {xs : List Nat} (h : k ≤ xs.length) : (pre f k xs).length = xs.length := by simp [pre]; omega
theorem pre_full (f : Nat → Nat) {k : Nat} {xs : List Nat} (h : xs.length = k) : pre f k xs = (List.range k).map f := by
  unfold pre; rw [List.drop_of_length_le (by omega)]; simp
theorem pre_get (f : Nat → Nat) {k : Nat} {xs : List Nat} (h : k < xs.length) : (pre f k xs).getD k 0 = xs.getD k 0 := by
  unfold pre
  simp only [List.getD]
  rw [List.getElem?_append_right (by simp)]
  simp [List.getElem?_drop]
theorem pre_set (f : Nat → Nat) {k : Nat} {xs : List Nat} (h : k < xs.length) : (pre f k xs).set k (f k) = pre f (k + 1) xs := by
  unfold pre
  rw [List.set_append_right _ _ (by simp)]
  simp only [List.length_map, List.length_range, Nat.sub_self]
  rw [List.drop_eq_getElem_cons h, List.set_cons_zero, List.range_succ, List.map_append, List.append_assoc]; rfl
theorem pre_same {xs : List Nat} {f : Nat → Nat} (hf : ∀ i, i < xs.length → f i = xs.getD i 0) : (List.range xs.length).map f = xs := by
  apply List.ext_getElem
  · simp
  · intro i h1 h2
    simp only [List.getElem_map, List.getElem_range]
    rw [hf i h2]
    simp [List.getD, h2]

/-- the edges of lists: where each begins, where it leads, how many begin there -/
def edgs (fr : Int) : List (List Int) → List (Int × Int × Nat)
  | [] => []
  | l :: L => l.map (fun v => (fr, v, l.length)) ++ edgs (fr + 1) L
theorem edgs_ok {n : Nat} : ∀ (L : List (List Int)) (fr : Int), okLs n L = true → 0 ≤ fr → fr + L.length ≤ n → (∀ l ∈ L, l.length ≤ 9223372036854775807) → ∀ e ∈ edgs fr L, (0 ≤ e.1 ∧ e.1 < n) ∧ (0 ≤ e.2.1 ∧ e.2.1 < n) ∧ 1 ≤ e.2.2 ∧ e.2.2 ≤ 9223372036854775807
  | [], _, _, _, _, _, e, he => by simp [edgs] at he
  | l :: L, fr, h, h0, h1, hlen, e, he => by
    simp only [okLs, List.all_cons, Bool.and_eq_true] at h
    simp only [List.length_cons] at h1
    rcases List.mem_append.1 he with he | he
    · obtain ⟨v, hv, rfl⟩ := List.mem_map.1 he
      have := List.all_eq_true.1 h.1 v hv
      simp only [okV, decide_eq_true_eq] at this
      have hl := List.length_pos_of_mem hv
      exact ⟨⟨h0, by simp only []; omega⟩, this, hl, hlen l (by simp)⟩
    · exact edgs_ok L (fr + 1) h.2 (by omega) (by omega) (fun l h => hlen l (List.mem_cons_of_mem _ h)) e he

/-- what is still to be done, done from here, comes to the whole -/
def Togo {σ : Type} (step : σ → Int × Int × Nat → σ) (P : Int × Int × Nat → Prop) (z s : σ) (rest : List (Int × Int × Nat)) : Prop := z = rest.foldl step s ∧ ∀ e ∈ rest, P e
theorem Togo.next {σ : Type} {step : σ → Int × Int × Nat → σ} {P : Int × Int × Nat → Prop} {z s : σ} {e : Int × Int × Nat} {rest : List (Int × Int × Nat)} (h : Togo step P z s (e :: rest)) : Togo step P z (step s e) rest ∧ P e :=
  ⟨⟨h.1, fun x hx => h.2 x (List.mem_cons_of_mem _ hx)⟩, h.2 e (by simp)⟩

theorem edges_any (F : Nat) (hF : ∀ args w, (callFunc F args).run Try.prog w = .ok (.enter F args) w) (cap : Array Value) (fr to : Int) (m c : Nat) (A : Option Addr) (vs : List Value) (L : List (List Int)) (w : World)
    {σ : Type} (step : σ → Int × Int × Nat → σ) (P : Int × Int × Nat → Prop) (R : σ → World → Prop) (s0 : σ)
    (h0 : 0 ≤ fr) (h1 : fr + m ≤ 256) (hm : m = L.length) (hP : ∀ e ∈ edgs fr L, P e)
    (hR : R s0 (w.alloc (.cells #[.int .i64 fr, .int .i64 to, .slice A m c] 45)))
    (hW : ∀ s w', R s w' → LsAt w' vs A m L ∧ w'.cell? ⟨w.heap.size, 0, none⟩ = some (.int .i64 fr))
    (hstep : ∀ s e w', P e → R s w' → Calls Try.prog F (#[.int .i64 e.1, .int .i64 e.2.1, .int .i64 (e.2.2 : Int)] ++ cap) w' fun x w'' => x = .returned (.int .i64 0) ∧ R (step s e) w'') :
    Calls Try.prog 58 #[.agg #[.int .i64 fr, .int .i64 to, .slice A m c], .func (.func F) #[] cap] w fun x w' => x = .returned (.int .i64 0) ∧ R ((edgs fr L).foldl step s0) w' := by
  have HT : Hid (∃ s, R s (w.alloc (.cells #[.int .i64 fr, .int .i64 to, .slice A m c] 45)) ∧ Togo step P ((edgs fr L).foldl step s0) s (edgs (fr + (0 : Nat)) (L.drop 0))) := ⟨s0, hR, by rw [show fr + ((0 : Nat) : Int) = fr by omega]; exact ⟨rfl, hP⟩⟩
  generalize (edgs fr L).foldl step s0 = z at *
  have HM := hide hm
  have HW := hide hW
  have HST := hide hstep
  clear hm hW hstep hR hP
  go_enter Try.func58, Try.ntmps58
  go_wp2
  go_loopw [13] (fun i wr => ∃ k : Nat, k ≤ m ∧ i = .int .i64 k ∧ Hid (∃ s, R s wr ∧ Togo step P z s (edgs (fr + k) (L.drop k)))) (fun i _ => m - (intOf i).toNat)
  case atStart => exact ⟨0, by omega, rfl, HT⟩
  case round =>
    obtain ⟨k, hk, rfl, HK⟩ := hrel
    by_cases hlt : k < m
    · obtain ⟨wo, rfl⟩ : ∃ wo : World, wo = wr := ⟨_, rfl⟩
      obtain ⟨s, hs, ht⟩ := HK.out
      obtain ⟨b, o, A', c', l', rfl, hb, hd, hc, hr1, hmx, hvk⟩ := (HW.out s _ hs).1.at_ hlt
      rw [hd] at ht
      have HI : Hid (∃ s, R s wo ∧ Togo step P z s ((l'.drop 0).map (fun v => (fr + k, v, l'.length)) ++ edgs (fr + k + 1) (L.drop (k + 1)))) := ⟨s, hs, ht⟩
      have HR : Hid (∀ s w', R s w' → Reads w' w'.heap.size 1 A' l'.length (l'.map (.int .i64))) := by
        intro s w' h
        obtain ⟨_, _, A2, c2, l2, _, _, hd2, _, hr2, _, hv2⟩ := (HW.out s w' h).1.at_ hlt
        rw [hd] at hd2
        obtain ⟨rfl, _⟩ := List.cons.inj hd2
        rw [hvk] at hv2
        injection hv2 with hv2
        injection hv2 with e1 e2 e3
        rw [e1]
        exact hr2
      clear ht hs hd HK hr1 hvk
      generalize hq : l'.length = q at *
      go_wp2
      go_loopw [20] (fun i wr => ∃ j : Nat, j ≤ q ∧ i = .int .i64 j ∧ Hid (∃ s, R s wr ∧ Togo step P z s ((l'.drop j).map (fun v => (fr + k, v, q)) ++ edgs (fr + k + 1) (L.drop (k + 1))))) (fun i _ => q - (intOf i).toNat)
      case atStart => exact ⟨0, by omega, rfl, HI⟩
      case round =>
        obtain ⟨j, hj, rfl, HJ⟩ := hrel
        obtain ⟨s, hs, ht⟩ := HJ.out
        by_cases hlt2 : j < q
        · obtain ⟨b2, o2, v, rfl, hb2, hd2, hc2⟩ := ints_at (HR.out s _ hs) hlt2
          have hcf := (HW.out s _ hs).2
          rw [hd2] at ht
          have HX := hide ht.next
          have HS := hide hs
          clear ht hs hd2 HJ
          go_wp2_with fail
          refine (HST.out s (fr + k, v, q) _ HX.out.2 HS.out).mono ?_
          rintro e w1 ⟨rfl, hs1⟩
          have HS1 := hide hs1
          clear hs1
          go_wp2
          go_roundw
          case rel => exact ⟨j + 1, by omega, by go_num, _, HS1.out, HX.out.1⟩
          case measure => simp [intOf]; omega
        · have HZ : Hid (∃ s, R s wr ∧ Togo step P z s (edgs (fr + (k + 1 : Nat)) (L.drop (k + 1)))) := by
            rw [List.drop_of_length_le (by omega)] at ht
            refine ⟨s, hs, ?_⟩
            rw [show fr + ((k + 1 : Nat) : Int) = fr + k + 1 by omega]
            exact ht
          clear ht hs HJ
          go_wp2
          go_roundw
          case rel => exact ⟨k + 1, by omega, by go_num, HZ⟩
          case measure => simp [intOf]; omega
    · have HZ : Hid (R z wr) := by
        obtain ⟨s, hs, ht⟩ := HK.out
        rw [List.drop_of_length_le (by rw [← HM.out]; omega)] at ht
        rw [ht.1]
        exact hs
      clear HK
      go_wp2
      go_ret
      exact ⟨rfl, HZ.out⟩
end Go.Proofs.Ytjdbjahgimlhbaa
