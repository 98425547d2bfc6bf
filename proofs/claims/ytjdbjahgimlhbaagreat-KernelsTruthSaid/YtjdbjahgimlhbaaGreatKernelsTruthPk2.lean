/- Parts of the proof of KernelsTruth: no conditions of their own. -/
import Derived.RowKit
import Derived.Test.YtjdbjahgimlhbaaGreatKernelsTruthPk0
import Derived.Deep.MidRow
import Derived.Deep.RegionHeld3
import Derived.Laws.StructEq
section
set_option linter.unusedVariables false
namespace Go.Proofs.YtjdbjahgimlhbaaGreat.Gr

/-- an edge: from, to -/
abbrev E := Nat × Nat
def less (a b : E) : Bool := decide (a.1 < b.1) || (decide (a.1 = b.1) && decide (a.2 < b.2))
theorem less_irrefl (a : E) : less a a = false := by simp [less]
theorem less_trans {a b c : E} (h : less a b = true) (k : less b c = true) : less a c = true := by
  simp only [less, Bool.or_eq_true, Bool.and_eq_true, decide_eq_true_eq] at *
  omega
theorem less_not {a b : E} (h : less a b = false) (hne : a ≠ b) : less b a = true := by
  obtain ⟨a1, a2⟩ := a
  obtain ⟨b1, b2⟩ := b
  simp only [less, Bool.or_eq_true, Bool.and_eq_true, decide_eq_true_eq, Bool.or_eq_false_iff, Bool.and_eq_false_iff, decide_eq_false_iff_not, ne_eq, Prod.mk.injEq] at *
  omega
/-- where an edge is to stand, from place k down -/
def place (l : List E) (x : E) : Nat → Nat
  | 0 => 0
  | k + 1 => if less x (l.getD k (0, 0)) then place l x k else k + 1
def put (l : List E) (x : E) : List E :=
  let k := place l x l.length
  if 0 < k ∧ l.getD (k - 1) (0, 0) = x then l else l.take k ++ x :: l.drop k
theorem place_le (l : List E) (x : E) : ∀ k, place l x k ≤ k
  | 0 => Nat.le_refl _
  | k + 1 => by
    unfold place
    split
    · have := place_le l x k; omega
    · exact Nat.le_refl _
theorem place_hi (l : List E) (x : E) : ∀ k, ∀ i, place l x k ≤ i → i < k → less x (l.getD i (0, 0)) = true
  | 0, i, _, h => absurd h (by omega)
  | k + 1, i, h1, h2 => by
    unfold place at h1
    split at h1
    · next hc =>
      by_cases hik : i = k
      · rw [hik]; exact hc
      · exact place_hi l x k i h1 (by omega)
    · omega
theorem place_lo (l : List E) (x : E) : ∀ k, 0 < place l x k → less x (l.getD (place l x k - 1) (0, 0)) = false
  | 0, h => absurd h (by simp [place])
  | k + 1, h => by
    unfold place at h ⊢
    split at h
    · next hc => rw [if_pos hc]; exact place_lo l x k h
    · next hc => rw [if_neg hc]; simpa using hc
def Sorted (l : List E) : Prop := l.Pairwise (fun a b => less a b = true)
theorem put_mem (l : List E) (x e : E) : e ∈ put l x ↔ e = x ∨ e ∈ l := by
  unfold put
  have hle := place_le l x l.length
  generalize place l x l.length = k at *
  simp only
  split
  · next h =>
    constructor
    · exact .inr
    · rintro (rfl | h')
      · rw [← h.2, List.getD_eq_getElem?_getD, List.getElem?_eq_getElem (by omega)]
        exact List.getElem_mem _
      · exact h'
  · rw [List.mem_append, List.mem_cons]
    constructor
    · rintro (h | rfl | h)
      · exact .inr (List.mem_of_mem_take h)
      · exact .inl rfl
      · exact .inr (List.mem_of_mem_drop h)
    · rintro (rfl | h)
      · exact .inr (.inl rfl)
      · rw [← List.take_append_drop k l, List.mem_append] at h
        rcases h with h | h
        · exact .inl h
        · exact .inr (.inr h)
theorem put_len (l : List E) (x : E) : (put l x).length ≤ l.length + 1 := by
  unfold put
  simp only
  split
  · omega
  · simp; omega
theorem put_sorted {l : List E} (h : Sorted l) (x : E) : Sorted (put l x) := by
  unfold put
  have hle := place_le l x l.length
  have hhi := place_hi l x l.length
  have hlo := place_lo l x l.length
  generalize place l x l.length = k at *
  simp only
  split
  · exact h
  · next hn =>
    have h' := h
    unfold Sorted at h h' ⊢
    rw [← List.take_append_drop k l, List.pairwise_append] at h'
    have hx : ∀ e ∈ l.drop k, less x e = true := by
      intro e he
      obtain ⟨i, hi, rfl⟩ := List.getElem_of_mem he
      rw [List.getElem_drop]
      have hi' : k + i < l.length := by simp at hi; omega
      have := hhi (k + i) (by omega) hi'
      rwa [List.getD_eq_getElem?_getD, List.getElem?_eq_getElem hi'] at this
    have hy : ∀ e ∈ l.take k, less e x = true := by
      intro e he
      have hk : 0 < k := by
        rcases Nat.eq_zero_or_pos k with h0 | h0
        · subst h0; simp at he
        · exact h0
      have hl := hlo hk
      have hkl : k - 1 < l.length := by omega
      have hg : l.getD (k - 1) (0, 0) = l[k - 1] := by rw [List.getD_eq_getElem?_getD, List.getElem?_eq_getElem hkl]; rfl
      rw [hg] at hl hn
      have hlast : less l[k - 1] x = true := less_not hl (fun e => hn ⟨hk, e.symm⟩)
      obtain ⟨i, hi, rfl⟩ := List.getElem_of_mem he
      rw [List.getElem_take]
      simp at hi
      by_cases hik : i = k - 1
      · subst hik; exact hlast
      · exact less_trans ((List.pairwise_iff_getElem.1 h) i (k - 1) (by omega) hkl (by omega)) hlast
    rw [List.pairwise_append]
    refine ⟨h'.1, ?_, ?_⟩
    · rw [List.pairwise_cons]
      exact ⟨hx, h'.2.1⟩
    · intro a ha b hb
      rcases List.mem_cons.1 hb with rfl | hb
      · exact hy a ha
      · exact h'.2.2 a ha b hb
/-- the edges, in order, each once -/
def normal (l : List E) : List E := l.foldl put []
theorem normal_gen (l : List E) : ∀ s, Sorted s → Sorted (l.foldl put s) ∧ (∀ e, e ∈ l.foldl put s ↔ e ∈ s ∨ e ∈ l) ∧ (l.foldl put s).length ≤ s.length + l.length := by
  induction l with
  | nil => intro s h; exact ⟨h, by simp, by simp⟩
  | cons x l ih =>
    intro s h
    obtain ⟨h1, h2, h3⟩ := ih (put s x) (put_sorted h x)
    refine ⟨h1, fun e => ?_, ?_⟩
    · rw [List.foldl_cons, h2, put_mem, List.mem_cons]
      constructor
      · rintro ((h | h) | h)
        · exact .inr (.inl h)
        · exact .inl h
        · exact .inr (.inr h)
      · rintro (h | h | h)
        · exact .inl (.inr h)
        · exact .inl (.inl h)
        · exact .inr h
    · have := put_len s x
      rw [List.foldl_cons, List.length_cons]
      omega
theorem normal_sorted (l : List E) : Sorted (normal l) := (normal_gen l [] List.Pairwise.nil).1
theorem normal_mem (l : List E) (e : E) : e ∈ normal l ↔ e ∈ l := by
  have := (normal_gen l [] List.Pairwise.nil).2.1 e
  simpa [normal] using this
theorem normal_len (l : List E) : (normal l).length ≤ l.length := by
  have := (normal_gen l [] List.Pairwise.nil).2.2
  simpa [normal] using this
/-- the vertices to which a vertex leads, in order -/
def outs (l : List E) (v : Nat) : List Nat := (l.filter fun e => e.1 == v).map (·.2)
theorem outs_sorted {l : List E} (h : Sorted l) (v : Nat) : (outs l v).Pairwise (· < ·) := by
  unfold outs
  rw [List.pairwise_map]
  have h1 : (l.filter fun e => e.1 == v).Pairwise (fun a b => less a b = true) := h.filter _
  refine List.Pairwise.imp_of_mem ?_ h1
  intro a b ha hb hab
  have ea : a.1 = v := by simpa using (List.mem_filter.1 ha).2
  have eb : b.1 = v := by simpa using (List.mem_filter.1 hb).2
  simp only [less, Bool.or_eq_true, Bool.and_eq_true, decide_eq_true_eq] at hab
  omega
theorem outs_mem (l : List E) (v u : Nat) : u ∈ outs l v ↔ (v, u) ∈ l := by
  unfold outs
  rw [List.mem_map]
  constructor
  · rintro ⟨e, he, rfl⟩
    obtain ⟨h1, h2⟩ := List.mem_filter.1 he
    have : e.1 = v := by simpa using h2
    rw [← this]; exact h1
  · intro h
    exact ⟨(v, u), List.mem_filter.2 ⟨h, by simp⟩, rfl⟩
/-- the k-th of s parts of n vertices begins here -/
def cut (n s k : Nat) : Nat := k * n / s
theorem cut_lt {n s k : Nat} (h0 : 0 < s) (hs : s ≤ n) : cut n s k < cut n s (k + 1) := by
  unfold cut
  rw [Nat.add_mul, Nat.one_mul]
  have h1 : k * n / s + 1 = (k * n + s) / s := by rw [Nat.add_div_right _ h0]
  have h2 : (k * n + s) / s ≤ (k * n + n) / s := Nat.div_le_div_right (by omega)
  omega
theorem cut_zero (n s : Nat) : cut n s 0 = 0 := by simp [cut]
theorem cut_full {n s : Nat} (h0 : 0 < s) : cut n s s = n := by simp [cut, Nat.mul_div_cancel_left _ h0]
theorem cut_le {n s k : Nat} (h0 : 0 < s) (hk : k ≤ s) : cut n s k ≤ n := by
  have : k * n / s ≤ s * n / s := Nat.div_le_div_right (Nat.mul_le_mul_right _ hk)
  rw [Nat.mul_div_cancel_left _ h0] at this
  exact this
end Go.Proofs.YtjdbjahgimlhbaaGreat.Gr
end
section
set_option linter.unusedVariables false
set_option maxRecDepth 100000
namespace Go.Proofs.YtjdbjahgimlhbaaGreat
open Go.RowKit
open Gr (E)

def ev (e : E) : Value := .agg #[.int .i64 (e.1 : Int), .int .i64 (e.2 : Int)]
def ecells (l : List E) : List Value := l.flatMap fun e => [.int .i64 (e.1 : Int), .int .i64 (e.2 : Int)]
theorem ecells_len (l : List E) : (ecells l).length = l.length * 2 := by
  induction l with
  | nil => rfl
  | cons e l ih => simp only [ecells, List.flatMap_cons, List.length_append, List.length_cons, List.length_nil] at ih ⊢; omega
theorem ecells_app (a b : List E) : ecells (a ++ b) = ecells a ++ ecells b := by simp [ecells]
theorem ecells_at : ∀ (l : List E) (k : Nat) (e : E), l[k]? = some e → (ecells l)[2 * k]? = some (.int .i64 (e.1 : Int)) ∧ (ecells l)[2 * k + 1]? = some (.int .i64 (e.2 : Int))
  | [], k, e, h => by simp at h
  | x :: l, 0, e, h => by
    obtain rfl : x = e := by simpa using h
    simp [ecells]
  | x :: l, k + 1, e, h => by
    have := ecells_at l k e (by simpa using h)
    simp only [ecells, List.flatMap_cons] at this ⊢
    rw [show 2 * (k + 1) = 2 * k + 1 + 1 by omega, show 2 * k + 1 + 1 + 1 = (2 * k + 1) + 1 + 1 by omega]
    simpa using this
theorem ecells_take (l : List E) (k : Nat) : (ecells l).take (k * 2) = ecells (l.take k) := by
  induction l generalizing k with
  | nil => simp [ecells]
  | cons e l ih =>
    cases k with
    | zero => simp [ecells]
    | succ k =>
      rw [show (k + 1) * 2 = k * 2 + 1 + 1 by omega]
      have := ih k
      simp only [ecells, List.flatMap_cons, List.take_succ_cons] at this ⊢
      simp [this]
theorem ecells_one {l : List E} : ∀ u ∈ ecells l, u.oneCell' = true := by
  intro u hu
  obtain ⟨e, _, he⟩ := List.mem_flatMap.1 hu
  simp at he
  rcases he with rfl | rfl <;> simp [Value.oneCell']
/-- a slice of edges -/
abbrev EdgesAt (w : World) (A : Option Addr) (l : List E) : Prop := Reads w w.heap.size 2 A l.length (ecells l)
theorem EdgesAt.cells {w : World} {A : Option Addr} {l : List E} (h : EdgesAt w A l) {k : Nat} (hk : k < l.length) :
    ∃ b o, A = some ⟨b, o, none⟩ ∧ b < w.heap.size ∧ w.rangeAt b (o + 2 * k) [.int .i64 ((l[k]).1 : Int), .int .i64 ((l[k]).2 : Int)] := by
  obtain ⟨b, o, e, hb, hc⟩ := h.2 (by omega)
  obtain ⟨h1, h2⟩ := ecells_at l k _ (List.getElem?_eq_getElem hk)
  refine ⟨b, o, e, hb, fun j v hj => ?_⟩
  match j, hj with
  | 0, hj => obtain rfl := Option.some.inj hj; have := hc _ _ h1; simpa [Nat.add_assoc] using this
  | 1, hj => obtain rfl := Option.some.inj hj; have := hc _ _ h2; simpa [Nat.add_assoc] using this
theorem edge_size : (Tryz.prog.info? 59).map (·.size) = some 2 := by kernel_rfl
theorem edge_info : (Tryz.prog.info? 59).map (fun i => (i.zero, i.size, i.bytes)) = some (some (.agg #[.int .i64 0, .int .i64 0]), 2, 16) := by kernel_rfl

theorem less8_any (a b : E) (w : World) : Calls Tryz.prog 39 #[ev a, ev b] w fun e w' => e = .returned (.bool (Gr.less a b)) ∧ Fr (fun _ => False) w w' := by
  obtain ⟨a1, a2⟩ := a
  obtain ⟨b1, b2⟩ := b
  unfold ev
  by_cases h1 : a1 < b1
  · have hr : Gr.less (a1, a2) (b1, b2) = true := by simp [Gr.less, h1]
    rw [hr]
    clear hr
    go_enter Tryz.func39, Tryz.ntmps39
    go_wp2
    go_ret
    exact ⟨rfl, ((Fr.refl _ _).alloc _).alloc _⟩
  · by_cases h2 : a1 = b1
    · subst h2
      by_cases h3 : a2 < b2
      · have hr : Gr.less (a1, a2) (a1, b2) = true := by simp [Gr.less, h3]
        rw [hr]
        clear hr
        go_enter Tryz.func39, Tryz.ntmps39
        go_wp2
        go_ret
        exact ⟨rfl, ((Fr.refl _ _).alloc _).alloc _⟩
      · have hr : Gr.less (a1, a2) (a1, b2) = false := by simp [Gr.less]; omega
        rw [hr]
        clear hr
        go_enter Tryz.func39, Tryz.ntmps39
        go_wp2
        go_ret
        exact ⟨rfl, ((Fr.refl _ _).alloc _).alloc _⟩
    · have hr : Gr.less (a1, a2) (b1, b2) = false := by simp [Gr.less, h1, h2]
      rw [hr]
      clear hr
      have h4 : ((a1 : Int) == (b1 : Int)) = false := by simp; omega
      go_enter Tryz.func39, Tryz.ntmps39
      go_wp2
      go_ret
      exact ⟨rfl, ((Fr.refl _ _).alloc _).alloc _⟩
end Go.Proofs.YtjdbjahgimlhbaaGreat
end
section
set_option linter.unusedVariables false
set_option maxRecDepth 100000
namespace Go.Proofs.YtjdbjahgimlhbaaGreat
open Go.RowKit
open Gr (E)

theorem load_edge {w : World} {b o : Nat} {e : E} (h : w.rangeAt b o [.int .i64 (e.1 : Int), .int .i64 (e.2 : Int)]) : (Instr.loadAt 59 (.pointer (some ⟨b, o, none⟩))).run Tryz.prog w = .ok (ev e) w :=
  run_loadAt_mid w b o 59 _ _ h Tryz.underlying59 rfl (by rw [edge_size]; rfl)
theorem range_fr {w w' : World} {b o : Nat} {cs : List Value} (h : w.rangeAt b o cs) (hf : Fr (fun _ => False) w w') : w'.rangeAt b o cs := fun j v hv => hf.cell (h j v hv) (fun h => h)
theorem range_blk {w : World} {b : Nat} {t : TypeId} {e : E} (h : Blk w b t #[.int .i64 (e.1 : Int), .int .i64 (e.2 : Int)]) : w.rangeAt b 0 [.int .i64 (e.1 : Int), .int .i64 (e.2 : Int)] := fun j v hv => by
  rw [Nat.zero_add, h.cell]
  simpa using hv
theorem eq_edge (a b c d : Int) (w : World) : (binOp .eql 59 (.agg #[.int .i64 a, .int .i64 b]) (.agg #[.int .i64 c, .int .i64 d])).run Tryz.prog w = .ok (.bool ((a == c) && (b == d))) w := by
  have hf : Tryz.prog.underlying 59 = some (.struct (Tryz.prog.fieldsOf 59)) := by kernel_rfl
  have hp : Tryz.prog.stoodInHeld 59 = false := by kernel_rfl
  rw [run_eql_struct]
  rw [run_equalIn_struct (P := Tryz.prog) w 9999 59 _ _ hf hp]
  simp only [Program.fieldsOf, Tryz.underlying59]
  have h0 : (part 3 #[.int .i64 a, .int .i64 b] 0).run Tryz.prog w = .ok (.int .i64 a) w := by kernel_rfl
  have h1 : (part 3 #[.int .i64 a, .int .i64 b] 1).run Tryz.prog w = .ok (.int .i64 b) w := by kernel_rfl
  have h2 : (part 3 #[.int .i64 c, .int .i64 d] 0).run Tryz.prog w = .ok (.int .i64 c) w := by kernel_rfl
  have h3 : (part 3 #[.int .i64 c, .int .i64 d] 1).run Tryz.prog w = .ok (.int .i64 d) w := by kernel_rfl
  have h4 := run_equalIn_int (P := Tryz.prog) w 9998 3 .i64 .i64 a c Tryz.underlying3
  have h5 := run_equalIn_int (P := Tryz.prog) w 9998 3 .i64 .i64 b d Tryz.underlying3
  cases hac : (a == c) <;> rw [hac] at h4 <;> cases hbd : (b == d) <;> rw [hbd] at h5 <;> simp [Op.eqFields, Sem.run_bind, h0, h1, h2, h3, h4, h5]
theorem place_down {l : List E} {x : E} {k : Nat} (h : Gr.less x (l.getD k (0, 0)) = true) : Hid (Gr.place l x (k + 1) = Gr.place l x k) := by
  unfold Hid
  conv => lhs; unfold Gr.place
  rw [if_pos h]
theorem place_stop {l : List E} {x : E} {k : Nat} (h : Gr.less x (l.getD k (0, 0)) = false) : Gr.place l x (k + 1) = k + 1 := by
  unfold Gr.place
  rw [if_neg (by rw [h]; simp)]
theorem ereads_take {w : World} {B n K : Nat} {A : Option Addr} {l : List E} (h : Reads w B 2 A n (ecells l)) (hl : l.length = n) (hK : K ≤ n) : Reads w B 2 A K (ecells (l.take K)) := by
  refine ⟨by rw [ecells_len]; simp; omega, fun hn => ?_⟩
  obtain ⟨b, o, e, hb, hc⟩ := h.2 (by omega)
  refine ⟨b, o, e, hb, fun j u hu => hc j u ?_⟩
  rw [← ecells_take] at hu
  obtain ⟨hj, _⟩ := List.getElem?_eq_some_iff.1 hu
  rw [List.getElem?_take] at hu
  split at hu
  · exact hu
  · cases hu
theorem ereads_drop {w : World} {B n K b o : Nat} {l : List E} (h : Reads w B 2 (some ⟨b, o, none⟩) n (ecells l)) (hl : l.length = n) (hK : K ≤ n) : Reads w B 2 (some ⟨b, o + K * 2, none⟩) (n - K) (ecells (l.drop K)) := by
  refine ⟨by rw [ecells_len]; simp; omega, fun hn => ?_⟩
  obtain ⟨b', o', e, hb, hc⟩ := h.2 (by omega)
  injection e with e
  injection e with e1 e2
  subst e1
  subst e2
  have hsp : ecells l = ecells (l.take K) ++ ecells (l.drop K) := by rw [← ecells_app, List.take_append_drop]
  have hlen : (ecells (l.take K)).length = K * 2 := by rw [ecells_len]; simp; omega
  refine ⟨b, o + K * 2, rfl, hb, fun j u hu => ?_⟩
  have := hc (K * 2 + j) u (by rw [hsp, List.getElem?_append_right (by omega), hlen]; simpa using hu)
  rwa [← Nat.add_assoc] at this
theorem put_end {w : World} {base n K m : Nat} {v : Value} {l : List E} {x : E} {xs : List Value} (hp : Gr.put l x = l.take K ++ x :: l.drop K) (hl : l.length = n) (h : w.ownsRow base 59 2 v m xs) (hx : xs = ecells (l.take K) ++ .int .i64 (x.1 : Int) :: .int .i64 (x.2 : Int) :: ecells (l.drop K)) (hm : m = n + 1) (hK : K ≤ n) :
    ∃ A c, v = .slice A (Gr.put l x).length c ∧ (Gr.put l x).length ≤ c ∧ EdgesAt w A (Gr.put l x) := by
  have hlen : (Gr.put l x).length = m := by rw [hp]; simp; omega
  have hc : ecells (Gr.put l x) = xs := by rw [hp, ecells_app, hx]; rfl
  rcases h.2 with ⟨rfl, h0⟩ | ⟨g, cap, cur, rfl, _, _, h1, _⟩
  · omega
  · refine ⟨some ⟨g, 0, none⟩, cap, by rw [hlen], by omega, ?_⟩
    unfold EdgesAt
    rw [hlen, hc]
    exact Reads.of_own h
theorem five {a b c d e : Prop} (h : a ∧ b ∧ c ∧ d ∧ e) : e := h.2.2.2.2
set_option maxHeartbeats 16000000 in
theorem put_any (A : Option Addr) (n c : Nat) (l : List E) (x : E) (w : World) (h : Reads w w.heap.size 2 A n (ecells l)) (hn : l.length = n) (hmx : n ≤ 5000) (hcap : n ≤ c) (hA : n = 0 → A = none ∧ c = 0) :
    Calls Tryz.prog 25 #[.slice A n c, ev x, .bool true] w fun e w' => ∃ A' c', e = .returned (.slice A' (Gr.put l x).length c') ∧ (Gr.put l x).length ≤ c' ∧ EdgesAt w' A' (Gr.put l x) ∧ Fr (fun _ => False) w w' := by
  have HB : Hid ((w.alloc (.cells #[.int .i64 (x.1 : Int), .int .i64 (x.2 : Int)] 59)).rangeAt w.heap.size 0 [.int .i64 (x.1 : Int), .int .i64 (x.2 : Int)] ∧ Fr (fun _ => False) w (w.alloc (.cells #[.int .i64 (x.1 : Int), .int .i64 (x.2 : Int)] 59))) :=
    ⟨range_blk (Blk.new w 59 _), (Fr.refl _ _).alloc _⟩
  have H := hide h
  have HN := hide hn
  clear h hn
  have HV : Hid (ev x = .agg #[.int .i64 (x.1 : Int), .int .i64 (x.2 : Int)]) := rfl
  rw [HV.out]
  go_enter Tryz.func25, Tryz.ntmps25
  go_wp2_with fail
  obtain ⟨W1, hW1⟩ : ∃ W1, w.alloc (.cells #[.int .i64 (x.1 : Int), .int .i64 (x.2 : Int)] 59) = W1 := ⟨_, rfl⟩
  rw [hW1] at HB ⊢
  clear hW1
  go_loopw [7] (fun i wr => ∃ k : Nat, k ≤ n ∧ i = .int .i64 k ∧ Hid (Gr.place l x n = Gr.place l x k ∧ Fr (fun _ => False) W1 wr)) (fun i _ => (intOf i).toNat)
  case atStart => exact ⟨n, Nat.le_refl _, rfl, rfl, Fr.refl _ _⟩
  case round =>
    obtain ⟨k, hk, rfl, HI⟩ := hrel
    cases k with
    | zero =>
      have hput : Gr.put l x = l.take 0 ++ x :: l.drop 0 := by
        have hz : Gr.place l x n = 0 := HI.out.1.trans rfl
        unfold Gr.put
        rw [HN.out, hz]
        simp
      have HPT := hide hput
      have hx := range_fr HB.out.1 HI.out.2
      have e0 := hx 0 _ rfl
      have e1 := hx 1 _ rfl
      simp only [Nat.zero_add] at e0 e1
      have HE := hide (H.out.up (HB.out.2.then_ HI.out.2))
      have HF2 := hide (HB.out.2.then_ HI.out.2)
      clear hx hput HI
      go_wp2_with fail
      go_quiet (fail)
      generalize nq = q1
      go_wp2_with fail
      go_quiet (fail)
      generalize nq = q2
      have HW := hide (show Fr (fun _ => False) wr (wr.drewN (q1 + q2)) from ⟨rfl, rfl, rfl, Nat.le_refl _, fun _ _ _ => rfl⟩)
      have hrt : Reads (wr.drewN (q1 + q2)) (wr.drewN (q1 + q2)).heap.size 2 A 0 (ecells []) := ⟨rfl, fun h => absurd h (by omega)⟩
      have hown0 := World.ownsRow_nil (wr.drewN (q1 + q2)) wr.heap.size 59 2
      obtain ⟨i0, hi, hz0, hz1, hz2⟩ := info_parts edge_info
      go_wp2_with (at_builtin; refine wpList_append_reads rfl (.const (.slice none 0 0)) (.tmp 41) _ rfl wr.heap.size 59 i0 _ 2 16 Tryz.underlying32 hi hz0 hz1 hz2 rfl (by decide) _ _ _ rfl hown0 _ _ 0 c (ecells []) rfl hrt ecells_one ?z2 ?z3 ?z4 ?z5)
      case z2 => unfold maxLen; omega
      case z3 => omega
      case z4 => exact Nat.le_refl _
      case z5 =>
        intro v5 w5 hown5 hg5 _
        have F5 := hide (HW.out.trans (Fr.of_grown hg5) (fun k hk => by simp [Value.ownBlock] at hk))
        obtain ⟨A5, c5, rfl⟩ := Reads.own_val hown5
        have x0 := F5.out.cell e0 (fun h => h)
        have x1 := F5.out.cell e1 (fun h => h)
        have hb5 := F5.out.size
        clear hg5 hown0 hrt
        go_wp2_with (at_builtin; refine wpList_append_box w5 _ _ rfl (.tmp 43) (.tmp 45) _ rfl wr.heap.size 59 i0 _ 2 16 Tryz.underlying32 hi hz0 hz1 hz2 rfl (by decide) _ _ _ rfl hown5 rfl rfl ?y1 ?y2 ?y3 ?y4 ?y5)
        case y1 => simp [Value.oneCell']
        case y2 => unfold maxLen; omega
        case y3 => omega
        case y4 => exact hb5
        case y5 =>
          intro v6 w6 hown6 hg6 _
          have F6 := hide (F5.out.grown hg6 (fun k hk => .inr ((hown5.lt k hk).1)))
          have hb6 := F6.out.size
          have hrd := HE.out.up F6.out
          obtain ⟨A6, c6, rfl⟩ := Reads.own_val hown6
          clear hg6 hown5 x0 x1
          rcases Nat.eq_zero_or_pos n with hn0 | hn0
          · obtain ⟨rfl, rfl⟩ := hA hn0
            subst hn0
            go_wp2_with (at_builtin; refine wpList_append_reads rfl (.tmp 47) (.tmp 50) _ rfl wr.heap.size 59 i0 _ 2 16 Tryz.underlying32 hi hz0 hz1 hz2 rfl (by decide) _ _ _ rfl hown6 _ _ 0 _ (ecells l) rfl hrd ecells_one ?x1 ?x2 ?x3 ?x4)
            case x1 => unfold maxLen; omega
            case x4 =>
              intro v7 w7 hown7 hg7 _
              have F7 := hide (F6.out.grown hg7 (fun k hk => .inr ((hown6.lt k hk).1)))
              have hfin := hide (put_end HPT.out HN.out hown7 (by simp) (by omega) (by omega))
              obtain ⟨A7, c7, rfl, hcc, hrr⟩ := hfin.out
              have HRR := hide hrr
              have HFF := hide (HF2.out.then_ F7.out)
              clear hown7 hg7 hown6 hfin hrr
              go_wp2
              go_ret
              exact ⟨_, _, rfl, hcc, HRR.out, HFF.out⟩
          · obtain ⟨b, o, rfl, _, _⟩ := HE.out.2 hn0
            have hc0 : ¬ (c = 0) := by omega
            go_wp2_with (at_builtin; refine wpList_append_reads rfl (.tmp 47) (.tmp 50) _ rfl wr.heap.size 59 i0 _ 2 16 Tryz.underlying32 hi hz0 hz1 hz2 rfl (by decide) _ _ _ rfl hown6 _ _ n _ (ecells l) rfl hrd ecells_one ?u1 ?u2 ?u3 ?u4)
            case u1 => unfold maxLen; omega
            case u2 => omega
            case u3 => exact hb6
            case u4 =>
              intro v7 w7 hown7 hg7 _
              have F7 := hide (F6.out.grown hg7 (fun k hk => .inr ((hown6.lt k hk).1)))
              have hfin := hide (put_end HPT.out HN.out hown7 (by simp) (by omega) (by omega))
              obtain ⟨A7, c7, rfl, hcc, hrr⟩ := hfin.out
              have HRR := hide hrr
              have HFF := hide (HF2.out.then_ F7.out)
              clear hown7 hg7 hown6 hfin hrr
              go_wp2
              go_ret
              exact ⟨_, _, rfl, hcc, HRR.out, HFF.out⟩
    | succ k =>
      have hx := range_fr HB.out.1 HI.out.2
      obtain ⟨b, o, rfl, hb, hr⟩ := EdgesAt.cells (k := k) (by have := H.out.up (HB.out.2.then_ HI.out.2); rw [← HN.out] at this; exact this) (by rw [HN.out]; omega)
      have lk : k < l.length := by rw [HN.out]; omega
      have hgy : l.getD k (0, 0) = l[k]'lk := by rw [List.getD_eq_getElem?_getD, List.getElem?_eq_getElem lk]; rfl
      generalize l[k]'lk = y at *
      have x0 := hx 0 _ rfl
      have x1 := hx 1 _ rfl
      have y0 := hr 0 _ rfl
      have y1 := hr 1 _ rfl
      rw [Nat.mul_comm 2 k, Nat.add_zero] at y0
      rw [Nat.mul_comm 2 k] at y1
      simp only [Nat.zero_add] at x0 x1
      have HS := hide (fun W (hf : Fr (fun _ => False) wr W) => show W.cell? ⟨w.heap.size, 0, none⟩ = some (.int .i64 (x.1 : Int)) ∧ W.cell? ⟨w.heap.size, 1, none⟩ = some (.int .i64 (x.2 : Int)) ∧ W.cell? ⟨b, o + k * 2, none⟩ = some (.int .i64 (y.1 : Int)) ∧ W.cell? ⟨b, o + k * 2 + 1, none⟩ = some (.int .i64 (y.2 : Int)) ∧ Fr (fun _ => False) wr W from
        ⟨hf.cell x0 (fun h => h), hf.cell x1 (fun h => h), hf.cell y0 (fun h => h), hf.cell y1 (fun h => h), hf⟩)
      have D := hide ((Fr.refl (fun _ => False) wr).drew)
      have hw : IntKind.i64.wrap ((k : Int) + 1 - 1) = (k : Int) := by simp [IntKind.wrap, IntKind.bits, IntKind.signed]; omega
      have hw2 : IntKind.i64.wrap (k : Int) = (k : Int) := by simp [IntKind.wrap, IntKind.bits, IntKind.signed]; omega
      have b0 : (0 : Int) ≤ (k : Int) := by omega
      have b1 : (k : Int) < (n : Int) := by omega
      clear hx hr
      go_wp2_with fail
      go_region_held3 (fun W => W.cell? ⟨w.heap.size, 0, none⟩ = some (.int .i64 (x.1 : Int)) ∧ W.cell? ⟨w.heap.size, 1, none⟩ = some (.int .i64 (x.2 : Int)) ∧ W.cell? ⟨b, o + k * 2, none⟩ = some (.int .i64 (y.1 : Int)) ∧ W.cell? ⟨b, o + k * 2 + 1, none⟩ = some (.int .i64 (y.2 : Int)) ∧ Fr (fun _ => False) wr W)
        (first | exact HS.out _ D.out | exact HS.out _ (Fr.then_ (five (by assumption)) hf))
        (first
          | (go_at_call 39; refine (less8_any x y _).mono ?_; rintro e w3 ⟨rfl, hf⟩))
      obtain ⟨e0, e1, f0, f1, hfw⟩ : w3.cell? ⟨w.heap.size, 0, none⟩ = some (.int .i64 (x.1 : Int)) ∧ w3.cell? ⟨w.heap.size, 1, none⟩ = some (.int .i64 (x.2 : Int)) ∧ w3.cell? ⟨b, o + k * 2, none⟩ = some (.int .i64 (y.1 : Int)) ∧ w3.cell? ⟨b, o + k * 2 + 1, none⟩ = some (.int .i64 (y.2 : Int)) ∧ Fr (fun _ => False) wr w3 := by assumption
      clear hf x0 x1 y0 y1 HS D
      have HF := hide (HI.out.2.then_ hfw)
      cases hlt : Gr.less x y
      · have HP : Hid (Gr.place l x n = k + 1) := by
          rw [HI.out.1]
          exact place_stop (by rw [hgy]; exact hlt)
        have HS := hide (fun W (hf : Fr (fun _ => False) w3 W) => show W.cell? ⟨w.heap.size, 0, none⟩ = some (.int .i64 (x.1 : Int)) ∧ W.cell? ⟨w.heap.size, 1, none⟩ = some (.int .i64 (x.2 : Int)) ∧ W.cell? ⟨b, o + k * 2, none⟩ = some (.int .i64 (y.1 : Int)) ∧ W.cell? ⟨b, o + k * 2 + 1, none⟩ = some (.int .i64 (y.2 : Int)) ∧ Fr (fun _ => False) w3 W from
          ⟨hf.cell e0 (fun h => h), hf.cell e1 (fun h => h), hf.cell f0 (fun h => h), hf.cell f1 (fun h => h), hf⟩)
        have D := hide ((Fr.refl (fun _ => False) w3).drew)
        by_cases hyx : y = x
        · have heq : ∀ W : World, (binOp .eql 59 (.agg #[.int .i64 (y.1 : Int), .int .i64 (y.2 : Int)]) (.agg #[.int .i64 (x.1 : Int), .int .i64 (x.2 : Int)])).run Tryz.prog W = .ok (.bool true) W := fun W => by
            rw [eq_edge, hyx]; simp
          go_wp2_with fail
          go_region_held3 (fun W => W.cell? ⟨w.heap.size, 0, none⟩ = some (.int .i64 (x.1 : Int)) ∧ W.cell? ⟨w.heap.size, 1, none⟩ = some (.int .i64 (x.2 : Int)) ∧ W.cell? ⟨b, o + k * 2, none⟩ = some (.int .i64 (y.1 : Int)) ∧ W.cell? ⟨b, o + k * 2 + 1, none⟩ = some (.int .i64 (y.2 : Int)) ∧ Fr (fun _ => False) w3 W)
            (first | exact HS.out _ D.out)
            (first
              | (go_at_call 39; fail))
          have hput : Gr.put l x = l := by
            unfold Gr.put
            rw [HN.out, HP.out]
            simp only
            rw [if_pos ⟨by omega, by rw [Nat.add_sub_cancel, hgy]; exact hyx⟩]
          have HE := hide (H.out.up (HB.out.2.then_ (HF.out.then_ D.out)))
          have HF2 := hide (HB.out.2.then_ (HF.out.then_ D.out))
          have HPT := hide hput
          clear hput
          go_wp2
          go_ret
          exact ⟨some ⟨b, o, none⟩, c, by rw [HPT.out, HN.out]; rfl, by rw [HPT.out, HN.out]; exact hcap, by rw [HPT.out]; unfold EdgesAt; rw [HN.out]; exact HE.out, HF2.out⟩
        · have heq : ∀ W : World, (binOp .eql 59 (.agg #[.int .i64 (y.1 : Int), .int .i64 (y.2 : Int)]) (.agg #[.int .i64 (x.1 : Int), .int .i64 (x.2 : Int)])).run Tryz.prog W = .ok (.bool false) W := fun W => by
            rw [eq_edge]
            have : ((y.1 : Int) == (x.1 : Int) && (y.2 : Int) == (x.2 : Int)) = false := by
              rw [Bool.eq_false_iff]
              intro h
              simp only [Bool.and_eq_true, beq_iff_eq] at h
              exact hyx (Prod.ext (by omega) (by omega))
            rw [this]
          go_wp2_with fail
          go_region_held3 (fun W => W.cell? ⟨w.heap.size, 0, none⟩ = some (.int .i64 (x.1 : Int)) ∧ W.cell? ⟨w.heap.size, 1, none⟩ = some (.int .i64 (x.2 : Int)) ∧ W.cell? ⟨b, o + k * 2, none⟩ = some (.int .i64 (y.1 : Int)) ∧ W.cell? ⟨b, o + k * 2 + 1, none⟩ = some (.int .i64 (y.2 : Int)) ∧ Fr (fun _ => False) w3 W)
            (first | exact HS.out _ D.out)
            (first
              | (go_at_call 39; fail))
          have hput : Gr.put l x = l.take (k + 1) ++ x :: l.drop (k + 1) := by
            unfold Gr.put
            rw [HN.out, HP.out]
            simp only
            rw [if_neg (by rintro ⟨_, h⟩; rw [Nat.add_sub_cancel, hgy] at h; exact hyx h)]
          have HE := hide (H.out.up (HB.out.2.then_ (HF.out.then_ D.out)))
          have HF2 := hide (HB.out.2.then_ (HF.out.then_ D.out))
          have HPT := hide hput
          have D2 := hide (show w3.drew.cell? ⟨w.heap.size, 0, none⟩ = some (.int .i64 (x.1 : Int)) ∧ w3.drew.cell? ⟨w.heap.size, 1, none⟩ = some (.int .i64 (x.2 : Int)) from ⟨e0, e1⟩)
          generalize w3.drew = W at *
          clear hput heq f0 f1 e0 e1 D HS hyx hgy hw hw2 hlt HP HI HF
          have b2 : (k : Int) + 1 ≤ (n : Int) := by omega
          have HRT := hide (ereads_take HE.out HN.out (show k + 1 ≤ n by omega))
          have hown0 := World.ownsRow_nil W W.heap.size 59 2
          obtain ⟨i0, hi, hz0, hz1, hz2⟩ := info_parts edge_info
          have hrt := HRT.out
          go_wp2_with (at_builtin; refine wpList_append_reads rfl (.const (.slice none 0 0)) (.tmp 41) _ rfl W.heap.size 59 i0 _ 2 16 Tryz.underlying32 hi hz0 hz1 hz2 rfl (by decide) _ _ _ rfl hown0 _ _ (k + 1) c (ecells (l.take (k + 1))) rfl hrt ecells_one ?c2 ?c3 ?c4 ?c5)
          case c2 => unfold maxLen; omega
          case c3 => omega
          case c4 => exact Nat.le_refl _
          case c5 =>
            intro v5 w5 hown5 hg5 _
            have F5 := hide ((Fr.refl (fun _ => False) W).grown hg5 (fun k hk => by simp [Value.ownBlock] at hk))
            obtain ⟨A5, c5, rfl⟩ := Reads.own_val hown5
            have x0 := F5.out.cell D2.out.1 (fun h => h)
            have x1 := F5.out.cell D2.out.2 (fun h => h)
            have hb5 := F5.out.size
            clear hg5 hown0 hrt HRT D2
            go_wp2_with (at_builtin; refine wpList_append_box w5 _ _ rfl (.tmp 43) (.tmp 45) _ rfl W.heap.size 59 i0 _ 2 16 Tryz.underlying32 hi hz0 hz1 hz2 rfl (by decide) _ _ _ rfl hown5 rfl rfl ?c1 ?c2 ?c3 ?c4 ?c5)
            case c1 => simp [Value.oneCell']
            case c2 => unfold maxLen; omega
            case c3 => omega
            case c4 => exact hb5
            case c5 =>
              intro v6 w6 hown6 hg6 _
              have F6 := hide (F5.out.grown hg6 (fun k hk => .inr ((hown5.lt k hk).1)))
              have hb6 := F6.out.size
              have hrd := ereads_drop (HE.out.up F6.out) HN.out (show k + 1 ≤ n by omega)
              obtain ⟨A6, c6, rfl⟩ := Reads.own_val hown6
              clear hg6 hown5 x0 x1
              by_cases hck : c = k + 1
              · have hnk : n = k + 1 := by omega
                have hrd0 : Reads w6 w6.heap.size 2 (some ⟨b, o, none⟩) 0 (ecells (l.drop (k + 1))) := by
                  rw [List.drop_of_length_le (by rw [HN.out]; omega)]
                  exact ⟨rfl, fun h => absurd h (by omega)⟩
                have hz : n - (k + 1) = 0 := by omega
                subst hck
                clear hrd
                go_wp2_with (at_builtin; refine wpList_append_reads rfl (.tmp 47) (.tmp 50) _ rfl W.heap.size 59 i0 _ 2 16 Tryz.underlying32 hi hz0 hz1 hz2 rfl (by decide) _ _ _ rfl hown6 _ _ 0 _ (ecells (l.drop (k + 1))) rfl hrd0 ecells_one ?c2 ?c3 ?c4 ?c5)
                case c2 => unfold maxLen; omega
                case c3 => omega
                case c4 => exact hb6
                case c5 =>
                  intro v7 w7 hown7 hg7 _
                  have F7 := hide (F6.out.grown hg7 (fun k hk => .inr ((hown6.lt k hk).1)))
                  have hfin := hide (put_end HPT.out HN.out hown7 (by simp) (by omega) (by omega))
                  obtain ⟨A7, c7, rfl, hcc, hrr⟩ := hfin.out
                  have HRR := hide hrr
                  have HFF := hide (HF2.out.then_ F7.out)
                  clear hown7 hg7 hown6 hfin hrr
                  go_wp2
                  go_ret
                  exact ⟨_, _, rfl, hcc, HRR.out, HFF.out⟩
              · have hck2 : ¬ (c - (k + 1) = 0) := by omega
                go_wp2_with (at_builtin; refine wpList_append_reads rfl (.tmp 47) (.tmp 50) _ rfl W.heap.size 59 i0 _ 2 16 Tryz.underlying32 hi hz0 hz1 hz2 rfl (by decide) _ _ _ rfl hown6 _ _ (n - (k + 1)) _ (ecells (l.drop (k + 1))) rfl hrd ecells_one ?c2 ?c3 ?c4 ?c5)
                case c2 => unfold maxLen; omega
                case c3 => omega
                case c4 => exact hb6
                case c5 =>
                  intro v7 w7 hown7 hg7 _
                  have F7 := hide (F6.out.grown hg7 (fun k hk => .inr ((hown6.lt k hk).1)))
                  have hfin := hide (put_end HPT.out HN.out hown7 (by simp) (by omega) (by omega))
                  obtain ⟨A7, c7, rfl, hcc, hrr⟩ := hfin.out
                  have HRR := hide hrr
                  have HFF := hide (HF2.out.then_ F7.out)
                  clear hown7 hg7 hown6 hfin hrr
                  go_wp2
                  go_ret
                  exact ⟨_, _, rfl, hcc, HRR.out, HFF.out⟩
      · have HP : Hid (Gr.place l x n = Gr.place l x k) := by
          rw [HI.out.1]
          exact place_down (by rw [hgy]; exact hlt)
        go_wp2
        go_roundw
        case rel => exact ⟨k, by omega, by go_num, HP.out, HF.out⟩
        case measure => simp [intOf]
end Go.Proofs.YtjdbjahgimlhbaaGreat
end
