/- Parts of the proof of KernelsTruth: no conditions of their own. -/
import Derived.Test.YtjdbjahgimlhbaaGreatKernelsTruthPk2
import Derived.Test.YtjdbjahgimlhbaaGreatKernelsTruthPk1
section
set_option linter.unusedVariables false
set_option maxRecDepth 100000
namespace Go.Proofs.YtjdbjahgimlhbaaGreat
open Go.RowKit
open Gr (E)

def nrm (l : List E) (k : Nat) : List E := Gr.normal (l.take k)
theorem nrm_next {l : List E} {k : Nat} (h : k < l.length) : nrm l (k + 1) = Gr.put (nrm l k) l[k] := by
  unfold nrm Gr.normal
  rw [List.take_succ_eq_append_getElem h, List.foldl_append]
  rfl
theorem nrm_len (l : List E) (k : Nat) : (nrm l k).length ≤ k := by
  have := Gr.normal_len (l.take k)
  unfold nrm
  simp at this ⊢
  omega
theorem put_pos (l : List E) (x : E) : 0 < (Gr.put l x).length := by
  have : x ∈ Gr.put l x := (Gr.put_mem l x x).2 (.inl rfl)
  exact List.length_pos_of_mem this
theorem normal_any (A : Option Addr) (N m c : Nat) (l : List E) (w : World) (h : EdgesAt w A l) (hm : l.length = m) (hmx : m ≤ 4000) (h1 : 1 ≤ N) (h2 : N ≤ 256) (hok : ∀ e ∈ l, e.1 < N ∧ e.2 < N ∧ e.1 ≠ e.2) :
    Calls Tryz.prog 14 #[.int .i64 (N : Int), .slice A m c] w fun e w' => ∃ A' c', e = .returned (.tuple #[.slice A' (Gr.normal l).length c', .int .i64 0]) ∧ (Gr.normal l).length ≤ c' ∧ EdgesAt w' A' (Gr.normal l) ∧ Fr (fun _ => False) w w' := by
  have H := hide h
  have HM := hide hm
  have HOK := hide hok
  clear h hm hok
  go_enter Tryz.func14, Tryz.ntmps14
  go_wp2_with fail
  go_loopw [6, 7] (fun o i wr => ∃ (k : Nat) (A' : Option Addr) (q c' : Nat), k ≤ m ∧ i = .int .i64 k ∧ o = .slice A' q c' ∧ q ≤ c' ∧ q ≤ k ∧ Hid ((nrm l k).length = q ∧ EdgesAt wr A' (nrm l k) ∧ Fr (fun _ => False) w wr ∧ (q = 0 → A' = none ∧ c' = 0))) (fun _ i _ => m - (intOf i).toNat)
  case atStart => exact ⟨0, none, 0, 0, by omega, rfl, rfl, by omega, by omega, by simp [nrm, Gr.normal], ⟨by simp [nrm, Gr.normal, ecells], fun h => absurd h (by simp [nrm, Gr.normal])⟩, Fr.refl _ _, fun _ => ⟨rfl, rfl⟩⟩
  case round =>
    obtain ⟨k, A', q, c', hk, rfl, rfl, hqc, hqk, HI⟩ := hrel
    by_cases hlt : k < m
    · have lk : k < l.length := by rw [HM.out]; exact hlt
      obtain ⟨b, o, rfl, hb, hr⟩ := EdgesAt.cells (k := k) (show EdgesAt wr A l from H.out.up HI.out.2.2.1) lk
      have HNX := hide (nrm_next lk)
      obtain ⟨o1, o2, o3⟩ := HOK.out _ (List.getElem_mem lk)
      have y0 := hr 0 _ rfl
      have y1 := hr 1 _ rfl
      rw [Nat.mul_comm 2 k, Nat.add_zero] at y0
      rw [Nat.mul_comm 2 k] at y1
      clear hr
      generalize l[k]'lk = y at *
      obtain ⟨y1', y2'⟩ := y
      simp only at o1 o2 o3 y0 y1
      have hne : ((y1' : Int) == (y2' : Int)) = false := by simp; omega
      go_wp2_with fail
      go_at_call 25
      have FA := hide ((Fr.refl (fun _ => False) wr).alloc (.cells #[.int .i64 (y1' : Int), .int .i64 (y2' : Int)] 59))
      have HIE := hide (HI.out.2.1.up FA.out)
      refine (put_any A' q c' (nrm l k) (y1', y2') _ (by have := HIE.out; rw [HI.out.1] at this; exact this) HI.out.1 (by omega) hqc HI.out.2.2.2).mono ?_
      rintro e w2 ⟨A2, c2, rfl, hc2, hr2, hf2⟩
      rw [← HNX.out] at hc2 hr2 ⊢
      have HQ := hide (show (nrm l (k + 1)).length = (nrm l (k + 1)).length ∧ EdgesAt w2 A2 (nrm l (k + 1)) ∧ Fr (fun _ => False) w w2 ∧ ((nrm l (k + 1)).length = 0 → A2 = none ∧ c2 = 0) from
        ⟨rfl, hr2, HI.out.2.2.1.then_ (FA.out.then_ hf2), fun h => by rw [HNX.out] at h; have := put_pos (nrm l k) (y1', y2'); omega⟩)
      have hk1 := nrm_len l (k + 1)
      obtain ⟨q2, hq2⟩ : ∃ q2, (nrm l (k + 1)).length = q2 := ⟨_, rfl⟩
      rw [hq2] at hc2 hk1 ⊢
      clear hr2 hf2
      go_wp2
      go_roundw
      case rel => exact ⟨k + 1, A2, q2, c2, by omega, by go_num, rfl, hc2, hk1, hq2, HQ.out.2.1, HQ.out.2.2.1, fun h => HQ.out.2.2.2 (by rw [hq2]; exact h)⟩
      case measure => simp [intOf]; omega
    · obtain rfl : k = m := by omega
      have hall : nrm l k = Gr.normal l := by unfold nrm; rw [List.take_of_length_le (by rw [HM.out]; omega)]
      have HALL := hide hall
      clear hall
      go_wp2
      go_ret2
      exact ⟨A', c', by rw [← HALL.out, HI.out.1]; rfl, by rw [← HALL.out, HI.out.1]; exact hqc, by rw [← HALL.out]; exact HI.out.2.1, HI.out.2.2.1⟩
end Go.Proofs.YtjdbjahgimlhbaaGreat
end
section
set_option linter.unusedVariables false
set_option maxRecDepth 100000
namespace Go.Proofs.YtjdbjahgimlhbaaGreat
open Go.RowKit
open Gr (E)

def gcells (l : List E) : List Value := l.flatMap fun e => [.int .u8 (e.1 : Int), .int .u8 (e.2 : Int)]
theorem gcells_at : ∀ (l : List E) (k : Nat) (e : E), l[k]? = some e → (gcells l)[2 * k]? = some (.int .u8 (e.1 : Int)) ∧ (gcells l)[2 * k + 1]? = some (.int .u8 (e.2 : Int))
  | [], k, e, h => by simp at h
  | x :: l, 0, e, h => by
    obtain rfl : x = e := by simpa using h
    simp [gcells]
  | x :: l, k + 1, e, h => by
    have := gcells_at l k e (by simpa using h)
    simp only [gcells, List.flatMap_cons] at this ⊢
    rw [show 2 * (k + 1) = 2 * k + 1 + 1 by omega, show 2 * k + 1 + 1 + 1 = (2 * k + 1) + 1 + 1 by omega]
    simpa using this
/-- the ends, counted round; those that are unlike -/
def ends2 (n : Nat) (e : E) : E := (e.1 % n, e.2 % n)
def filt (n : Nat) (l : List E) : List E := (l.map (ends2 n)).filter fun e => e.1 != e.2
def madeN (G : Nat) : Nat := 1 + G % 60
def madeE (G : Nat) (l : List E) : List E := Gr.normal (filt (madeN G) l)
theorem filt_ok {n : Nat} (h : 1 ≤ n) (l : List E) : ∀ e ∈ filt n l, e.1 < n ∧ e.2 < n ∧ e.1 ≠ e.2 := by
  intro e he
  obtain ⟨h1, h2⟩ := List.mem_filter.1 he
  obtain ⟨x, _, rfl⟩ := List.mem_map.1 h1
  exact ⟨Nat.mod_lt _ h, Nat.mod_lt _ h, by simpa using h2⟩
theorem filt_snoc (n : Nat) (l : List E) (x : E) : filt n (l ++ [x]) = filt n l ++ (if x.1 % n = x.2 % n then [] else [ends2 n x]) := by
  unfold filt
  rw [List.map_append, List.filter_append]
  congr 1
  by_cases h : x.1 % n = x.2 % n
  · simp [ends2, h]
  · simp [ends2, h]
theorem filt_len (n : Nat) (l : List E) : (filt n l).length ≤ l.length := by
  unfold filt
  have := List.length_filter_le (fun e : E => e.1 != e.2) (l.map (ends2 n))
  simpa using this
theorem madeE_ok (G : Nat) (l : List E) : Gr.Sorted (madeE G l) ∧ (∀ e ∈ madeE G l, e.1 < madeN G ∧ e.2 < madeN G ∧ e.1 ≠ e.2) ∧ (madeE G l).length ≤ l.length :=
  ⟨Gr.normal_sorted _, fun e he => filt_ok (by unfold madeN; omega) l e ((Gr.normal_mem _ e).1 he), Nat.le_trans (Gr.normal_len _) (filt_len _ _)⟩
set_option maxHeartbeats 4000000 in
theorem made_any (A : Option Addr) (m c G : Nat) (l : List E) (w : World) (h : Reads w w.heap.size 2 A m (gcells l)) (hm : l.length = m) (hmx : m ≤ 300) (hG : G < 256) (hl : ∀ e ∈ l, e.1 < 256 ∧ e.2 < 256) :
    Calls Tryz.prog 6 #[.agg #[.int .u8 (G : Int), .slice A m c]] w fun e w' => ∃ A' c', e = .returned (.tuple #[.int .i64 ((madeN G : Nat) : Int), .slice A' (madeE G l).length c']) ∧ (madeE G l).length ≤ c' ∧ EdgesAt w' A' (madeE G l) ∧ Fr (fun _ => False) w w' := by
  have H := hide h
  have HM := hide hm
  have HL := hide hl
  clear h hm hl
  have hn1 : 1 ≤ madeN G := by unfold madeN; omega
  have hn2 : madeN G ≤ 60 := by unfold madeN; omega
  have hg : (1 : Int) + (G : Int) % 60 = ((madeN G : Nat) : Int) := by unfold madeN; omega
  generalize hNN : madeN G = N at *
  obtain ⟨i0, hi, hz0, hz1, hz2⟩ := info_parts edge_info
  have B0 := hide (show Blk (w.alloc (.cells #[.int .u8 (G : Int), .slice A m c] 24)) w.heap.size 24 #[.int .u8 (G : Int), .slice A m c] from Blk.new _ _ _)
  have F0 := hide ((Fr.refl (fun _ => False) w).alloc (.cells #[.int .u8 (G : Int), .slice A m c] 24))
  have S0 : (w.alloc (.cells #[.int .u8 (G : Int), .slice A m c] 24)).heap.size = w.heap.size + 1 := by simp
  go_enter Tryz.func6, Tryz.ntmps6
  go_wp2_with fail
  generalize w.alloc (.cells #[.int .u8 (G : Int), .slice A m c] 24) = W1 at *
  go_loopw [5, 6] (fun o i wr => ∃ (k : Nat) (A' : Option Addr) (q c' : Nat), k ≤ m ∧ i = .int .i64 k ∧ o = .slice A' q c' ∧ q ≤ k ∧ Hid (wr.ownsRow W1.heap.size 59 2 (.slice A' q c') q (ecells (filt N (l.take k))) ∧ Fr (fun _ => False) W1 wr)) (fun _ i _ => m - (intOf i).toNat)
  case atStart => exact ⟨0, none, 0, 0, by omega, rfl, rfl, by omega, World.ownsRow_nil _ _ _ _, Fr.refl _ _⟩
  case round =>
    obtain ⟨k, A', q, c', hk, rfl, rfl, hqk, HI⟩ := hrel
    have g0 : wr.cell? ⟨w.heap.size, 0, none⟩ = some (.int .u8 (G : Int)) := HI.out.2.cell ((B0.out.cell 0).trans rfl) (fun h => h)
    have g1 : wr.cell? ⟨w.heap.size, 1, none⟩ = some (.slice A m c) := HI.out.2.cell ((B0.out.cell 1).trans rfl) (fun h => h)
    by_cases hlt : k < m
    · have lk : k < l.length := by rw [HM.out]; exact hlt
      obtain ⟨b, o, rfl, hb, hr⟩ := (H.out.up (F0.out.then_ HI.out.2)).2 (by omega)
      obtain ⟨h1, h2⟩ := gcells_at l k _ (List.getElem?_eq_getElem lk)
      have y0 := hr _ _ h1
      have y1 := hr _ _ h2
      rw [Nat.mul_comm 2 k] at y0 y1
      rw [← Nat.add_assoc] at y1
      have HS := hide (show l.take (k + 1) = l.take k ++ [l[k]] from List.take_succ_eq_append_getElem lk)
      obtain ⟨l1, l2⟩ := HL.out _ (List.getElem_mem lk)
      clear hr h1 h2
      generalize l[k]'lk = y at *
      obtain ⟨u, hu, hu2⟩ : ∃ u : Nat, (y.1 : Int) % (N : Int) = (u : Int) ∧ y.1 % N = u := ⟨y.1 % N, by simp, rfl⟩
      obtain ⟨v, hv, hv2⟩ : ∃ v : Nat, (y.2 : Int) % (N : Int) = (v : Int) ∧ y.2 % N = v := ⟨y.2 % N, by simp, rfl⟩
      have hu3 : u < N := by rw [← hu2]; exact Nat.mod_lt _ (by omega)
      have hv3 : v < N := by rw [← hv2]; exact Nat.mod_lt _ (by omega)
      by_cases heq : u = v
      · have hbe : ((u : Int) != (v : Int)) = false := by simp; omega
        have HQ := hide (show filt N (l.take (k + 1)) = filt N (l.take k) by rw [HS.out, filt_snoc, if_pos (by rw [hu2, hv2]; exact heq), List.append_nil])
        go_wp2_with fail
        go_quiet (fail)
        go_wp2
        go_roundw
        case rel => exact ⟨k + 1, A', q, c', by omega, by go_num, rfl, by omega, by rw [HQ.out]; exact HI.out.1, HI.out.2.drewN _⟩
        case measure => simp [intOf]; omega
      · have hbe : ((u : Int) != (v : Int)) = true := by simp; omega
        have HQ := hide (show ecells (filt N (l.take (k + 1))) = ecells (filt N (l.take k)) ++ [.int .i64 (u : Int), .int .i64 (v : Int)] by
          rw [HS.out, filt_snoc, if_neg (by rw [hu2, hv2]; exact heq), ecells_app]
          simp [ecells, ends2, hu2, hv2])
        go_wp2_with fail
        go_quiet (fail)
        have hown1 : (wr.drewN nq).ownsRow W1.heap.size 59 2 (.slice A' q c') q (ecells (filt N (l.take k))) := HI.out.1
        have hb1 := HI.out.2.size
        have HF := hide (HI.out.2.drewN nq)
        clear HI
        go_wp2_with (at_builtin; refine wpList_append_box (wr.drewN nq) _ _ rfl (.tmp 44) (.tmp 48) _ rfl W1.heap.size 59 i0 _ 2 16 Tryz.underlying32 hi hz0 hz1 hz2 rfl (by decide) _ _ _ rfl hown1 rfl rfl ?c1 ?c2 ?c3 ?c4 ?c5)
        case c1 => simp [Value.oneCell']
        case c2 => unfold maxLen; omega
        case c3 => omega
        case c4 => exact hb1
        case c5 =>
          intro v2 w2 hown2 hg2 _
          have HF2 := hide (HF.out.grown hg2 (fun k hk => .inr ((hown1.lt k hk).1)))
          obtain ⟨A2, c2, rfl⟩ := Reads.own_val hown2
          have HO := hide (show w2.ownsRow W1.heap.size 59 2 (.slice A2 (q + 1) c2) (q + 1) (ecells (filt N (l.take (k + 1)))) by rw [HQ.out]; have h := hown2; rw [← S0] at h; exact h)
          clear hown1 hown2 hg2
          go_wp2
          go_roundw
          case rel => exact ⟨k + 1, A2, q + 1, c2, by omega, by go_num, rfl, by omega, HO.out, HF2.out⟩
          case measure => simp [intOf]; omega
    · obtain rfl : k = m := by omega
      have hall : l.take k = l := List.take_of_length_le (by rw [HM.out]; omega)
      rw [hall] at HI
      have HR := hide (Reads.of_own HI.out.1)
      have hq : (filt N l).length = q := by have := HR.out.1; rw [ecells_len] at this; omega
      have HF := hide HI.out.2
      have HE := hide (show EdgesAt wr A' (filt N l) by unfold EdgesAt; rw [hq]; exact HR.out)
      clear HI HR hall
      go_wp2_with fail
      go_at_call 14
      refine (normal_any A' N q c' (filt N l) _ HE.out hq (by omega) hn1 (by omega) (filt_ok hn1 l)).mono ?_
      rintro e w2 ⟨A2, c2, rfl, hc2, hr2, hf2⟩
      have hE : Gr.normal (filt N l) = madeE G l := by unfold madeE; rw [hNN]
      rw [hE] at hc2 hr2 ⊢
      have HR := hide hr2
      have HC := hide hc2
      have HF2 := hide (F0.out.then_ (HF.out.then_ hf2))
      clear hr2 hf2 hc2 hE
      go_wp2
      go_ret2
      exact ⟨A2, c2, rfl, HC.out, HR.out, HF2.out⟩
end Go.Proofs.YtjdbjahgimlhbaaGreat
end
section
set_option linter.unusedVariables false
set_option maxRecDepth 100000
namespace Go.Proofs.YtjdbjahgimlhbaaGreat.frame
open Go.ChangeShapes Go.WideShapes Go.ChangeAt Go.RowKit Go.Deep
open Go.ChangeMaps (open_string shut_string)
open Gr (E)

section
variable {H : Type} {enc : TypeId × Value → H} {W W' : World} {base : Nat} {t : TypeId} {v : Value} {d : DataW H} {ps : List MemPlace}
theorem u8_nat {z : Int} (h : (Lit.int .u8 z).wf = true) : ∃ n : Nat, z = n ∧ n < 256 := by
  simp [Lit.wf, IntKind.min, IntKind.max, IntKind.signed, IntKind.bits] at h
  exact ⟨z.toNat, by omega, by omega⟩
theorem open_u8 (hv : Value.okWide Tryz.prog W .any base 5 v) (h : DataW.Trod enc Tryz.prog W 0 (fun _ => true) true 5 v d ps) : ∃ n : Nat, v = .int .u8 (n : Int) ∧ n < 256 := by
  obtain ⟨a, rfl, rfl, rfl, hw⟩ := open_int Tryz.underlying5 hv h
  obtain ⟨n, rfl, hn⟩ := u8_nat hw
  exact ⟨n, rfl, hn⟩
theorem pair8_cells {fuel : Nat} {cs : List Value} {x : DataW H × List MemPlace} (h : DataW.trod enc Tryz.prog W 0 (fun _ => true) true fuel 58 cs = some x) (hl : cs.length = 2) :
    ∃ e : E, cs = [.int .u8 (e.1 : Int), .int .u8 (e.2 : Int)] ∧ e.1 < 256 ∧ e.2 < 256 := by
  obtain ⟨xs, m, _, _, hcl, hxl, hi⟩ := DataW.trod_array Tryz.underlying58 h
  match cs, hl with
  | [u, v], _ =>
    have h0 := hi 0 (by omega)
    have h1 := hi 1 (by omega)
    simp only [show Tryz.prog.cellsOf 5 = 1 by kernel_rfl] at h0 h1
    rw [List.getElem?_eq_getElem (by omega)] at h0 h1
    obtain ⟨a, e0, _, w0⟩ := DataW.trod_int Tryz.underlying5 h0
    obtain ⟨b, e1, _, w1⟩ := DataW.trod_int Tryz.underlying5 h1
    obtain ⟨a, rfl, ha⟩ := u8_nat w0
    obtain ⟨b, rfl, hb⟩ := u8_nat w1
    simp at e0 e1
    exact ⟨(a, b), by rw [e0, e1], ha, hb⟩
theorem pairs8_cells {fuel : Nat} {cs : List Value} {x : DataW H × List MemPlace} (h : DataW.trod enc Tryz.prog W 0 (fun _ => true) true fuel 22 cs = some x) :
    ∃ A m c, ∃ l : List E, cs = [.slice A m c] ∧ Reads W W.heap.size 2 A m (gcells l) ∧ l.length = m ∧ m ≤ 9223372036854775807 ∧ (∀ e ∈ l, e.1 < 256 ∧ e.2 < 256) := by
  rcases open_slice Tryz.underlying22 h with ⟨hcs, _⟩ | ⟨a, len, cap, m, n, D, Pl, hcs, _, hl, hm, hmm, _, hV⟩
  · exact ⟨none, 0, 0, [], hcs, Reads.none_, rfl, by omega, by simp⟩
  · have hmm' : m = cap := by simpa using hmm
    rw [show Tryz.prog.cellsOf 58 = 2 by kernel_rfl] at hV
    obtain ⟨f, hf⟩ := choose_lt (α := E) (p := fun i e => W.cell? (a.add (i * 2)) = some (.int .u8 (e.1 : Int)) ∧ W.cell? (a.add (i * 2 + 1)) = some (.int .u8 (e.2 : Int)) ∧ e.1 < 256 ∧ e.2 < 256) (n := len) (fun i hi => by
      obtain ⟨cs', h1, h2⟩ := hV i (by omega)
      obtain ⟨_, hlen, hcell⟩ := World.cells?_some h1
      obtain ⟨e, rfl, e1, e2⟩ := pair8_cells h2 hlen
      have g0 := hcell 0 (by omega)
      have g1 := hcell 1 (by omega)
      rw [add_add] at g0 g1
      exact ⟨e, by simpa using g0, by simpa using g1, e1, e2⟩)
    refine ⟨some a, len, cap, (List.range len).map f, hcs, ⟨?_, fun h0 => ?_⟩, by simp, by unfold maxLen at hm; omega, ?_⟩
    · have : ∀ l : List E, (gcells l).length = l.length * 2 := fun l => by
        induction l with
        | nil => rfl
        | cons e l ih => simp only [gcells, List.flatMap_cons, List.length_append, List.length_cons, List.length_nil] at ih ⊢; omega
      rw [this]; simp
    · obtain ⟨h1, _⟩ := hf 0 h0
      have hb := World.block_lt_of_cell? W _ h1
      obtain ⟨b, o, s⟩ := a
      have hs : s = none := by simpa [Addr.add] using World.cell?_spot h1
      subst hs
      refine ⟨b, o, rfl, by simpa [Addr.add] using hb, fun j u hu => ?_⟩
      have hj : j < len * 2 := by
        have h2 := (List.getElem?_eq_some_iff.1 hu).1
        have : ∀ l : List E, (gcells l).length = l.length * 2 := fun l => by
          induction l with
          | nil => rfl
          | cons e l ih => simp only [gcells, List.flatMap_cons, List.length_append, List.length_cons, List.length_nil] at ih ⊢; omega
        rw [this] at h2; simpa using h2
      obtain ⟨c1, c2, _⟩ := hf (j / 2) (by omega)
      obtain ⟨d1, d2⟩ := gcells_at ((List.range len).map f) (j / 2) (f (j / 2)) (by simp [show j / 2 < len by omega])
      rw [Addr.add_lit] at c1 c2
      rcases Nat.mod_two_eq_zero_or_one j with h2 | h2
      · rw [show 2 * (j / 2) = j by omega] at d1
        rw [show j / 2 * 2 = j by omega] at c1
        rw [c1, ← hu, d1]
      · rw [show 2 * (j / 2) + 1 = j by omega] at d2
        rw [show j / 2 * 2 + 1 = j by omega] at c2
        rw [c2, ← hu, d2]
    · intro e he
      obtain ⟨i, hi, rfl⟩ := List.mem_map.1 he
      exact (hf i (List.mem_range.1 hi)).2.2
theorem open_graph (hv : Value.okWide Tryz.prog W .any base 24 v) (h : DataW.Trod enc Tryz.prog W 0 (fun _ => true) true 24 v d ps) :
    ∃ G A m c, ∃ l : List E, v = .agg #[.int .u8 ((G : Nat) : Int), .slice A m c] ∧ Reads W W.heap.size 2 A m (gcells l) ∧ l.length = m ∧ m ≤ 9223372036854775807 ∧ G < 256 ∧ (∀ e ∈ l, e.1 < 256 ∧ e.2 < 256) := by
  obtain ⟨cs, rfl, hsz⟩ := okWide_struct Tryz.underlying24 hv
  rw [show Tryz.prog.cellsOf 24 = 2 by kernel_rfl] at hsz
  obtain ⟨fuel, hf⟩ := h
  obtain ⟨y0, y1, n, _, hl, h0, h1⟩ := trod_struct2 Tryz.underlying24 hf
  obtain ⟨l⟩ := cs
  match l, hsz with
  | [u0, u1], _ =>
    simp only [show Tryz.prog.cellsOf 5 = 1 by kernel_rfl, show Tryz.prog.cellsOf 22 = 1 by kernel_rfl] at h0 h1
    obtain ⟨G, e0, _, w0⟩ := DataW.trod_int Tryz.underlying5 h0
    obtain ⟨A, m, c, l, e1, hr, hlm, hm, hx⟩ := pairs8_cells h1
    obtain ⟨G, rfl, hG⟩ := u8_nat w0
    simp [Value.cells] at e0 e1
    subst e0
    subst e1
    exact ⟨G, A, m, c, l, rfl, hr, hlm, hm, hG, hx⟩
theorem open_pair8 (hv : Value.okWide Tryz.prog W .any base 58 v) (h : DataW.Trod enc Tryz.prog W 0 (fun _ => true) true 58 v d ps) :
    ∃ a b : Nat, v = .agg #[.int .u8 (a : Int), .int .u8 (b : Int)] ∧ a < 256 ∧ b < 256 := by
  obtain ⟨cs, rfl, hsz⟩ := okWide_array Tryz.underlying58 hv
  rw [show Tryz.prog.cellsOf 58 = 2 by kernel_rfl] at hsz
  obtain ⟨fuel, hf⟩ := h
  obtain ⟨l⟩ := cs
  have hl : l.length = 2 := hsz
  obtain ⟨e, he, h1, h2⟩ := pair8_cells (cs := l) hf hl
  subst he
  exact ⟨e.1, e.2, rfl, h1, h2⟩
end
end Go.Proofs.YtjdbjahgimlhbaaGreat.frame
end
