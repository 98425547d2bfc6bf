/- A LAW's GRAPH made, by contract. -/
import Derived.Test.YtjdbjahgimlhbaaEdNorm
set_option linter.unusedVariables false
set_option maxRecDepth 100000
namespace Go.Proofs.Ytjdbjahgimlhbaa
open Go.RowKit
open Gr (E)

def gcells (l : List E) : List Value := l.flatMap fun e => [.int .u8 (e.1 : Int), .int .u8 (e.2 : Int)]
theorem gcells_at : ∀ (l : List E) (k : Nat) (e : E), l[k]? = some e → (gcells l)[2 * k]? = some (.int .u8 (e.1 : Int)) ∧ (gcells l)[2 * k + 1]? = some (.int .u8 (e.2 : Int))
  | [], k, e, h => by simp at h
  | x :: l, 0, e, h => by
    obtain rfl : x = e := by simpa using h
    simp [gcells]
  | x :: l, k + 1, e, h => by
    have := gcells_at l k e (by simpa using h)
    simp only [gcells, List.flatMap_cons] at this ⊢
    rw [show 2 * (k + 1) = 2 * k + 1 + 1 by omega, show 2 * k + 1 + 1 + 1 = (2 * k + 1) + 1 + 1 by omega]
    simpa using this
/-- the ends, counted round; those that are unlike -/
def ends2 (n : Nat) (e : E) : E := (e.1 % n, e.2 % n)
def filt (n : Nat) (l : List E) : List E := (l.map (ends2 n)).filter fun e => e.1 != e.2
def madeN (G : Nat) : Nat := 1 + G % 60
def madeE (G : Nat) (l : List E) : List E := Gr.normal (filt (madeN G) l)
theorem filt_ok {n : Nat} (h : 1 ≤ n) (l : List E) : ∀ e ∈ filt n l, e.1 < n ∧ e.2 < n ∧ e.1 ≠ e.2 := by
  intro e he
  obtain ⟨h1, h2⟩ := List.mem_filter.1 he
  obtain ⟨x, _, rfl⟩ := List.mem_map.1 h1
  exact ⟨Nat.mod_lt _ h, Nat.mod_lt _ h, by simpa using h2⟩
theorem filt_snoc (n : Nat) (l : List E) (x : E) : filt n (l ++ [x]) = filt n l ++ (if x.1 % n = x.2 % n then [] else [ends2 n x]) := by
  unfold filt
  rw [List.map_append, List.filter_append]
  congr 1
  by_cases h : x.1 % n = x.2 % n
  · simp [ends2, h]
  · simp [ends2, h]
theorem filt_len (n : Nat) (l : List E) : (filt n l).length ≤ l.length := by
  unfold filt
  have := List.length_filter_le (fun e : E => e.1 != e.2) (l.map (ends2 n))
  simpa using this
theorem madeE_ok (G : Nat) (l : List E) : Gr.Sorted (madeE G l) ∧ (∀ e ∈ madeE G l, e.1 < madeN G ∧ e.2 < madeN G ∧ e.1 ≠ e.2) ∧ (madeE G l).length ≤ l.length :=
  ⟨Gr.normal_sorted _, fun e he => filt_ok (by unfold madeN; omega) l e ((Gr.normal_mem _ e).1 he), Nat.le_trans (Gr.normal_len _) (filt_len _ _)⟩
set_option maxHeartbeats 4000000 in
theorem made_any (A : Option Addr) (m c G : Nat) (l : List E) (w : World) (h : Reads w w.heap.size 2 A m (gcells l)) (hm : l.length = m) (hmx : m ≤ 300) (hG : G < 256) (hl : ∀ e ∈ l, e.1 < 256 ∧ e.2 < 256) :
    Calls Try.prog 17 #[.agg #[.int .u8 (G : Int), .slice A m c]] w fun e w' => ∃ A' c', e = .returned (.tuple #[.int .i64 ((madeN G : Nat) : Int), .slice A' (madeE G l).length c']) ∧ (madeE G l).length ≤ c' ∧ EdgesAt w' A' (madeE G l) ∧ Fr (fun _ => False) w w' := by
  have H := hide h
  have HM := hide hm
  have HL := hide hl
  clear h hm hl
  have hn1 : 1 ≤ madeN G := by unfold madeN; omega
  have hn2 : madeN G ≤ 60 := by unfold madeN; omega
  have hg : (1 : Int) + (G : Int) % 60 = ((madeN G : Nat) : Int) := by unfold madeN; omega
  generalize hNN : madeN G = N at *
  obtain ⟨i0, hi, hz0, hz1, hz2⟩ := info_parts edge_info
  have B0 := hide (show Blk (w.alloc (.cells #[.int .u8 (G : Int), .slice A m c] 24)) w.heap.size 24 #[.int .u8 (G : Int), .slice A m c] from Blk.new _ _ _)
  have F0 := hide ((Fr.refl (fun _ => False) w).alloc (.cells #[.int .u8 (G : Int), .slice A m c] 24))
  have S0 : (w.alloc (.cells #[.int .u8 (G : Int), .slice A m c] 24)).heap.size = w.heap.size + 1 := by simp
  go_enter Try.func17, Try.ntmps17
  go_wp2_with fail
  generalize w.alloc (.cells #[.int .u8 (G : Int), .slice A m c] 24) = W1 at *
  go_loopw [5, 6] (fun o i wr => ∃ (k : Nat) (A' : Option Addr) (q c' : Nat), k ≤ m ∧ i = .int .i64 k ∧ o = .slice A' q c' ∧ q ≤ k ∧ Hid (wr.ownsRow W1.heap.size 40 2 (.slice A' q c') q (ecells (filt N (l.take k))) ∧ Fr (fun _ => False) W1 wr)) (fun _ i _ => m - (intOf i).toNat)
  case atStart => exact ⟨0, none, 0, 0, by omega, rfl, rfl, by omega, World.ownsRow_nil _ _ _ _, Fr.refl _ _⟩
  case round =>
    obtain ⟨k, A', q, c', hk, rfl, rfl, hqk, HI⟩ := hrel
    have g0 : wr.cell? ⟨w.heap.size, 0, none⟩ = some (.int .u8 (G : Int)) := HI.out.2.cell ((B0.out.cell 0).trans rfl) (fun h => h)
    have g1 : wr.cell? ⟨w.heap.size, 1, none⟩ = some (.slice A m c) := HI.out.2.cell ((B0.out.cell 1).trans rfl) (fun h => h)
    by_cases hlt : k < m
    · have lk : k < l.length := by rw [HM.out]; exact hlt
      obtain ⟨b, o, rfl, hb, hr⟩ := (H.out.up (F0.out.then_ HI.out.2)).2 (by omega)
      obtain ⟨h1, h2⟩ := gcells_at l k _ (List.getElem?_eq_getElem lk)
      have y0 := hr _ _ h1
      have y1 := hr _ _ h2
      rw [Nat.mul_comm 2 k] at y0 y1
      rw [← Nat.add_assoc] at y1
      have HS := hide (show l.take (k + 1) = l.take k ++ [l[k]] from List.take_succ_eq_append_getElem lk)
      obtain ⟨l1, l2⟩ := HL.out _ (List.getElem_mem lk)
      clear hr h1 h2
      generalize l[k]'lk = y at *
      obtain ⟨u, hu, hu2⟩ : ∃ u : Nat, (y.1 : Int) % (N : Int) = (u : Int) ∧ y.1 % N = u := ⟨y.1 % N, by simp, rfl⟩
      obtain ⟨v, hv, hv2⟩ : ∃ v : Nat, (y.2 : Int) % (N : Int) = (v : Int) ∧ y.2 % N = v := ⟨y.2 % N, by simp, rfl⟩
      have hu3 : u < N := by rw [← hu2]; exact Nat.mod_lt _ (by omega)
      have hv3 : v < N := by rw [← hv2]; exact Nat.mod_lt _ (by omega)
      by_cases heq : u = v
      · have hbe : ((u : Int) != (v : Int)) = false := by simp; omega
        have HQ := hide (show filt N (l.take (k + 1)) = filt N (l.take k) by rw [HS.out, filt_snoc, if_pos (by rw [hu2, hv2]; exact heq), List.append_nil])
        go_wp2_with fail
        go_quiet (fail)
        go_wp2
        go_roundw
        case rel => exact ⟨k + 1, A', q, c', by omega, by go_num, rfl, by omega, by rw [HQ.out]; exact HI.out.1, HI.out.2.drewN _⟩
        case measure => simp [intOf]; omega
      · have hbe : ((u : Int) != (v : Int)) = true := by simp; omega
        have HQ := hide (show ecells (filt N (l.take (k + 1))) = ecells (filt N (l.take k)) ++ [.int .i64 (u : Int), .int .i64 (v : Int)] by
          rw [HS.out, filt_snoc, if_neg (by rw [hu2, hv2]; exact heq), ecells_app]
          simp [ecells, ends2, hu2, hv2])
        go_wp2_with fail
        go_quiet (fail)
        have hown1 : (wr.drewN nq).ownsRow W1.heap.size 40 2 (.slice A' q c') q (ecells (filt N (l.take k))) := HI.out.1
        have hb1 := HI.out.2.size
        have HF := hide (HI.out.2.drewN nq)
        clear HI
        go_wp2_with (at_builtin; refine wpList_append_box (wr.drewN nq) _ _ rfl (.tmp 44) (.tmp 48) _ rfl W1.heap.size 40 i0 _ 2 16 Try.underlying26 hi hz0 hz1 hz2 rfl (by decide) _ _ _ rfl hown1 rfl rfl ?c1 ?c2 ?c3 ?c4 ?c5)
        case c1 => simp [Value.oneCell']
        case c2 => unfold maxLen; omega
        case c3 => omega
        case c4 => exact hb1
        case c5 =>
          intro v2 w2 hown2 hg2 _
          have HF2 := hide (HF.out.grown hg2 (fun k hk => .inr ((hown1.lt k hk).1)))
          obtain ⟨A2, c2, rfl⟩ := Reads.own_val hown2
          have HO := hide (show w2.ownsRow W1.heap.size 40 2 (.slice A2 (q + 1) c2) (q + 1) (ecells (filt N (l.take (k + 1)))) by rw [HQ.out]; have h := hown2; rw [← S0] at h; exact h)
          clear hown1 hown2 hg2
          go_wp2
          go_roundw
          case rel => exact ⟨k + 1, A2, q + 1, c2, by omega, by go_num, rfl, by omega, HO.out, HF2.out⟩
          case measure => simp [intOf]; omega
    · obtain rfl : k = m := by omega
      have hall : l.take k = l := List.take_of_length_le (by rw [HM.out]; omega)
      rw [hall] at HI
      have HR := hide (Reads.of_own HI.out.1)
      have hq : (filt N l).length = q := by have := HR.out.1; rw [ecells_len] at this; omega
      have HF := hide HI.out.2
      have HE := hide (show EdgesAt wr A' (filt N l) by unfold EdgesAt; rw [hq]; exact HR.out)
      clear HI HR hall
      go_wp2_with fail
      go_at_call 49
      refine (normal_any A' N q c' (filt N l) _ HE.out hq (by omega) hn1 (by omega) (filt_ok hn1 l)).mono ?_
      rintro e w2 ⟨A2, c2, rfl, hc2, hr2, hf2⟩
      have hE : Gr.normal (filt N l) = madeE G l := by unfold madeE; rw [hNN]
      rw [hE] at hc2 hr2 ⊢
      have HR := hide hr2
      have HC := hide hc2
      have HF2 := hide (F0.out.then_ (HF.out.then_ hf2))
      clear hr2 hf2 hc2 hE
      go_wp2
      go_ret2
      exact ⟨A2, c2, rfl, HC.out, HR.out, HF2.out⟩
end Go.Proofs.Ytjdbjahgimlhbaa
