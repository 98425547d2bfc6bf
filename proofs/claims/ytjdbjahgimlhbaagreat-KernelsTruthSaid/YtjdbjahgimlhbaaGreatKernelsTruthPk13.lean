/- Parts of the proof of KernelsTruth: no conditions of their own. -/
import Derived.Test.YtjdbjahgimlhbaaGreatKernelsTruthPk10
import Derived.Test.YtjdbjahgimlhbaaGreatKernelsTruthPk12
import Derived.Test.YtjdbjahgimlhbaaGreatKernelsTruthPk7
section
set_option linter.unusedVariables false
namespace Go.Proofs.YtjdbjahgimlhbaaGreat
open Go.RowKit
open Gr (E T)

/-- the shards taken in, one behind the other -/
def kacc (K : Kd) (r : Nat) (X Y : List Nat) (Ls : List (List T)) : List Nat := Ls.foldl (fun t L => L.foldl (K.step r X) t) Y
/-- the rows behind so many rounds -/
def kst (K : Kd) (n : Nat) (Ls : List (List T)) : Nat → List Nat × List Nat
  | 0 => (K.bX n, K.bY n)
  | r + 1 => (K.cX (kst K n Ls r).1 (kacc K r (kst K n Ls r).1 (kst K n Ls r).2 Ls), K.cY (kst K n Ls r).1 (kacc K r (kst K n Ls r).1 (kst K n Ls r).2 Ls))
def kdn (K : Kd) (n : Nat) (Ls : List (List T)) (r : Nat) : Bool := K.dn r (kst K n Ls r).1 (kacc K r (kst K n Ls r).1 (kst K n Ls r).2 Ls)
/-- behind how many rounds it ends: the first that says so, or the last -/
def stopAt (d : Nat → Bool) (b : Nat) : Nat := match (List.range b).find? d with
  | some r => r + 1
  | none => b
theorem stop_some {d : Nat → Bool} {b r : Nat} (hr : r < b) (h : d r = true) (hl : ∀ j, j < r → d j = false) : stopAt d b = r + 1 := by
  unfold stopAt
  rw [(List.find?_range_eq_some (i := r) (p := d)).2 ⟨h, by simpa using hr, fun j hj => by simp [hl j hj]⟩]
theorem stop_none {d : Nat → Bool} {b : Nat} (hl : ∀ j, j < b → d j = false) : stopAt d b = b := by
  unfold stopAt
  rw [List.find?_eq_none.2 (fun j hj => by simp [hl j (List.mem_range.1 hj)])]
theorem stop_congr {d d' : Nat → Bool} {b : Nat} (h : ∀ j, d j = d' j) : stopAt d b = stopAt d' b := by rw [show d = d' from funext h]
/-- what is asked of a kind's lengths -/
structure Kd.Good (K : Kd) : Prop where
  bX : ∀ n, (K.bX n).length = n
  bY : ∀ n, (K.bY n).length = n
  st : ∀ r X t e, (K.step r X t e).length = t.length
  cX : ∀ X Y, (K.cX X Y).length = X.length
  cY : ∀ X Y, (K.cY X Y).length = X.length
theorem kd_good (k arg : Nat) : (kdOf k arg).Good := by
  have g1 : (kdOf 1 arg).Good := ⟨fun n => by simp [kdOf, bfs.bX], fun n => by simp [kdOf, bfs.bY], fun r X t e => bfs.step_len _ _ _ _, fun X Y => by simp [kdOf, bfs.cXs], fun X Y => by simp [kdOf, bfs.cYs]⟩
  have g2 : (kdOf 2 arg).Good := ⟨fun n => by simp [kdOf, rank.bX], fun n => by simp [kdOf, rank.bY], fun r X t e => rank.step_len _ _ _, fun X Y => by simp [kdOf], fun X Y => by simp [kdOf, rank.bY]⟩
  have g3 : (kdOf 3 arg).Good := ⟨fun n => by simp [kdOf, labels.bX], fun n => by simp [kdOf, labels.bY], fun r X t e => labels.step_len _ _ _, fun X Y => by simp [kdOf, labels.cXs], fun X Y => by simp [kdOf, labels.cYs]⟩
  have g4 : ∀ k, k ≠ 1 → k ≠ 2 → k ≠ 3 → (kdOf k arg).Good := fun k h1 h2 h3 => by
    have e : kdOf k arg = kdOf 4 arg := by unfold kdOf; split <;> first | rfl | contradiction
    rw [e]
    exact ⟨fun n => by simp [kdOf, cores.bX], fun n => by simp [kdOf, cores.bY], fun r X t e => cores.step_len _ _ _, fun X Y => by simp [kdOf, cores.cXs], fun X Y => by simp [kdOf, cores.cYs]⟩
  by_cases h1 : k = 1
  · subst h1; exact g1
  by_cases h2 : k = 2
  · subst h2; exact g2
  by_cases h3 : k = 3
  · subst h3; exact g3
  exact g4 k h1 h2 h3
theorem kacc_len {K : Kd} (hK : K.Good) (r : Nat) (X : List Nat) : ∀ (Ls : List (List T)) (Y : List Nat), (kacc K r X Y Ls).length = Y.length
  | [], Y => rfl
  | L :: Ls, Y => by
    have h := kacc_len hK r X Ls (L.foldl (K.step r X) Y)
    rw [foldl_len (hK.st r X)] at h
    exact h
theorem kst_len {K : Kd} (hK : K.Good) (n : Nat) (Ls : List (List T)) : ∀ r, (kst K n Ls r).1.length = n ∧ (kst K n Ls r).2.length = n
  | 0 => ⟨hK.bX n, hK.bY n⟩
  | r + 1 => by
    have := kst_len hK n Ls r
    exact ⟨by simp only [kst]; rw [hK.cX]; exact this.1, by simp only [kst]; rw [hK.cY]; exact this.1⟩
theorem kacc_take (K : Kd) (r : Nat) (X Y : List Nat) (Ls : List (List T)) {i : Nat} (h : i < Ls.length) : kacc K r X Y (Ls.take (i + 1)) = (Ls.getD i []).foldl (K.step r X) (kacc K r X Y (Ls.take i)) := by
  unfold kacc
  rw [List.take_succ_eq_append_getElem h, List.foldl_append]
  simp [List.getD, h]
/-- shards, in memory below K, each of which fits, and what each says -/
def ShsAt (w : World) (K : Nat) (A : Option Addr) (s n : Nat) (Ls : List (List T)) : Prop :=
  Ls.length = s ∧ K ≤ w.heap.size ∧ ∀ i, i < s → ∃ b o fr to Ai m c vs L, A = some ⟨b, o, none⟩ ∧ b < K ∧ w.cell? ⟨b, o + i * 3, none⟩ = some (.int .i64 fr) ∧ w.cell? ⟨b, o + i * 3 + 1, none⟩ = some (.int .i64 to) ∧ w.cell? ⟨b, o + i * 3 + 2, none⟩ = some (.slice Ai m c) ∧
    fitsB fr to n L = true ∧ edgs fr L = Ls.getD i [] ∧ ∀ (S : Nat → Prop) w', Fr S w w' → (∀ k, S k → K ≤ k) → LsAt w' vs Ai m L
theorem ShsAt.fr {S : Nat → Prop} {w w' : World} {K s n : Nat} {A : Option Addr} {Ls : List (List T)} (h : ShsAt w K A s n Ls) (hf : Fr S w w') (hS : ∀ k, S k → K ≤ k) : ShsAt w' K A s n Ls := by
  refine ⟨h.1, Nat.le_trans h.2.1 hf.size, fun i hi => ?_⟩
  obtain ⟨b, o, fr, to, Ai, m, c, vs, L, e, hb, q0, q1, q2, h1, h2, h3⟩ := h.2.2 i hi
  have hn : ¬ S b := fun hs => by have := hS b hs; omega
  exact ⟨b, o, fr, to, Ai, m, c, vs, L, e, hb, hf.cell q0 hn, hf.cell q1 hn, hf.cell q2 hn, h1, h2, fun S' w'' hf' hS' => h3 (fun k => S k ∨ S' k) w'' ((hf.mono (fun k h => .inl h)).trans hf' (fun k h => .inl (.inr h))) (fun k hk => hk.elim (hS k) (hS' k))⟩
theorem ShsAt.of {w : World} {K n s : Nat} {A : Option Addr} {l : List E} (h : ShardsAt w K A n s l) (hs : 0 < s) (hl : ∀ e ∈ l, e.2 < n) : ShsAt w K A s n ((List.range s).map (Gr.shardT l n s)) := by
  obtain ⟨b, o, rfl, hb⟩ := h.addr
  refine ⟨by simp, h.1, fun i hi => ?_⟩
  obtain ⟨Ai, vs, q0, q1, q2, hst⟩ := h.at hi
  exact ⟨b, o, _, _, Ai, _, _, vs, _, rfl, hb, q0, q1, q2, Gr.shard_fits l n s i hs hi hl, by simp [hi, Gr.shardT], hst⟩
end Go.Proofs.YtjdbjahgimlhbaaGreat
end
section
set_option linter.unusedVariables false
set_option maxRecDepth 100000
namespace Go.Proofs.YtjdbjahgimlhbaaGreat
open Go.RowKit

/-- a slice whose memory lies from lo on -/
def ReadsIn (w : World) (lo size : Nat) (A : Option Addr) (n : Nat) (xs : List Value) : Prop :=
  xs.length = n * size ∧ (0 < n → ∃ b o, A = some ⟨b, o, none⟩ ∧ lo ≤ b ∧ b < w.heap.size ∧ ∀ j u, xs[j]? = some u → w.cell? ⟨b, o + j, none⟩ = some u)
theorem ReadsIn.reads {w : World} {lo size n : Nat} {A : Option Addr} {xs : List Value} (h : ReadsIn w lo size A n xs) : Reads w w.heap.size size A n xs :=
  ⟨h.1, fun h0 => by obtain ⟨b, o, e, _, hb, hc⟩ := h.2 h0; exact ⟨b, o, e, hb, hc⟩⟩
theorem ReadsIn.fr {S : Nat → Prop} {w w' : World} {lo size n : Nat} {A : Option Addr} {xs : List Value} (h : ReadsIn w lo size A n xs) (hf : Fr S w w') (hs : ∀ k, S k → k < lo) : ReadsIn w' lo size A n xs :=
  ⟨h.1, fun h0 => by
    obtain ⟨b, o, e, hl, hb, hc⟩ := h.2 h0
    exact ⟨b, o, e, hl, Nat.lt_of_lt_of_le hb hf.size, fun j u hu => hf.cell (hc j u hu) (fun hS => by have := hs _ hS; simp only at this; omega)⟩⟩
theorem ReadsIn.less {w : World} {lo lo' size n : Nat} {A : Option Addr} {xs : List Value} (h : ReadsIn w lo size A n xs) (hl : lo' ≤ lo) : ReadsIn w lo' size A n xs :=
  ⟨h.1, fun h0 => by obtain ⟨b, o, e, h1, hb, hc⟩ := h.2 h0; exact ⟨b, o, e, Nat.le_trans hl h1, hb, hc⟩⟩
theorem ReadsIn.of_own {w : World} {base size n c : Nat} {A : Option Addr} {xs : List Value} {e : TypeId} (h : w.ownsRow base e size (.slice A n c) n xs) : ReadsIn w base size A n xs := by
  have hr := Reads.of_own h
  refine ⟨hr.1, fun h0 => ?_⟩
  obtain ⟨b, o, rfl, hb, hc⟩ := hr.2 h0
  refine ⟨b, o, rfl, ?_, hb, hc⟩
  rcases h.2 with ⟨h1, _⟩ | ⟨g, cap, cur, h1, hg, _⟩
  · simp at h1
  · injection h1 with h1 _ _
    injection h1 with h1
    injection h1 with h1 _ _
    rw [h1]; exact hg
theorem ReadsIn.cell {w : World} {lo n k : Nat} {A : Option Addr} {xs : List Nat} (h : ReadsIn w lo 1 A n (xs.map u64v)) (hk : k < n) : ∃ b o, A = some ⟨b, o, none⟩ ∧ w.cell? ⟨b, o + k, none⟩ = some (.int .u64 ((xs.getD k 0 : Nat) : Int)) := by
  have hl : xs.length = n := by have := h.1; simpa using this
  obtain ⟨b, o, e, _, hb, hc⟩ := h.2 (by omega)
  refine ⟨b, o, e, hc k _ ?_⟩
  rw [List.getElem?_map, List.getElem?_eq_getElem (by omega)]
  simp [u64v, List.getD, show k < xs.length by omega]
end Go.Proofs.YtjdbjahgimlhbaaGreat
end
section
set_option linter.unusedVariables false
set_option maxRecDepth 100000
namespace Go.Proofs.YtjdbjahgimlhbaaGreat
open Go.RowKit
open Gr (E T)

theorem numbers_in {p g : Nat} {xs : List Nat} {w : World} (h : PlainAt w p g xs) :
    Calls Tryz.prog 23 #[vecv p] w fun e w' => ∃ A c, e = .returned (.slice A xs.length c) ∧ ReadsIn w' w.heap.size 1 A xs.length (xs.map u64v) ∧ Fr (fun _ => False) w w' := by
  obtain ⟨i0, hi, hz0, hz1, hz2⟩ := info_parts u64_info
  have hl := h.len
  have hmv := fun p => meth_len p
  have hmg := fun p => meth_get p
  have H := hide h
  clear h
  unfold vecv
  go_enter Tryz.func23, Tryz.ntmps23
  go_wp2_with fail
  go_at_call 154
  refine (len_any H.out).mono ?_
  rintro e w1 ⟨rfl, rfl⟩
  go_wp2_with fail
  go_loopw [3, 9] (fun r i wr => ∃ k : Nat, k ≤ xs.length ∧ i = .int .i64 k ∧ wr.ownsRow w.heap.size 57 1 r k ((xs.take k).map u64v) ∧ Hid (Fr (fun _ => False) w wr)) (fun _ i _ => xs.length - (intOf i).toNat)
  case atStart => exact ⟨0, by omega, rfl, by simpa using World.ownsRow_nil w _ 57 1, hide (Fr.refl _ _)⟩
  case round =>
    obtain ⟨k, hk, rfl, hown, HF⟩ := hrel
    have HP := hide (H.out.fr HF.out id id)
    by_cases hlt : k < xs.length
    · have HG := hide (get_in HP.out k hlt)
      generalize hxk : xs.getD k 0 = x at *
      go_wp2_with fail
      go_at_call 153
      refine HG.out.mono ?_
      rintro e w1 ⟨rfl, rfl⟩
      go_wp2_with (at_builtin; refine wpList_append_box wr _ _ rfl (.tmp 18) (.tmp 20) _ rfl w.heap.size 57 i0 _ 1 8 Tryz.underlying47 hi hz0 hz1 hz2 rfl (by decide) _ _ _ rfl hown rfl rfl ?c1 ?c2 ?c3 ?c4 ?c5)
      case c1 => simp [Value.oneCell']
      case c2 => unfold maxLen; omega
      case c3 => omega
      case c4 => exact HF.out.size
      case c5 =>
        intro v' w1 hown1 hg _
        have HF1 := hide (HF.out.grown hg (fun q hq => .inr ((hown.lt q hq).1)))
        have hM : (xs.take k).map u64v ++ [Value.int .u64 (x : Int)] = (xs.take (k + 1)).map u64v := by
          rw [List.take_succ_eq_append_getElem hlt, List.map_append, ← hxk]
          simp [u64v, List.getD, hlt]
        have hown2 : w1.ownsRow w.heap.size 57 1 v' (k + 1) ((xs.take (k + 1)).map u64v) := by rw [← hM]; simpa [List.map_take] using hown1
        clear hown hown1 hg hM
        go_wp2
        go_roundw
        case rel => exact ⟨k + 1, by omega, by go_num, hown2, HF1⟩
        case measure => simp [intOf]; omega
    · obtain rfl : k = xs.length := by omega
      rw [List.take_of_length_le (Nat.le_refl _)] at hown
      obtain ⟨A, c, rfl⟩ := Reads.own_val hown
      have HR := hide (ReadsIn.of_own hown)
      clear hown
      go_wp2
      go_ret
      exact ⟨_, _, rfl, HR.out, HF.out⟩

set_option maxHeartbeats 4000000 in
theorem run_any (k arg prio n s c : Nat) (need : Int) (A : Option Addr) (Ls : List (List T)) (w : World) (hp : prio ≤ 7) (hk : okK k arg n) (h1 : 1 ≤ n) (h2 : n ≤ 256) (hs : s ≤ 1000) (hS : ShsAt w w.heap.size A s n Ls) :
    Calls Tryz.prog 10 #[reqv k arg prio need, .int .i64 (n : Int), .slice A s c] w fun e w' => ∃ B d, e = .returned (.tuple #[.slice B n d, .int .i64 ((stopAt (kdn (kdOf k arg) n Ls) (bnd k arg n) : Nat) : Int), .int .i64 0]) ∧
      ReadsIn w' w.heap.size 1 B n ((kst (kdOf k arg) n Ls (stopAt (kdn (kdOf k arg) n Ls) (bnd k arg n))).1.map u64v) ∧ Fr (fun _ => False) w w' := by
  have HK := hide (kd_good k arg)
  have hb : 1 ≤ bnd k arg n ∧ bnd k arg n ≤ 257 := by unfold bnd okK at *; split <;> omega
  have HTC := hide (fun w => tcheck_ok k arg prio n need h1 h2 hp hk w)
  have HBD := hide (fun w => bound_ok k arg prio n need h1 h2 hp hk w)
  have HNW := hide (fun w => new_ok n w h2)
  have HBG := hide (fun (W : World) (pa ga pb gb : Nat) (xs ys : List Nat) (h : TwoAt W pa ga pb gb xs ys) (lx : xs.length = n) (ly : ys.length = n) => kbegin_ok h (may_n h1 h2 lx ly) k arg prio need hp (by rw [lx]; exact hk))
  have HSH := hide (fun (W : World) (pa ga pb gb : Nat) (xs ys : List Nat) (fr to : Int) (Ai : Option Addr) (m c : Nat) (vs : List Value) (L : List (List Int)) (r : Nat) (h : TwoAt W pa ga pb gb xs ys) (lx : xs.length = n) (ly : ys.length = n) (stay : ∀ w', Fr (fun k => k = gb) W w' → LsAt w' vs Ai m L) (hfit : fitsB fr to n L = true) (hr : r ≤ 1000) =>
    kshard_ok (c := c) h (may_n h1 h2 lx ly) k arg prio need hp (by rw [lx]; exact hk) stay (by rw [lx]; exact hfit) r hr)
  have HCM := hide (fun (W : World) (pa ga pb gb : Nat) (xs ys : List Nat) (r : Nat) (h : TwoAt W pa ga pb gb xs ys) (lx : xs.length = n) (ly : ys.length = n) (hr : r ≤ 1000) => kcommit_ok h (may_n h1 h2 lx ly) k arg prio need hp (by rw [lx]; exact hk) r hr)
  generalize kdOf k arg = K at *
  generalize bnd k arg n = b at *
  obtain ⟨W1, hW1⟩ : ∃ W1, W1 = w.alloc (reqc k arg prio need) := ⟨_, rfl⟩
  have F1 := hide (show Fr (fun _ => False) w W1 by rw [hW1]; exact (Fr.refl _ _).alloc _)
  have c0 : W1.cell? ⟨w.heap.size, 0, none⟩ = some (.int .i64 (k : Int)) := by rw [hW1]; unfold reqc; simp
  have c1 : W1.cell? ⟨w.heap.size, 1, none⟩ = some (.int .i64 (arg : Int)) := by rw [hW1]; unfold reqc; simp
  have c2 : W1.cell? ⟨w.heap.size, 2, none⟩ = some (.int .i64 (prio : Int)) := by rw [hW1]; unfold reqc; simp
  have c3 : W1.cell? ⟨w.heap.size, 3, none⟩ = some (.int .i64 need) := by rw [hW1]; unfold reqc; simp
  have HCL := hide (fun (S : Nat → Prop) W (hf : Fr S W1 W) (hn : ¬ S w.heap.size) => (⟨hf.cell c0 hn, hf.cell c1 hn, hf.cell c2 hn, hf.cell c3 hn⟩ : W.cell? ⟨w.heap.size, 0, none⟩ = some (.int .i64 (k : Int)) ∧ W.cell? ⟨w.heap.size, 1, none⟩ = some (.int .i64 (arg : Int)) ∧ W.cell? ⟨w.heap.size, 2, none⟩ = some (.int .i64 (prio : Int)) ∧ W.cell? ⟨w.heap.size, 3, none⟩ = some (.int .i64 need)))
  have SZ1 : W1.heap.size = w.heap.size + 1 := by rw [hW1]; simp
  have HZ := hide hW1
  have HSS := hide (hS.fr F1.out (fun k h => h.elim))
  unfold reqv reqc vecv at *
  clear c0 c1 c2 c3 hW1 hS
  go_enter Tryz.func10, Tryz.ntmps10
  go_wp2_with fail
  rw [← HZ.out]
  go_at_call 17
  refine (HTC.out _).mono ?_
  rintro e w1 ⟨rfl, hf⟩
  have HFa := hide hf
  have sa := hf.size
  clear hf
  go_wp2_with fail
  go_at_call 18
  refine (HNW.out _).mono ?_
  rintro e w2 ⟨pa, ga, rfl, hpa, hga, hA, hf⟩
  have HA := hide hA
  have la := hA.row.lt
  have HFb := hide (HFa.out.then_ hf)
  clear hf hA
  go_wp2_with fail
  go_at_call 18
  refine (HNW.out _).mono ?_
  rintro e w3 ⟨pb, gb, rfl, hpb, hgb, hB, hf⟩
  have HT := hide (show TwoAt w3 pa ga pb gb (List.replicate n 0) (List.replicate n 0) from ⟨HA.out.fr hf id id, hB, by omega⟩)
  have HFc := hide (HFb.out.then_ hf)
  have lb := hB.row.lt
  have sc := hf.size
  obtain ⟨q0, q1, q2, q3⟩ := HCL.out _ _ HFc.out id
  clear hf hB HA HFb
  go_wp2_with fail
  go_at_call 19
  refine (HBG.out w3 pa ga pb gb _ _ HT.out (by simp) (by simp)).mono ?_
  rintro e w4 ⟨rfl, hT, hf⟩
  rw [List.length_replicate] at hT
  have HT4 := hide hT
  have HF4 := hide (HFc.out.trans hf (fun k h => .inr (by omega)))
  have s4 := hf.size
  clear hf hT HT HFc q0 q1 q2 q3 HBG HTC HNW HFa
  go_wp2_with fail
  go_loopw [13] (fun i wr => ∃ r : Nat, r ≤ b ∧ i = .int .i64 r ∧ (∀ j, j < r → kdn K n Ls j = false) ∧ Hid (TwoAt wr pa ga pb gb (kst K n Ls r).1 (kst K n Ls r).2 ∧ Fr (fun _ => False) W1 wr)) (fun i _ => b - (intOf i).toNat)
  case atStart => exact ⟨0, by omega, rfl, fun j hj => absurd hj (by omega), HT4.out, HF4.out⟩
  case round =>
    obtain ⟨r, hr, rfl, hno, HI⟩ := hrel
    have HNO := hide hno
    clear hno
    obtain ⟨q0, q1, q2, q3⟩ := HCL.out _ _ HI.out.2 id
    have sI := HI.out.2.size
    obtain ⟨lX, lY⟩ := kst_len HK.out n Ls r
    by_cases hrb : r < b
    · have hd4 : decide ((r : Int) < (b : Int)) = true := by simp; omega
      have hd5 : decide (r < b) = true := by simp; omega
      have HNX := hide (show kst K n Ls (r + 1) = (K.cX (kst K n Ls r).1 (kacc K r (kst K n Ls r).1 (kst K n Ls r).2 Ls), K.cY (kst K n Ls r).1 (kacc K r (kst K n Ls r).1 (kst K n Ls r).2 Ls)) from rfl)
      have HDN := hide (show kdn K n Ls r = K.dn r (kst K n Ls r).1 (kacc K r (kst K n Ls r).1 (kst K n Ls r).2 Ls) from rfl)
      have HLL := hide (kst_len HK.out n Ls (r + 1))
      generalize (kst K n Ls r).1 = X at *
      generalize (kst K n Ls r).2 = Y at *
      go_wp2_with fail
      go_at_call 20
      refine (HBD.out _).mono ?_
      rintro e w5 ⟨rfl, hf⟩
      have HT5 := hide (HI.out.1.still hf)
      have HF5 := hide (HI.out.2.then_ hf)
      have s5 := hf.size
      clear hf HI q0 q1 q2 q3
      go_wp2_with fail
      try simp only [hd4, hd5]
      go_loopw [59] (fun i wr => ∃ j : Nat, j ≤ s ∧ i = .int .i64 j ∧ Hid (TwoAt wr pa ga pb gb X (kacc K r X Y (Ls.take j)) ∧ Fr (fun k => k = gb) w5 wr)) (fun i _ => s - (intOf i).toNat)
      case atStart => exact ⟨0, by omega, rfl, HT5.out, Fr.refl _ _⟩
      case round =>
        obtain ⟨j, hj, rfl, HJ⟩ := hrel
        have HFr := hide (HF5.out.trans HJ.out.2 (fun k h => .inr (by omega)))
        obtain ⟨q0, q1, q2, q3⟩ := HCL.out _ _ HFr.out id
        by_cases hjs : j < s
        · have HSr := hide (HSS.out.fr HFr.out (fun k h => h.elim))
          obtain ⟨b0, o0, fr, to, Ai, m, cc, vs, L, e0, hb0, z0, z1, z2, hfit, hed, hst⟩ := HSr.out.2.2 j hjs
          have HST := hide hst
          have HED := hide hed
          have HFIT := hide hfit
          have lJ : (kacc K r X Y (Ls.take j)).length = n := by rw [kacc_len HK.out]; exact lY
          have bj0 : (0 : Int) ≤ (j : Int) := by omega
          have bj1 : (j : Int) < (s : Int) := by omega
          subst e0
          have HNXT := hide (kacc_take K r X Y Ls (i := j) (by have := HSS.out.1; omega))
          obtain ⟨W6, hW6⟩ : ∃ W6, W6 = wr.alloc (.cells #[.int .i64 fr, .int .i64 to, .slice Ai m cc] 43) := ⟨_, rfl⟩
          have F6 : Fr (fun _ => False) wr W6 := by rw [hW6]; exact (Fr.refl _ _).alloc _
          have HT6 := hide (HJ.out.1.still F6)
          have HF6 := hide (HJ.out.2.then_ F6)
          have x0 := F6.cell q0 id
          rw [hW6] at x0
          have x1 := F6.cell q1 id
          rw [hW6] at x1
          have x2 := F6.cell q2 id
          rw [hW6] at x2
          have x3 := F6.cell q3 id
          rw [hW6] at x3
          have HSTY := hide (fun w' (hf' : Fr (fun k => k = gb) W6 w') => HST.out (fun k => k = gb) w' ((F6.mono (fun k h => h.elim)).trans hf' (fun k h => .inl h)) (fun k h => by omega))
          have HZ6 := hide hW6
          clear hst hed hfit F6 hW6 HJ
          go_wp2_with fail
          try simp only [hd4, hd5]
          go_at_call 21
          rw [← HZ6.out]
          refine (HSH.out W6 pa ga pb gb X (kacc K r X Y (Ls.take j)) fr to Ai m cc vs L r HT6.out lX lJ HSTY.out HFIT.out (by omega)).mono ?_
          rintro e w8 ⟨rfl, hT, hf⟩
          have H8 := hide (show TwoAt w8 pa ga pb gb X (kacc K r X Y (Ls.take (j + 1))) by rw [HNXT.out, ← HED.out]; exact hT)
          have HF8 := hide (HF6.out.trans hf (fun k h => .inl h))
          clear hT hf x0 x1 x2 x3 z0 z1 z2 q0 q1 q2 q3
          go_wp2
          try simp only [hd4, hd5]
          go_roundw
          case rel => exact ⟨j + 1, by omega, by go_num, H8.out, HF8.out⟩
          case measure => simp [intOf]; omega
        · obtain rfl : j = s := by omega
          have HJT := hide (show TwoAt wr pa ga pb gb X (kacc K r X Y Ls) from by
            have := HJ.out.1
            rwa [List.take_of_length_le (by have := HSS.out.1; omega)] at this)
          have lJ : (kacc K r X Y Ls).length = n := by rw [kacc_len HK.out]; exact lY
          clear HJ
          generalize kacc K r X Y Ls = ac at *
          go_wp2_with fail
          go_at_call 22
          refine (HCM.out _ pa ga pb gb X ac r HJT.out lX lJ (by omega)).mono ?_
          rintro e w7 ⟨rfl, hT, hf⟩
          have HT7 := hide hT
          have HF7 := hide (HFr.out.trans hf (fun k h => .inr (by omega)))
          have s7 := hf.size
          have s7' := HFr.out.size
          clear hT hf q0 q1 q2 q3 HJT
          generalize K.dn r X ac = dd at *
          rcases dd with _ | _
          · go_wp2
            try simp only [hd4, hd5]
            go_roundw
            case rel => exact ⟨r + 1, by omega, by go_num, fun j hj => by
              by_cases hjr : j = r
              · subst hjr; exact HDN.out
              · exact HNO.out j (by omega), by rw [HNX.out]; exact HT7.out, HF7.out⟩
            case measure => simp [intOf]; omega
          · have HSTOP := hide (stop_some hrb HDN.out HNO.out)
            have lZ := HLL.out.1
            rw [HNX.out] at lZ
            simp only at lZ
            go_wp2_with fail
            go_at_call 23
            refine (numbers_in HT7.out.a).mono ?_
            rintro e w8 ⟨B, d, rfl, hR, hf⟩
            rw [lZ] at hR ⊢
            have HR := hide (hR.less (lo' := w.heap.size) (by omega))
            have HF8 := hide (F1.out.trans (HF7.out.then_ hf) (fun k h => h.elim))
            clear hR hf
            go_wp2
            go_ret3
            refine ⟨B, d, ?_, ?_, HF8.out⟩
            · rw [HSTOP.out]; go_num
            · rw [HSTOP.out, HNX.out]; exact HR.out
    · obtain rfl : r = b := by omega
      have HSTOP := hide (stop_none HNO.out)
      have hd4 : decide ((r : Int) < (r : Int)) = false := by simp
      generalize hX : (kst K n Ls r).1 = X at *
      generalize (kst K n Ls r).2 = Y at *
      go_wp2_with fail
      go_at_call 20
      refine (HBD.out _).mono ?_
      rintro e w5 ⟨rfl, hf⟩
      have HT5 := hide (HI.out.1.still hf)
      have HF5 := hide (HI.out.2.then_ hf)
      have s5 := hf.size
      have HX := hide hX
      clear hf HI q0 q1 q2 q3 hX
      go_wp2_with fail
      refine wp_region_ord [(0, true), (1, true), (3, true), (4, true), (2, false), (5, false), (6, true), (7, true), (8, true)] (fun W => Fr (fun _ => False) W1 W) (by kernel_rfl) (by kernel_rfl) HF5.out.drew ?_
      iterate 4
        refine ord_read rfl ?_ ?_ (fun W hS => ?_) ?_
        · rfl
        rotate_left
        · (obtain ⟨s0, s1, s2, s3⟩ := HCL.out _ _ hS id; go_simp; try with_reducible rfl)
        simp only [List.getElem_toArray, List.getElem_cons_zero, List.getElem_cons_succ, Act.put, List.setIfInBounds_toArray, List.set_cons_zero, List.set_cons_succ]
      refine ord_act rfl ?_
      go_wp2_with fail
      go_at_call 23
      refine (numbers_in (HT5.out.a.fr (Fr.refl (fun _ => False) _).drew id id)).mono ?_
      rintro e w8 ⟨B, d, rfl, hR, hf⟩
      rw [lX] at hR ⊢
      have HR := hide (hR.less (lo' := w.heap.size) (by show w.heap.size ≤ w5.heap.size; omega))
      have HF8 := hide (HF5.out.drew.then_ hf)
      clear hR hf
      go_wp2
      refine midQ_ok HF8.out ?_
      refine ord_act rfl ?_
      go_wp2_with fail
      go_at_call 20
      refine (HBD.out _).mono ?_
      rintro e w9 ⟨rfl, hf⟩
      have HR9 := hide (HR.out.fr hf (fun k h => h.elim))
      have HF9 := hide (HF8.out.then_ hf)
      clear hf
      go_wp2
      refine midQ_ok HF9.out ?_
      iterate 3
        refine ord_read rfl ?_ ?_ (fun W hS => ?_) ?_
        · rfl
        rotate_left
        · (skip; go_simp; try with_reducible rfl)
        simp only [List.getElem_toArray, List.getElem_cons_zero, List.getElem_cons_succ, Act.put, List.setIfInBounds_toArray, List.set_cons_zero, List.set_cons_succ]
      refine ord_done ?_
      refine NoPanic.normal ?_
      go_wp2
      go_ret3
      refine ⟨B, d, ?_, ?_, F1.out.trans HF9.out (fun k h => h.elim)⟩
      · rw [HSTOP.out]; rfl
      · rw [HSTOP.out, HX.out]; exact HR9.out
end Go.Proofs.YtjdbjahgimlhbaaGreat
end
