/- carousellaw17.Shards, by contract. -/
import Derived.Test.YtjdbjahgimlhbaaCut
import Derived.Test.YtjdbjahgimlhbaaMake
set_option linter.unusedVariables false
set_option maxRecDepth 100000
namespace Go.Proofs.Ytjdbjahgimlhbaa
open Go.RowKit
open Gr (E outs lists)

/-- shards, one behind the other: from, to, lists -/
def shc (n s : Nat) : Nat → List Nat → List Value
  | _, [] => []
  | k, b :: bs => .int .i64 ((Gr.cut n s k : Nat) : Int) :: .int .i64 ((Gr.cut n s (k + 1) : Nat) : Int) :: .slice (some ⟨b, 0, none⟩) (Gr.cut n s (k + 1) - Gr.cut n s k) (Gr.cut n s (k + 1) - Gr.cut n s k) :: shc n s (k + 1) bs
theorem shc_snoc (n s B : Nat) : ∀ (bs : List Nat) (k : Nat), shc n s k (bs ++ [B]) = shc n s k bs ++ [.int .i64 ((Gr.cut n s (k + bs.length) : Nat) : Int), .int .i64 ((Gr.cut n s (k + bs.length + 1) : Nat) : Int), .slice (some ⟨B, 0, none⟩) (Gr.cut n s (k + bs.length + 1) - Gr.cut n s (k + bs.length)) (Gr.cut n s (k + bs.length + 1) - Gr.cut n s (k + bs.length))]
  | [], k => rfl
  | b :: bs, k => by
    simp only [List.cons_append, shc, shc_snoc n s B bs (k + 1), List.length_cons]
    rw [show k + 1 + bs.length = k + (bs.length + 1) by omega]
theorem shc_at (n s : Nat) : ∀ (bs : List Nat) (k j : Nat), j < bs.length → (shc n s k bs)[j * 3]? = some (.int .i64 ((Gr.cut n s (k + j) : Nat) : Int)) ∧ (shc n s k bs)[j * 3 + 1]? = some (.int .i64 ((Gr.cut n s (k + j + 1) : Nat) : Int)) ∧
    (shc n s k bs)[j * 3 + 2]? = some (.slice (some ⟨bs.getD j 0, 0, none⟩) (Gr.cut n s (k + j + 1) - Gr.cut n s (k + j)) (Gr.cut n s (k + j + 1) - Gr.cut n s (k + j)))
  | [], k, j, h => absurd h (by simp)
  | b :: bs, k, 0, h => by simp [shc]
  | b :: bs, k, j + 1, h => by
    have := shc_at n s bs (k + 1) j (by simpa using h)
    rw [show k + 1 + j = k + (j + 1) by omega] at this
    rw [show (j + 1) * 3 = j * 3 + 1 + 1 + 1 by omega, show j * 3 + 1 + 1 + 1 + 1 = (j * 3 + 1) + 1 + 1 + 1 by omega, show j * 3 + 1 + 1 + 1 + 2 = (j * 3 + 2) + 1 + 1 + 1 by omega]
    simpa [shc] using this
/-- shards in memory, all of it below K -/
def ShardsAt (w : World) (K : Nat) (A : Option Addr) (n s : Nat) (l : List E) : Prop :=
  K ≤ w.heap.size ∧ ∃ b o, A = some ⟨b, o, none⟩ ∧ b < K ∧ ∀ j, j < s → ∃ A', w.cell? ⟨b, o + j * 3, none⟩ = some (.int .i64 ((Gr.cut n s j : Nat) : Int)) ∧ w.cell? ⟨b, o + j * 3 + 1, none⟩ = some (.int .i64 ((Gr.cut n s (j + 1) : Nat) : Int)) ∧
    w.cell? ⟨b, o + j * 3 + 2, none⟩ = some (.slice A' (Gr.cut n s (j + 1) - Gr.cut n s j) (Gr.cut n s (j + 1) - Gr.cut n s j)) ∧ ListsAt w K A' (Gr.cut n s (j + 1) - Gr.cut n s j) (Gr.shardL l n s j)
theorem ShardsAt.fr {S : Nat → Prop} {w w' : World} {K n s : Nat} {A : Option Addr} {l : List E} (h : ShardsAt w K A n s l) (hf : Fr S w w') (hs : ∀ k, S k → K ≤ k) : ShardsAt w' K A n s l := by
  obtain ⟨h0, b, o, h1, h2, h3⟩ := h
  have hn : ¬ S b := fun h => by have := hs _ h; omega
  refine ⟨Nat.le_trans h0 hf.size, b, o, h1, h2, fun j hj => ?_⟩
  obtain ⟨A', e1, e2, e3, e4⟩ := h3 j hj
  exact ⟨A', hf.cell e1 hn, hf.cell e2 hn, hf.cell e3 hn, e4.fr hf h0 hs⟩
theorem shards_of_own {w : World} {base n s c : Nat} {A : Option Addr} {bs : List Nat} {l : List E} (h0 : 0 < s) (hb : bs.length = s) (ho : w.ownsRow base 45 3 (.slice A s c) s (shc n s 0 bs))
    (hl : ∀ j, j < s → ListsAt w w.heap.size (some ⟨bs.getD j 0, 0, none⟩) (Gr.cut n s (j + 1) - Gr.cut n s j) (Gr.shardL l n s j)) : ShardsAt w w.heap.size A n s l := by
  obtain ⟨b, o, e, hlt, hc⟩ := (Reads.of_own ho).2 h0
  refine ⟨Nat.le_refl _, b, o, e, hlt, fun j hj => ?_⟩
  obtain ⟨h1, h2, h3⟩ := shc_at n s bs 0 j (by omega)
  rw [Nat.zero_add] at h1 h2 h3
  exact ⟨_, hc _ _ h1, by have := hc _ _ h2; rwa [← Nat.add_assoc] at this, by have := hc _ _ h3; rwa [← Nat.add_assoc] at this, hl j hj⟩
theorem shard_info : (Try.prog.info? 45).map (fun i => (i.zero, i.size, i.bytes)) = some (some (.agg #[.int .i64 0, .int .i64 0, .slice none 0 0]), 3, 40) := by kernel_rfl
/-- how many shards -/
def shN (n many : Nat) : Nat := 1 + many % min n 16
theorem shN_ok {n : Nat} (h : 1 ≤ n) (many : Nat) : 1 ≤ shN n many ∧ shN n many ≤ n ∧ shN n many ≤ 16 := by
  have := Nat.mod_lt many (show 0 < min n 16 by omega)
  unfold shN
  omega
set_option maxHeartbeats 400000 in
theorem shards_any (A : Option Addr) (n q c many : Nat) (l : List E) (w : World) (h : EdgesAt w A l) (hm : l.length = q) (hmx : q ≤ 4000) (hs : Gr.Sorted l) (hn : 1 ≤ n) (hn2 : n ≤ 60) (hmany : many < 256) (hE : ∀ e ∈ l, e.1 < n ∧ e.2 < n ∧ e.1 ≠ e.2) :
    Calls Try.prog 18 #[.int .i64 (n : Int), .slice A q c, .int .u8 (many : Int)] w fun e w' => ∃ A' c', e = .returned (.slice A' (shN n many) c') ∧ ShardsAt w' w'.heap.size A' n (shN n many) l ∧ Fr (fun _ => False) w w' := by
  have H := hide h
  have HM := hide hm
  have HS := hide hs
  have HE := hide hE
  obtain ⟨h1s, hsn, hs16⟩ := shN_ok hn many
  obtain ⟨i0, hi, hz0, hz1, hz2⟩ := info_parts shard_info
  clear h hm hs hE
  have hg : wrap64 (1 + (many : Int) % min (n : Int) 16) = ((shN n many : Nat) : Int) := by
    have e : min (n : Int) 16 = ((min n 16 : Nat) : Int) := by omega
    have e2 : (many : Int) % ((min n 16 : Nat) : Int) = ((many % min n 16 : Nat) : Int) := rfl
    rw [e, e2]
    unfold shN at *
    unfold wrap64
    omega
  generalize shN n many = s at *
  go_enter Try.func18, Try.ntmps18
  go_wp2_with fail
  go_at_call 50
  rw [hg]
  refine (cut_any n s _ h1s hsn hs16 (by omega)).mono ?_
  rintro e w1 ⟨g, rfl, hg1, hp, hf⟩
  have HP := hide hp
  have HF := hide hf
  have lg := hp.1
  clear hp hf
  go_wp2_with fail
  go_loopw [9, 10] (fun v i wr => ∃ (k : Nat) (bs : List Nat) (A' : Option Addr) (c' : Nat), k ≤ s ∧ i = .int .i64 k ∧ v = .slice A' k c' ∧ bs.length = k ∧ Hid (wr.ownsRow w1.heap.size 45 3 (.slice A' k c') k (shc n s 0 bs) ∧ (∀ j, j < k → ∃ lo hi, ListsIn wr lo hi (some ⟨bs.getD j 0, 0, none⟩) (Gr.cut n s (j + 1) - Gr.cut n s j) (Gr.shardL l n s j) ∧ hi ≤ wr.heap.size ∧ ∀ g, (Value.slice A' k c').ownBlock = some g → g < lo ∨ hi ≤ g) ∧ Fr (fun _ => False) w1 wr)) (fun _ i _ => s - (intOf i).toNat)
  case atStart => exact ⟨0, [], none, 0, by omega, rfl, rfl, rfl, World.ownsRow_nil _ _ _ _, fun j h => absurd h (by omega), Fr.refl _ _⟩
  case round =>
    obtain ⟨k, bs, A', c', hk, rfl, rfl, hbs, HI⟩ := hrel
    by_cases hlt : k < s
    · have HPk := hide ((HP.out.fr HI.out.2.2 (fun h => h)).2 k hlt)
      have p0 := HPk.out.1
      have p1 := HPk.out.2
      have hlt2 := Gr.cut_lt (n := n) (s := s) (k := k) (by omega) hsn
      have hle2 := Gr.cut_le (n := n) (s := s) (k := k + 1) (by omega) (by omega)
      go_wp2_with fail
      go_at_call 51
      refine (make_any A q c (Gr.cut n s k) (Gr.cut n s (k + 1)) l _ (H.out.up (HF.out.then_ HI.out.2.2)) HM.out hmx HS.out hlt2 (by omega) (fun e he => by have := HE.out e he; omega)).mono ?_
      rintro e w2 ⟨B, rfl, hl2, hf2⟩
      obtain ⟨m, hm⟩ : ∃ m, Gr.cut n s (k + 1) - Gr.cut n s k = m := ⟨_, rfl⟩
      have HL2 := hide hl2
      have HF2 := hide (HI.out.2.2.then_ hf2)
      have hown2 := own_fr HI.out.1 hf2
      have hf2w := hide hf2
      have hb2 := HF2.out.size
      rw [hm]
      clear hl2 hf2 p0 p1
      go_wp2_with (at_builtin; refine wpList_append_box w2 _ _ rfl (.tmp 30) (.tmp 37) _ rfl w1.heap.size 45 i0 _ 3 40 Try.underlying29 hi hz0 hz1 hz2 rfl (by decide) _ _ _ rfl hown2 rfl rfl ?xc1 ?xc2 ?xc3 ?xc4 ?xc5)
      case xc1 => simp [Value.oneCell']
      case xc2 => unfold maxLen; omega
      case xc3 => omega
      case xc4 => exact hb2
      case xc5 =>
        intro v3 w3 hown3 hg3 hn3
        have F3 : Fr (fun _ => False) w1 w3 := HF2.out.grown hg3 (fun k hk => .inr ((hown2.lt k hk).1))
        obtain ⟨A3, c3, rfl⟩ := Reads.own_val hown3
        have HI3 := hide (show w3.ownsRow w1.heap.size 45 3 (.slice A3 (k + 1) c3) (k + 1) (shc n s 0 (bs ++ [B])) ∧ (∀ j, j < k + 1 → ∃ lo hi, ListsIn w3 lo hi (some ⟨(bs ++ [B]).getD j 0, 0, none⟩) (Gr.cut n s (j + 1) - Gr.cut n s j) (Gr.shardL l n s j) ∧ hi ≤ w3.heap.size ∧ ∀ g, (Value.slice A3 (k + 1) c3).ownBlock = some g → g < lo ∨ hi ≤ g) ∧ Fr (fun _ => False) w1 w3 from by
          refine ⟨?_, fun j hj => ?_, F3⟩
          · rw [shc_snoc, hbs, Nat.zero_add, hm]
            exact hown3
          · have F23 : Fr (fun g => (Value.slice A' k c').ownBlock = some g) w2 w3 := Fr.of_grown hg3
            have hnew : ∀ g, (Value.slice A3 (k + 1) c3).ownBlock = some g → (Value.slice A' k c').ownBlock = some g ∨ w2.heap.size ≤ g := fun g hg => by
              rcases hn3 with h | h
              · rw [h] at hg; exact .inl hg
              · rw [h] at hg; obtain rfl := Option.some.inj hg; exact .inr (by omega)
            by_cases hjk : j = k
            · subst hjk
              have e1 : (bs ++ [B]).getD j 0 = B := by simp [List.getD, ← hbs]
              rw [e1]
              refine ⟨wr.heap.size, w2.heap.size, HL2.out.fr F23 (fun g h1 h2 h3 => by have := (HI.out.1.lt g h3).2; omega), F23.size, fun g hg => ?_⟩
              rcases hnew g hg with h | h
              · exact .inl (HI.out.1.lt g h).2
              · exact .inr h
            · have hj2 : j < k := by omega
              have e1 : (bs ++ [B]).getD j 0 = bs.getD j 0 := by simp [List.getD, List.getElem?_append_left (show j < bs.length by omega)]
              rw [e1]
              obtain ⟨lo, hi', q1, q2, q3⟩ := HI.out.2.1 j hj2
              have hsz := hf2w.out.size
              refine ⟨lo, hi', (q1.fr hf2w.out (fun _ _ _ h => h)).fr F23 (fun g h1 h2 h3 => by have := q3 g h3; omega), by have := F23.size; omega, fun g hg => ?_⟩
              rcases hnew g hg with h | h
              · exact q3 g h
              · exact .inr (by omega))
        clear hown2 hown3 hg3 F3 hn3
        go_wp2
        go_roundw
        case rel => exact ⟨k + 1, bs ++ [B], A3, c3, by omega, by go_num, rfl, by simp [hbs], HI3.out⟩
        case measure => simp [intOf]; omega
    · obtain rfl : k = s := by omega
      have h0k : 0 < k := h1s
      have HA := hide (shards_of_own h0k hbs HI.out.1 (fun j hj => (HI.out.2.1 j hj).elim fun _ h => h.elim fun _ h => h.1.lists))
      have HFF := hide (HF.out.then_ HI.out.2.2)
      clear HI
      go_wp2
      go_ret
      exact ⟨_, _, rfl, HA.out, HFF.out⟩
end Go.Proofs.Ytjdbjahgimlhbaa
