/- THE CACHE, plain: a page with pins stays; what is there is what its file's page has; which keys have how many pins; the last ones are there. -/
import Derived.Test.YtkhbemmcegmdaaaGreatDoorCp
set_option linter.all false
set_option linter.unusedVariables false
set_option maxRecDepth 100000
namespace Go.Proofs.YtkhbemmcegmdaaaGreatDoor
/-- a page with pins, and what it has -/
def Stay (k : CKey) (d : List UInt8) (s : CSt) : Prop := ∃ x ∈ s.L, x.key = k ∧ x.data = d ∧ x.pins ≠ 0
theorem Stay.find {room : Int} {most : Nat} {s : CSt} {k : CKey} {d : List UInt8} (h : Stay k d s) (hI : CInv room most s) (j : CKey) : Stay k d (cfind most j s).2 := by
  have hw := cfind_ways most j s hI.nd
  generalize (cfind most j s).1 = e at hw
  generalize (cfind most j s).2 = s' at hw
  obtain ⟨x, hx, h1, h2, h3⟩ := h
  cases hw with
  | there y hy hk =>
    by_cases e : x.key = y.key
    · have : x = y := by
        have e1 := (get_some_iff hI.nd).2 ⟨hx, e⟩
        have e2 := (get_some_iff hI.nd).2 ⟨hy, rfl⟩
        rw [e1] at e2
        exact Option.some.inj e2
      subst this
      exact ⟨x, by simp, h1, h2, h3⟩
    · exact ⟨x, List.mem_append_left _ (wo_mem.2 ⟨hx, by rw [← hk]; exact e⟩), h1, h2, h3⟩
  | full => exact ⟨x, hx, h1, h2, h3⟩
  | none => exact ⟨x, hx, h1, h2, h3⟩
  | fail => exact ⟨x, hx, h1, h2, h3⟩
  | bad => exact ⟨x, hx, h1, h2, h3⟩
  | come => exact ⟨x, List.mem_append_left _ (room_pinned hx h3 hI.nd), h1, h2, h3⟩
theorem Stay.map {k : CKey} {d : List UInt8} {s : CSt} (h : Stay k d s) {j : CKey} {f : CE → CE} (hk : ∀ x, (f x).key = x.key) (hd : ∀ x, (f x).data = x.data) (hp : j = k → ∀ x, x.pins ≠ 0 → (f x).pins ≠ 0) : ∃ x ∈ lmap j f s.L, x.key = k ∧ x.data = d ∧ x.pins ≠ 0 := by
  obtain ⟨x, hx, h1, h2, h3⟩ := h
  refine ⟨if x.key = j then f x else x, List.mem_map_of_mem (f := fun x => if x.key = j then f x else x) hx, ?_⟩
  split
  · next e => exact ⟨by rw [hk, h1], by rw [hd, h2], hp (by rw [← e, h1]) x h3⟩
  · exact ⟨h1, h2, h3⟩
theorem Stay.step {room : Int} {most : Nat} {s : CSt} {n : Name} {i : Int} {d : List UInt8} (h : Stay (n, i) d s) (hI : CInv room most s) (a : CAct) (ha : a.name = n → a.kind % 10 ≠ 3 ∧ a.kind % 10 ≠ 4 ∧ a.kind % 10 ≠ 5) : Stay (n, i) d (cstep room most a s).2.2 := by
  have hk : a.key = (n, i) → a.name = n := fun e => congrArg Prod.fst e
  unfold cstep
  rcases kind_cases a.kind with e | e | e | e | e | e | e | e | e | e <;> rw [e] <;> simp only <;> rw [e] at ha
  · unfold cget; split <;> exact h.find hI _
  · unfold cget; split <;> exact h.find hI _
  · unfold cpin; split
    · exact (h.find hI a.key).map (fun _ => rfl) (fun _ => rfl) (fun _ x _ => by simp)
    · exact h.find hI _
  · unfold cunpin; split
    · split
      · exact h
      · exact h.map (fun _ => rfl) (fun _ => rfl) (fun e => absurd rfl (ha (hk e)).1)
    · exact h
  · have hw := cput_ways room most a.key a.data s hI.nd
    generalize (cput room most a.key a.data s).1 = e at hw
    generalize (cput room most a.key a.data s).2 = s' at hw
    obtain ⟨x, hx, h1, h2, h3⟩ := h
    cases hw with
    | long => exact ⟨x, hx, h1, h2, h3⟩
    | full => exact ⟨x, hx, h1, h2, h3⟩
    | bad => exact ⟨x, hx, h1, h2, h3⟩
    | there _ y hy hyk => exact ⟨x, List.mem_append_left _ (wo_mem.2 ⟨hx, fun e => absurd rfl (ha (hk (by rw [← e, h1]))).2.1⟩), h1, h2, h3⟩
    | come => exact ⟨x, List.mem_append_left _ (room_pinned hx h3 hI.nd), h1, h2, h3⟩
  · obtain ⟨x, hx, h1, h2, h3⟩ := h
    refine ⟨x, List.mem_filter.2 ⟨hx, ?_⟩, h1, h2, h3⟩
    have : ¬ a.name = n := fun e => absurd rfl (ha e).2.2
    simp [h1]
    exact Ne.symm this
  all_goals exact h
theorem Stay.pinned {k : CKey} {d : List UInt8} {s : CSt} (h : Stay k d s) : 1 ≤ (s.L.filter fun x => decide (0 < x.pins)).length := by
  obtain ⟨x, hx, h1, h2, h3⟩ := h
  have : x ∈ s.L.filter fun x => decide (0 < x.pins) := List.mem_filter.2 ⟨hx, by simp; omega⟩
  exact List.length_pos_of_mem this
theorem Stay.got {room : Int} {most : Nat} {s : CSt} {k : CKey} {d : List UInt8} (h : Stay k d s) (hI : CInv room most s) : (cget most k s).1 = d ∧ (cget most k s).2.1 = 0 := by
  obtain ⟨x, hx, h1, h2, h3⟩ := h
  have hg := (get_some_iff hI.nd).2 ⟨hx, h1⟩
  have hc : cfind most k s = (0, { s with L := luse k id s.L, clk := s.clk + 1 }) := by unfold cfind; rw [hg, if_pos (by rfl)]
  subst h1
  unfold cget
  rw [hc, if_pos rfl]
  simp only
  rw [use_len hI.nd hx]
  exact ⟨by rw [data_last (by rfl) (fun y hy => (wo_mem.1 hy).2)]; exact h2, trivial⟩
/-- behind a put it is there -/
theorem put_there {room : Int} {most : Nat} {k : CKey} {d : List UInt8} {s : CSt} (hn : (s.L.map (·.key)).Nodup) (h0 : (cput room most k d s).1 = 0) : ∃ x ∈ (cput room most k d s).2.L, x.key = k ∧ x.data = d := by
  have hw := cput_ways room most k d s hn
  generalize (cput room most k d s).1 = e at *
  generalize (cput room most k d s).2 = s' at *
  cases hw with
  | long => cases h0
  | full => cases h0
  | bad _ _ h => exact absurd h0 h
  | there h x hx hk => exact ⟨{ x with data := d }, List.mem_append_right _ (by simp), hk, rfl⟩
  | come => exact ⟨⟨k, d, 0⟩, List.mem_append_right _ (by simp), rfl, rfl⟩
theorem put_err {room : Int} {most : Nat} {k : CKey} {d : List UInt8} {s : CSt} (hn : (s.L.map (·.key)).Nodup) (hd : d.length ≤ 122) (hm : nameB k.1 = true) (hi : k.2 = 0) (h0 : (cput room most k d s).1 ≠ 0) : (cput room most k d s).1 = 70 ∨ (cput room most k d s).1 = 61 := by
  have hw := cput_ways room most k d s hn
  generalize (cput room most k d s).1 = e at *
  generalize (cput room most k d s).2 = s' at *
  cases hw with
  | long h => omega
  | full => exact .inl rfl
  | bad h _ h2 =>
    right
    unfold fsput at h2 ⊢
    rw [if_neg (by simp [hm, hi, encB_len hd])] at h2 ⊢
    split at h2
    · exact absurd rfl h2
    · next hn =>
      rw [if_neg hn]
      split at h2
      · next ht => rw [if_pos ht]
      · exact absurd rfl h2
  | there => exact absurd rfl h0
  | come => exact absurd rfl h0
theorem pin_there {room : Int} {most : Nat} {k : CKey} {d : List UInt8} {s : CSt} (hI : CInv room most s) (h : ∃ x ∈ s.L, x.key = k ∧ x.data = d) : (cpin most k s).1 = d ∧ (cpin most k s).2.1 = 0 ∧ Stay k d (cpin most k s).2.2 := by
  obtain ⟨x, hx, h1, h2⟩ := h
  have hg := (get_some_iff hI.nd).2 ⟨hx, h1⟩
  have hc : cfind most k s = (0, { s with L := luse k id s.L, clk := s.clk + 1 }) := by unfold cfind; rw [hg, if_pos (by rfl)]
  subst h1
  unfold cpin
  rw [hc, if_pos rfl]
  simp only
  rw [use_len hI.nd hx]
  refine ⟨by rw [data_last (by rfl) (fun y hy => (wo_mem.1 hy).2)]; exact h2, trivial, { x with pins := x.pins + 1 }, ?_, rfl, h2, by simp⟩
  unfold lmap
  refine List.mem_map.2 ⟨x, by simp, by rw [if_pos rfl]⟩
/-- what is there is what its file's page has -/
def Same (F : FileL) (x : CE) : Prop := 0 ≤ x.key.2 ∧ x.key.2 < ((fpg x.key.1 F).length : Int) ∧ pageB ((fpg x.key.1 F).getD x.key.2.toNat []) = true ∧ datB ((fpg x.key.1 F).getD x.key.2.toNat []) = x.data
def AllSame (s : CSt) : Prop := ∀ x ∈ s.L, Same s.F x
theorem AllSame.find {room : Int} {most : Nat} {s : CSt} (h : AllSame s) (hI : CInv room most s) (j : CKey) : AllSame (cfind most j s).2 := by
  have hw := cfind_ways most j s hI.nd
  generalize (cfind most j s).1 = e at hw
  generalize (cfind most j s).2 = s' at hw
  cases hw with
  | there y hy hk =>
      intro x hx
      rcases List.mem_append.1 hx with hx | hx
      · exact h x (wo_mem.1 hx).1
      · rw [List.mem_singleton] at hx; rw [hx]; exact h y hy
  | full => exact h
  | none => exact h
  | fail => exact h
  | bad => exact h
  | come hn hf hi hl hp =>
      intro x hx
      rcases List.mem_append.1 hx with hx | hx
      · exact h x ((room_sub _ _).subset hx)
      · rw [List.mem_singleton] at hx; rw [hx]; exact ⟨hi.1, hi.2, hp, rfl⟩
theorem AllSame.map {s : CSt} (h : AllSame s) {j : CKey} {f : CE → CE} (hk : ∀ x, (f x).key = x.key) (hd : ∀ x, (f x).data = x.data) : ∀ x ∈ lmap j f s.L, Same s.F x := by
  intro x hx
  obtain ⟨y, hy, ⟨_, rfl⟩ | ⟨_, rfl⟩⟩ := map_mem hx
  · have := h y hy
    unfold Same at this ⊢
    rw [hk, hd]
    exact this
  · exact h _ hy
theorem fsput_same {room : Int} {F : FileL} {k : CKey} {d : List UInt8} (hd : d.length ≤ 122) (h0 : (fsput room F k.1 k.2 (encB d)).1 = 0) (x : CE) :
    (x.key ≠ k → Same F x → Same (fsput room F k.1 k.2 (encB d)).2 x) ∧ (x.key = k → x.data = d → Same (fsput room F k.1 k.2 (encB d)).2 x) := by
  unfold fsput at h0 ⊢
  split at h0
  · cases h0
  · next hb =>
    rw [if_neg hb]
    simp only [not_or, Bool.not_eq_false, Int.not_lt] at hb
    obtain ⟨h1, h2, h3, h4⟩ := hb
    have hkey : x.key.1 = k.1 → x.key ≠ k → x.key.2 ≠ k.2 := fun e hne e2 => hne (Prod.ext e e2)
    split at h0
    · next hi =>
      rw [if_pos hi]
      constructor
      · rintro hne ⟨a1, a2, a3, a4⟩
        unfold Same
        rw [fpg_put]
        by_cases e : x.key.1 = k.1
        · have hne2 := hkey e hne
          rw [if_pos e]
          rw [e] at a2 a3 a4
          have e1 : ((fpg k.1 F).set k.2.toNat (encB d)).getD x.key.2.toNat [] = (fpg k.1 F).getD x.key.2.toNat [] := by
            simp only [List.getD_eq_getElem?_getD]
            rw [List.getElem?_set_ne (by omega)]
          rw [e1, List.length_set]
          exact ⟨a1, a2, a3, a4⟩
        · rw [if_neg e]; exact ⟨a1, a2, a3, a4⟩
      · intro e hdd
        unfold Same
        rw [fpg_put, e, if_pos rfl]
        have hlt : k.2.toNat < (fpg k.1 F).length := by omega
        have e1 : ((fpg k.1 F).set k.2.toNat (encB d)).getD k.2.toNat [] = encB d := by
          simp only [List.getD_eq_getElem?_getD]
          rw [List.getElem?_set_self hlt]
          rfl
        rw [e1, List.length_set]
        exact ⟨h2, hi, page_enc hd, by rw [dat_enc hd, hdd]⟩
    · next hi =>
      rw [if_neg hi]
      split at h0
      · cases h0
      · next ht =>
        rw [if_neg ht]
        constructor
        · rintro hne ⟨a1, a2, a3, a4⟩
          unfold Same
          rw [fpg_put]
          by_cases e : x.key.1 = k.1
          · rw [if_pos e]
            rw [e] at a2 a3 a4
            have e1 : (fpg k.1 F ++ [encB d]).getD x.key.2.toNat [] = (fpg k.1 F).getD x.key.2.toNat [] := by
              simp only [List.getD_eq_getElem?_getD]
              rw [List.getElem?_append_left (by omega)]
            rw [e1, List.length_append]
            exact ⟨a1, by simp; omega, a3, a4⟩
          · rw [if_neg e]; exact ⟨a1, a2, a3, a4⟩
        · intro e hdd
          unfold Same
          rw [fpg_put, e, if_pos rfl]
          have e1 : (fpg k.1 F ++ [encB d]).getD k.2.toNat [] = encB d := by
            have : k.2.toNat = (fpg k.1 F).length := by omega
            simp only [List.getD_eq_getElem?_getD]
            rw [this, List.getElem?_append_right (Nat.le_refl _), Nat.sub_self]
            rfl
          rw [e1, List.length_append]
          exact ⟨h2, by simp; omega, page_enc hd, by rw [dat_enc hd, hdd]⟩
theorem AllSame.step {room : Int} {most : Nat} {s : CSt} (h : AllSame s) (hI : CInv room most s) (a : CAct) (ha : a.kind % 10 ≠ 6 ∧ a.kind % 10 ≤ 7) : AllSame (cstep room most a s).2.2 := by
  unfold cstep
  rcases kind_cases a.kind with e | e | e | e | e | e | e | e | e | e <;> rw [e] <;> simp only <;> rw [e] at ha
  · unfold cget; split <;> exact h.find hI _
  · unfold cget; split <;> exact h.find hI _
  · unfold cpin; split
    · exact (h.find hI a.key).map (fun _ => rfl) (fun _ => rfl)
    · exact h.find hI _
  · unfold cunpin; split
    · split
      · exact h
      · exact h.map (fun _ => rfl) (fun _ => rfl)
    · exact h
  · have hw := cput_ways room most a.key a.data s hI.nd
    generalize (cput room most a.key a.data s).1 = e at hw
    generalize (cput room most a.key a.data s).2 = s' at hw
    cases hw with
    | long => exact h
    | full => exact h
    | bad => exact h
    | there hd y hy hyk h0 =>
    intro x hx
    rcases List.mem_append.1 hx with hx | hx
    · exact (fsput_same hd h0 x).1 (wo_mem.1 hx).2 (h x (wo_mem.1 hx).1)
    · rw [List.mem_singleton] at hx; rw [hx]; exact (fsput_same hd h0 { y with data := a.data }).2 hyk rfl
    | come hd hn hf h0 =>
    intro x hx
    rcases List.mem_append.1 hx with hx | hx
    · have hx2 := (room_sub _ _).subset hx
      exact (fsput_same hd h0 x).1 (hn x hx2) (h x hx2)
    · rw [List.mem_singleton] at hx; rw [hx]; exact (fsput_same hd h0 ⟨a.key, a.data, 0⟩).2 rfl rfl
  · exact fun x hx => h x (List.mem_filter.1 hx).1
  · omega
  · exact h
  · omega
  · omega
theorem find_same {room : Int} {most : Nat} {s : CSt} {k : CKey} (h : AllSame s) (hI : CInv room most s) (h0 : (cfind most k s).1 = 0) : ∃ x, x ∈ (cfind most k s).2.L ∧ x.key = k ∧ ldata k (cfind most k s).2.L = x.data ∧ Same (cfind most k s).2.F x := by
  obtain ⟨M, x, e, hx, hM, _⟩ := cfind_last hI.nd h0
  have hx2 : x ∈ (cfind most k s).2.L := by rw [e]; simp
  exact ⟨x, hx2, hx, by rw [e]; exact data_last hx hM, h.find hI k x hx2⟩
/-- what is got is what the file's page has -/
theorem got_same {room : Int} {most : Nat} {s : CSt} {a : CAct} (h : AllSame s) (hI : CInv room most s) (ha : a.kind % 10 ≤ 2) (h0 : (cstep room most a s).2.1 = 0) :
    let s' := (cstep room most a s).2.2
    0 ≤ a.i ∧ a.i < ((fpg a.name s'.F).length : Int) ∧ pageB ((fpg a.name s'.F).getD a.i.toNat []) = true ∧ datB ((fpg a.name s'.F).getD a.i.toNat []) = (cstep room most a s).1 ∧ (lget a.key s'.L).isSome = true := by
  have key : ∀ (L' : List CE) (F' : FileL) (x y : CE), x.key = a.key → Same F' x → y ∈ L' → y.key = a.key → 0 ≤ a.i ∧ a.i < ((fpg a.name F').length : Int) ∧ pageB ((fpg a.name F').getD a.i.toNat []) = true ∧ datB ((fpg a.name F').getD a.i.toNat []) = x.data ∧ (lget a.key L').isSome = true := by
    rintro L' F' x y hk ⟨b1, b2, b3, b4⟩ hy hyk
    rw [hk] at b1 b2 b3 b4
    refine ⟨b1, b2, b3, b4, ?_⟩
    cases hg : lget a.key L' with
    | some z => rfl
    | none => exact absurd hyk (get_none_iff.1 hg y hy)
  have hk : a.kind % 10 = 0 ∨ a.kind % 10 = 1 ∨ a.kind % 10 = 2 := by omega
  unfold cstep at h0 ⊢
  rcases hk with e | e | e <;> rw [e] at h0 ⊢ <;> simp only at h0 ⊢
  · unfold cget at h0 ⊢
    by_cases hz : (cfind most a.key s).1 = 0
    · rw [if_pos hz] at h0 ⊢
      obtain ⟨x, h1, h2, h3, h4⟩ := find_same h hI hz
      simp only
      rw [h3]
      exact key _ _ x x h2 h4 h1 h2
    · rw [if_neg hz] at h0; exact absurd h0 hz
  · unfold cget at h0 ⊢
    by_cases hz : (cfind most a.key s).1 = 0
    · rw [if_pos hz] at h0 ⊢
      obtain ⟨x, h1, h2, h3, h4⟩ := find_same h hI hz
      simp only
      rw [h3]
      exact key _ _ x x h2 h4 h1 h2
    · rw [if_neg hz] at h0; exact absurd h0 hz
  · unfold cpin at h0 ⊢
    by_cases hz : (cfind most a.key s).1 = 0
    · rw [if_pos hz] at h0 ⊢
      obtain ⟨x, h1, h2, h3, h4⟩ := find_same h hI hz
      simp only
      rw [h3]
      refine key _ _ x { x with pins := x.pins + 1 } h2 h4 ?_ h2
      unfold lmap
      exact List.mem_map.2 ⟨x, h1, by rw [if_pos h2]⟩
    · rw [if_neg hz] at h0; exact absurd h0 hz
/-- which keys have how many pins -/
structure PinRep (P : List CKey) (s : CSt) : Prop where
  cnt : ∀ x ∈ s.L, x.pins = P.count x.key
  mem : ∀ k ∈ P, ∃ x ∈ s.L, x.key = k
theorem PinRep.zero {P : List CKey} {s : CSt} (h : PinRep P s) {k : CKey} (hk : ∀ x ∈ s.L, x.key ≠ k) : P.count k = 0 := by
  rw [List.count_eq_zero]
  intro hm
  obtain ⟨x, hx, e⟩ := h.mem k hm
  exact hk x hx e
theorem PinRep.find {room : Int} {most : Nat} {s : CSt} {P : List CKey} (h : PinRep P s) (hI : CInv room most s) (j : CKey) : PinRep P (cfind most j s).2 := by
  have hw := cfind_ways most j s hI.nd
  generalize (cfind most j s).1 = e at hw
  generalize (cfind most j s).2 = s' at hw
  cases hw with
  | there y hy hk =>
    refine ⟨fun x hx => ?_, fun k hm => ?_⟩
    · rcases List.mem_append.1 hx with hx | hx
      · exact h.cnt x (wo_mem.1 hx).1
      · rw [List.mem_singleton] at hx; rw [hx]; exact h.cnt y hy
    · obtain ⟨x, hx, e⟩ := h.mem k hm
      by_cases e2 : x.key = j
      · exact ⟨y, by simp, by rw [hk, ← e2, e]⟩
      · exact ⟨x, List.mem_append_left _ (wo_mem.2 ⟨hx, e2⟩), e⟩
  | full => exact h
  | none => exact h
  | fail => exact ⟨h.cnt, h.mem⟩
  | bad => exact ⟨h.cnt, h.mem⟩
  | come hn =>
    refine ⟨fun x hx => ?_, fun k hm => ?_⟩
    · rcases List.mem_append.1 hx with hx | hx
      · exact h.cnt x ((room_sub _ _).subset hx)
      · rw [List.mem_singleton] at hx; rw [hx]; exact (h.zero hn).symm
    · obtain ⟨x, hx, e⟩ := h.mem k hm
      have hp : x.pins ≠ 0 := by
        rw [h.cnt x hx, e]
        exact fun h0 => List.count_eq_zero.1 h0 hm
      exact ⟨x, List.mem_append_left _ (room_pinned hx hp hI.nd), e⟩
theorem PinRep.put {room : Int} {most : Nat} {s : CSt} {P : List CKey} (h : PinRep P s) (hI : CInv room most s) (k : CKey) (d : List UInt8) : PinRep P (cput room most k d s).2 := by
  have hw := cput_ways room most k d s hI.nd
  generalize (cput room most k d s).1 = e at hw
  generalize (cput room most k d s).2 = s' at hw
  cases hw with
  | long => exact h
  | full => exact h
  | bad => exact h
  | there hd y hy hk h0 =>
    refine ⟨fun x hx => ?_, fun j hm => ?_⟩
    · rcases List.mem_append.1 hx with hx | hx
      · exact h.cnt x (wo_mem.1 hx).1
      · rw [List.mem_singleton] at hx; rw [hx]; exact h.cnt y hy
    · obtain ⟨x, hx, e⟩ := h.mem j hm
      by_cases e2 : x.key = k
      · exact ⟨{ y with data := d }, by simp, by rw [← e, e2]; exact hk⟩
      · exact ⟨x, List.mem_append_left _ (wo_mem.2 ⟨hx, e2⟩), e⟩
  | come hd hn hf h0 =>
    refine ⟨fun x hx => ?_, fun j hm => ?_⟩
    · rcases List.mem_append.1 hx with hx | hx
      · exact h.cnt x ((room_sub _ _).subset hx)
      · rw [List.mem_singleton] at hx; rw [hx]; exact (h.zero hn).symm
    · obtain ⟨x, hx, e⟩ := h.mem j hm
      have hp : x.pins ≠ 0 := by
        rw [h.cnt x hx, e]
        exact fun h0 => List.count_eq_zero.1 h0 hm
      exact ⟨x, List.mem_append_left _ (room_pinned hx hp hI.nd), e⟩
theorem PinRep.pin {s : CSt} {P : List CKey} (h : PinRep P s) {k : CKey} (hk : ∃ x ∈ s.L, x.key = k) : PinRep (P ++ [k]) { s with L := lmap k (fun x => { x with pins := x.pins + 1 }) s.L } := by
  refine ⟨fun x hx => ?_, fun j hm => ?_⟩
  · obtain ⟨y, hy, ⟨e, rfl⟩ | ⟨e, rfl⟩⟩ := map_mem hx
    · simp only
      rw [List.count_append, h.cnt y hy, e]
      simp
    · rw [List.count_append, h.cnt _ hy, List.count_singleton, if_neg (by simpa using Ne.symm e)]
      simp
  · have : ∃ x ∈ s.L, x.key = j := by
      rcases List.mem_append.1 hm with hm | hm
      · exact h.mem j hm
      · rw [List.mem_singleton] at hm; rw [hm]; exact hk
    obtain ⟨x, hx, e⟩ := this
    refine ⟨if x.key = k then { x with pins := x.pins + 1 } else x, List.mem_map_of_mem (f := fun x : CE => if x.key = k then { x with pins := x.pins + 1 } else x) hx, ?_⟩
    split <;> exact e
/-- the pins behind an act that neither takes any away nor lets a file go -/
theorem PinRep.step {room : Int} {most : Nat} {s : CSt} {P : List CKey} (h : PinRep P s) (hI : CInv room most s) (a : CAct) (ha : a.kind % 10 ≠ 3 ∧ a.kind % 10 ≠ 5) :
    PinRep (if a.kind % 10 = 2 ∧ (cstep room most a s).2.1 = 0 then P ++ [a.key] else P) (cstep room most a s).2.2 := by
  unfold cstep
  rcases kind_cases a.kind with e | e | e | e | e | e | e | e | e | e <;> rw [e] <;> simp only <;> rw [e] at ha
  · rw [if_neg (by simp)]; unfold cget; split <;> exact h.find hI _
  · rw [if_neg (by simp)]; unfold cget; split <;> exact h.find hI _
  · unfold cpin
    by_cases hz : (cfind most a.key s).1 = 0
    · rw [if_pos hz, if_pos ⟨trivial, rfl⟩]
      obtain ⟨M, x, e, hx, hM, _⟩ := cfind_last hI.nd hz
      exact (h.find hI a.key).pin ⟨x, by rw [e]; simp, hx⟩
    · rw [if_neg hz, if_neg (by simpa using hz)]
      exact h.find hI _
  · exact absurd rfl ha.1
  · rw [if_neg (by simp)]; exact h.put hI _ _
  · exact absurd rfl ha.2
  all_goals (rw [if_neg (by simp)]; exact ⟨h.cnt, h.mem⟩)
/-- behind a Drop -/
structure Gone (n : Name) (P : List CKey) (s : CSt) : Prop where
  no : ∀ x ∈ s.L, x.key.1 ≠ n
  cnt : ∀ x ∈ s.L, x.pins = P.count x.key
  mem : ∀ k ∈ P, k.1 ≠ n → ∃ x ∈ s.L, x.key = k
theorem PinRep.drop {s : CSt} {P : List CKey} (h : PinRep P s) (n : Name) : Gone n P (cdrop n s) := by
  refine ⟨fun x hx => by simpa using (List.mem_filter.1 hx).2, fun x hx => h.cnt x (List.mem_filter.1 hx).1, fun k hk hn => ?_⟩
  obtain ⟨x, hx, e⟩ := h.mem k hk
  exact ⟨x, List.mem_filter.2 ⟨hx, by simpa [e] using hn⟩, e⟩
theorem Gone.unpin {room : Int} {most : Nat} {s : CSt} {n : Name} {k : CKey} {P : List CKey} (h : Gone n (k :: P) s) (hI : CInv room most s) :
    ((cunpin k s).1 = 0 ↔ k.1 ≠ n) ∧ Gone n P (cunpin k s).2 := by
  unfold cunpin
  cases hg : lget k s.L with
  | none =>
    have hno := get_none_iff.1 hg
    have hkn : k.1 = n := by
      cases Decidable.em (k.1 = n) with
      | inl e => exact e
      | inr e =>
        obtain ⟨x, hx, e2⟩ := h.mem k (by simp) e
        exact absurd e2 (hno x hx)
    simp only
    refine ⟨by simp [hkn], h.no, fun x hx => ?_, fun j hj hn => h.mem j (by simp [hj]) hn⟩
    rw [h.cnt x hx, List.count_cons, if_neg (by simpa using Ne.symm (hno x hx))]
    rfl
  | some x =>
    obtain ⟨hx, rfl⟩ := (get_some_iff hI.nd).1 hg
    have hp : x.pins ≠ 0 := by rw [h.cnt x hx]; simp
    simp only
    rw [if_neg hp]
    refine ⟨by simpa using h.no x hx, fun y hy => ?_, fun y hy => ?_, fun j hj hn => ?_⟩
    · obtain ⟨z, hz, ⟨e, rfl⟩ | ⟨e, rfl⟩⟩ := map_mem hy
      · exact h.no z hz
      · exact h.no _ hz
    · obtain ⟨z, hz, ⟨e, rfl⟩ | ⟨e, rfl⟩⟩ := map_mem hy
      · simp only
        rw [h.cnt z hz, e]
        simp
      · rw [h.cnt _ hz, List.count_cons, if_neg (by simpa using Ne.symm e)]
        rfl
    · obtain ⟨z, hz, e⟩ := h.mem j (by simp [hj]) hn
      refine ⟨if z.key = x.key then { z with pins := z.pins - 1 } else z, List.mem_map_of_mem (f := fun z : CE => if z.key = x.key then { z with pins := z.pins - 1 } else z) hz, ?_⟩
      split <;> exact e
theorem Gone.done {s : CSt} {n : Name} (h : Gone n [] s) : (s.L.filter fun x => decide (0 < x.pins)) = [] := by
  rw [List.filter_eq_nil_iff]
  intro x hx
  rw [h.cnt x hx]
  simp
/-- how many pages of a file are there -/
def lcount (n : Name) (L : List CE) (m : Nat) : Nat := ((List.range m).filter fun (i : Nat) => (lget (n, (i : Int)) L).isSome).length
theorem lcount_zero (n : Name) (L : List CE) : lcount n L 0 = 0 := rfl
theorem lcount_succ (n : Name) (L : List CE) (m : Nat) : lcount n L (m + 1) = lcount n L m + if (lget (n, (m : Int)) L).isSome then 1 else 0 := by
  unfold lcount
  rw [List.range_succ, List.filter_append, List.length_append]
  congr 1
  by_cases h : (lget (n, (m : Int)) L).isSome
  · simp [h]
  · simp [h]
theorem lcount_all (n : Name) : ∀ (m : Nat) {L : List CE}, (L.map (·.key)).Nodup → (∀ x ∈ L, 0 ≤ x.key.2 ∧ x.key.2 < (m : Int)) → lcount n L m = (L.filter fun x => decide (x.key.1 = n)).length
  | 0, L, hn, hi => by
    cases L with
    | nil => rfl
    | cons x L => have := hi x (by simp); omega
  | m + 1, L, hn, hi => by
    have hsub : ((L.filter fun x => decide (x.key.2 < (m : Int))).map (·.key)).Nodup := hn.sublist (List.Sublist.map _ List.filter_sublist)
    have ih := lcount_all n m hsub (fun x hx => ⟨(hi x (List.mem_filter.1 hx).1).1, by simpa using (List.mem_filter.1 hx).2⟩)
    rw [lcount_succ]
    have e1 : lcount n L m = lcount n (L.filter fun x => decide (x.key.2 < (m : Int))) m := by
      unfold lcount
      congr 1
      refine List.filter_congr fun i hi2 => ?_
      have hlt := List.mem_range.1 hi2
      rw [Bool.eq_iff_iff]
      constructor
      · intro h
        obtain ⟨x, hx⟩ := Option.isSome_iff_exists.1 h
        obtain ⟨h1, h2⟩ := (get_some_iff hn).1 hx
        rw [(get_some_iff hsub).2 ⟨List.mem_filter.2 ⟨h1, by rw [h2]; simp; omega⟩, h2⟩]
        rfl
      · intro h
        obtain ⟨x, hx⟩ := Option.isSome_iff_exists.1 h
        obtain ⟨h1, h2⟩ := (get_some_iff hsub).1 hx
        rw [(get_some_iff hn).2 ⟨(List.mem_filter.1 h1).1, h2⟩]
        rfl
    rw [e1, ih, List.filter_filter]
    clear ih e1 hsub
    induction L with
    | nil => simp [lget]
    | cons x L ihL =>
      rw [List.map_cons, List.nodup_cons] at hn
      have ihL := ihL hn.2 (fun y hy => hi y (List.mem_cons_of_mem _ hy))
      have hx := hi x (by simp)
      have eget : ∀ b : Bool, b = decide (x.key = (n, (m : Int))) → (lget (n, (m : Int)) (x :: L)).isSome = (b || (lget (n, (m : Int)) L).isSome) := fun b hb => by
        unfold lget
        rw [List.find?_cons, ← hb]
        cases b <;> rfl
      rw [eget _ rfl]
      by_cases h1 : x.key.1 = n
      · by_cases h2 : x.key.2 < (m : Int)
        · have h3 : ¬ x.key = (n, (m : Int)) := fun e => by rw [e] at h2; simp at h2
          rw [List.filter_cons_of_pos (by simp [h1, h2]), List.filter_cons_of_pos (by simpa using h1)]
          simp only [decide_eq_false h3, Bool.false_or, List.length_cons]
          omega
        · have h3 : x.key = (n, (m : Int)) := Prod.ext h1 (by simp only; omega)
          have h4 : lget (n, (m : Int)) L = none := get_none_iff.2 fun y hy e => hn.1 (by rw [h3, ← e]; exact List.mem_map_of_mem hy)
          rw [h4] at ihL
          rw [List.filter_cons_of_neg (by simp [h1, h2]), List.filter_cons_of_pos (by simpa using h1)]
          simp only [decide_eq_true h3, Bool.true_or, if_true, List.length_cons]
          simp at ihL
          simp
          omega
      · have h3 : ¬ x.key = (n, (m : Int)) := fun e => h1 (congrArg Prod.fst e)
        rw [List.filter_cons_of_neg (by simp [h1]), List.filter_cons_of_neg (by simpa using h1)]
        simp only [decide_eq_false h3, Bool.false_or]
        exact ihL
theorem drop_len (n : Name) (s : CSt) : (cdrop n s).L.length + (s.L.filter fun x => decide (x.key.1 = n)).length = s.L.length := by
  unfold cdrop
  simp only
  induction s.L with
  | nil => rfl
  | cons x L ih =>
    by_cases h : x.key.1 = n
    · rw [List.filter_cons_of_neg (by simpa using h), List.filter_cons_of_pos (by simpa using h)]
      simp only [List.length_cons]; omega
    · rw [List.filter_cons_of_pos (by simpa using h), List.filter_cons_of_neg (by simpa using h)]
      simp only [List.length_cons]; omega
/-- pages of one file, one byte each, in the order of their use -/
def omk (n : Name) (k : Nat) : CE := ⟨(n, (k : Int)), [UInt8.ofNat k], 0⟩
def onext (most k : Nat) (l : List Nat) : List Nat := (if k ∈ l then l.filter (fun j => decide (j ≠ k)) else if most ≤ l.length then l.tail else l) ++ [k]
structure OldRep (n : Name) (most : Nat) (l : List Nat) (s : CSt) : Prop where
  L : s.L = l.map (omk n)
  nd : l.Nodup
  len : l.length ≤ most
  lt : ∀ k ∈ l, k < 12
  F : ∀ k, k < 12 → k < (fpg n s.F).length ∧ (fpg n s.F).getD k [] = encB [UInt8.ofNat k]
  left : s.left = -1
theorem omk_inj {n : Name} {a b : Nat} (h : (omk n a).key = (omk n b).key) : a = b := by
  unfold omk at h
  have := congrArg Prod.snd h
  simp at this
  omega
theorem omap_get (n : Name) (k : Nat) : ∀ l : List Nat, lget (n, (k : Int)) (l.map (omk n)) = if k ∈ l then some (omk n k) else none
  | [] => rfl
  | j :: l => by
    have ih := omap_get n k l
    unfold lget at ih ⊢
    rw [List.map_cons]
    by_cases h : j = k
    · subst h
      rw [List.find?_cons_of_pos (by simp [omk]), if_pos (by simp)]
    · rw [List.find?_cons_of_neg (by simp [omk]; omega), ih]
      by_cases h2 : k ∈ l
      · rw [if_pos h2, if_pos (by simp [h2])]
      · rw [if_neg h2, if_neg (by simp [h2]; omega)]
theorem omap_wo (n : Name) (k : Nat) (l : List Nat) : lwo (n, (k : Int)) (l.map (omk n)) = (l.filter fun j => decide (j ≠ k)).map (omk n) := by
  unfold lwo
  rw [List.filter_map]
  congr 1
  refine List.filter_congr fun j _ => ?_
  rw [Bool.eq_iff_iff]
  simp [omk]
  omega
theorem omap_old (n : Name) (l : List Nat) : lold (l.map (omk n)) = l.head?.map (omk n) := by
  cases l with
  | nil => rfl
  | cons j l => rfl
theorem onext_nd {most k : Nat} {l : List Nat} (h : l.Nodup) : (onext most k l).Nodup := by
  unfold onext
  refine List.nodup_append.2 ⟨?_, by simp, fun a ha b hb e => ?_⟩
  · split
    · exact h.sublist List.filter_sublist
    · split
      · exact h.sublist (List.tail_sublist l)
      · exact h
  · simp at hb
    rw [hb] at e
    subst e
    split at ha
    · simpa using (List.mem_filter.1 ha).2
    · next hn =>
      split at ha
      · exact hn (List.mem_of_mem_tail ha)
      · exact hn ha
theorem filter_ne_len {k : Nat} : ∀ {l : List Nat}, l.Nodup → k ∈ l → (l.filter fun j => decide (j ≠ k)).length + 1 = l.length
  | [], _, h => by cases h
  | j :: l, hn, h => by
    rw [List.nodup_cons] at hn
    by_cases e : j = k
    · subst e
      rw [List.filter_cons_of_neg (by simp), List.filter_eq_self.2 (fun z hz => by simp; rintro rfl; exact hn.1 hz)]
      rfl
    · rw [List.filter_cons_of_pos (by simpa using e)]
      have := filter_ne_len hn.2 ((List.mem_cons.1 h).resolve_left (Ne.symm e))
      simp only [List.length_cons]
      omega
theorem onext_len {most k : Nat} {l : List Nat} (h : l.Nodup) (hl : l.length ≤ most) (h1 : 1 ≤ most) : (onext most k l).length ≤ most := by
  unfold onext
  rw [List.length_append]
  split
  · next hm => have := filter_ne_len h hm; simp; simp at this; omega
  · split
    · simp; omega
    · simp; omega
theorem onext_lt {most k : Nat} {l : List Nat} (h : ∀ j ∈ l, j < 12) (hk : k < 12) : ∀ j ∈ onext most k l, j < 12 := by
  intro j hj
  unfold onext at hj
  rcases List.mem_append.1 hj with hj | hj
  · split at hj
    · exact h j (List.mem_filter.1 hj).1
    · split at hj
      · exact h j (List.mem_of_mem_tail hj)
      · exact h j hj
  · simp at hj; omega
theorem omap_keys {n : Name} {l : List Nat} (h : l.Nodup) : ((l.map (omk n)).map (·.key)).Nodup := by
  rw [List.map_map]
  exact List.pairwise_map.2 (h.imp fun hab e => hab (omk_inj (n := n) e))
theorem OldRep.step {n : Name} {most k : Nat} {l : List Nat} {s : CSt} (h : OldRep n most l s) (h1 : 1 ≤ most) (hk : k < 12) :
    (cget most (n, (k : Int)) s).1 = [UInt8.ofNat k] ∧ (cget most (n, (k : Int)) s).2.1 = 0 ∧ OldRep n most (onext most k l) (cget most (n, (k : Int)) s).2.2 := by
  have hg := omap_get n k l
  rw [← h.L] at hg
  have hnd : (s.L.map (·.key)).Nodup := by rw [h.L]; exact omap_keys h.nd
  by_cases hm : k ∈ l
  · rw [if_pos hm] at hg
    have hc : cfind most (n, (k : Int)) s = (0, { s with L := luse (n, (k : Int)) id s.L, clk := s.clk + 1 }) := by unfold cfind; rw [hg, if_pos (by rfl)]
    have hx := ((get_some_iff hnd).1 hg).1
    have hu : luse (n, (k : Int)) id s.L = (onext most k l).map (omk n) := by
      have := use_len hnd hx id
      rw [show (omk n k).key = (n, (k : Int)) from rfl] at this
      rw [this, h.L, omap_wo]
      unfold onext
      rw [if_pos hm, List.map_append]
      rfl
    unfold cget
    rw [hc, if_pos rfl]
    simp only
    refine ⟨?_, trivial, ⟨hu, onext_nd h.nd, onext_len h.nd h.len h1, onext_lt h.lt hk, h.F, h.left⟩⟩
    rw [hu]
    unfold onext
    rw [List.map_append, List.map_cons, List.map_nil, data_last (k := (n, (k : Int))) (x := omk n k) rfl (fun y hy => ?_)]
    · rfl
    · rw [if_pos hm] at hy
      obtain ⟨j, hj, rfl⟩ := List.mem_map.1 hy
      intro e
      have := omk_inj (n := n) (a := j) (b := k) e
      have := (List.mem_filter.1 hj).2
      simp at this
      omega
  · rw [if_neg hm] at hg
    obtain ⟨f1, f2⟩ := h.F k hk
    have hlf : lfull most s.L = false := by
      unfold lfull
      rw [h.L, omap_old]
      cases l with
      | nil => simp; omega
      | cons => simp
    have hfr : frd s.left s.F n (k : Int) = (0, encB [UInt8.ofNat k], -1) := by
      unfold frd
      rw [if_pos (by omega), h.left, if_neg (by decide), show ((k : Int)).toNat = k by omega, f2]
      rfl
    have hp : pageB (encB [UInt8.ofNat k]) = true := page_enc (by simp)
    have hdt : datB (encB [UInt8.ofNat k]) = [UInt8.ofNat k] := dat_enc (by simp)
    have hrm : lroom most s.L ++ [⟨(n, (k : Int)), [UInt8.ofNat k], 0⟩] = (onext most k l).map (omk n) := by
      unfold onext lroom
      rw [if_neg hm, List.map_append, h.L, List.length_map]
      congr 1
      by_cases hf : most ≤ l.length
      · rw [if_pos hf, if_pos hf, omap_old]
        cases l with
        | nil => rfl
        | cons j l =>
          simp only [List.head?_cons, Option.map_some, List.tail_cons]
          rw [show (omk n j).key = (n, (j : Int)) from rfl, omap_wo]
          congr 1
          have := h.nd
          rw [List.nodup_cons] at this
          rw [List.filter_cons_of_neg (by simp), List.filter_eq_self.2 (fun z hz => by simp; rintro rfl; exact this.1 hz)]
      · rw [if_neg hf, if_neg hf]
    have hc : cfind most (n, (k : Int)) s = (0, { s with left := -1, L := (onext most k l).map (omk n), clk := s.clk + 1 }) := by
      unfold cfind
      rw [hg, if_neg (by simp), hlf, if_neg (by simp)]
      simp only
      rw [hfr]
      simp only
      rw [if_neg (by simp), if_pos hp, hdt, hrm]
    unfold cget
    rw [hc, if_pos rfl]
    simp only
    refine ⟨?_, trivial, ⟨rfl, onext_nd h.nd, onext_len h.nd h.len h1, onext_lt h.lt hk, h.F, rfl⟩⟩
    unfold onext
    rw [List.map_append, List.map_cons, List.map_nil, data_last (k := (n, (k : Int))) (x := omk n k) rfl (fun y hy => ?_)]
    · rfl
    · rw [if_neg hm] at hy
      obtain ⟨j, hj, rfl⟩ := List.mem_map.1 hy
      intro e
      have e2 := omk_inj (n := n) (a := j) (b := k) e
      subst e2
      split at hj
      · exact hm (List.mem_of_mem_tail hj)
      · exact hm hj
/-- the latest ones first -/
theorem onext_rev {most k : Nat} {l : List Nat} (hn : l.Nodup) (hl : l.length ≤ most) (h1 : 1 ≤ most) : (onext most k l).reverse = (k :: l.reverse.filter fun j => decide (j ≠ k)).take most := by
  unfold onext
  rw [List.reverse_append, List.reverse_cons, List.reverse_nil, List.nil_append, List.singleton_append]
  by_cases hm : k ∈ l
  · rw [if_pos hm, ← List.filter_reverse, List.take_of_length_le]
    have := filter_ne_len (l := l.reverse) ((List.reverse_perm l).nodup_iff.2 hn) (by simpa using hm)
    simp only [List.length_cons, List.length_reverse] at this ⊢
    omega
  · have e : (l.reverse.filter fun j => decide (j ≠ k)) = l.reverse := List.filter_eq_self.2 (fun z hz => by simp; rintro rfl; exact hm (by simpa using hz))
    rw [if_neg hm, e]
    by_cases hf : most ≤ l.length
    · rw [if_pos hf]
      obtain ⟨m, rfl⟩ : ∃ m, most = m + 1 := ⟨most - 1, by omega⟩
      rw [List.take_succ_cons]
      congr 1
      cases l with
      | nil => simp
      | cons j l =>
        simp only [List.tail_cons, List.reverse_cons]
        rw [List.take_append_of_le_length (by simp at hl hf ⊢; omega), List.take_of_length_le (by simp at hl hf ⊢; omega)]
    · rw [if_neg hf, List.take_of_length_le (by simp; omega)]
/-- what is there is got without a read -/
theorem there_got {most : Nat} {k : CKey} {s : CSt} {K : List CKey} (hn : (s.L.map (·.key)).Nodup) (hK : ∀ j ∈ K, ∃ x ∈ s.L, x.key = j) (hk : k ∈ K) :
    (cget most k s).2.1 = 0 ∧ (((cget most k s).2.2).L.map (·.key)).Nodup ∧ (∀ j ∈ K, ∃ x ∈ (cget most k s).2.2.L, x.key = j) ∧ (cget most k s).2.2.F = s.F ∧ (cget most k s).2.2.left = s.left := by
  obtain ⟨x, hx, rfl⟩ := hK k hk
  have hg := (get_some_iff hn).2 ⟨hx, rfl⟩
  have hc : cfind most x.key s = (0, { s with L := luse x.key id s.L, clk := s.clk + 1 }) := by unfold cfind; rw [hg, if_pos (by rfl)]
  unfold cget
  rw [hc, if_pos rfl]
  simp only
  rw [use_len hn hx]
  refine ⟨trivial, nd_snoc (k := x.key) (wo_keys hn) (fun y hy => (wo_mem.1 hy).2), fun j hj => ?_, trivial, trivial⟩
  obtain ⟨y, hy, e⟩ := hK j hj
  by_cases e2 : y.key = x.key
  · exact ⟨x, by simp, by rw [← e2, e]⟩
  · exact ⟨y, List.mem_append_left _ (wo_mem.2 ⟨hy, e2⟩), e⟩
end Go.Proofs.YtkhbemmcegmdaaaGreatDoor
