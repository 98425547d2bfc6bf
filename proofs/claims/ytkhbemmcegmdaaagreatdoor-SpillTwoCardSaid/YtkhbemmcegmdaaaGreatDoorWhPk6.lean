/- Parts of the proof of several laws: no conditions of their own. -/
import Derived.Test.YtkhbemmcegmdaaaGreatDoorWhPk5
section
set_option linter.all false
set_option linter.unusedVariables false
set_option maxRecDepth 100000
namespace Go.Proofs.YtkhbemmcegmdaaaGreatDoor
/-- a page with pins, and what it has -/
def Stay (k : CKey) (d : List UInt8) (s : CSt) : Prop := ∃ x ∈ s.L, x.key = k ∧ x.data = d ∧ x.pins ≠ 0
theorem Stay.find {room : Int} {most : Nat} {s : CSt} {k : CKey} {d : List UInt8} (h : Stay k d s) (hI : CInv room most s) (j : CKey) : Stay k d (cfind most j s).2 := by
  have hw := cfind_ways most j s hI.nd
  generalize (cfind most j s).1 = e at hw
  generalize (cfind most j s).2 = s' at hw
  obtain ⟨x, hx, h1, h2, h3⟩ := h
  cases hw with
  | there y hy hk =>
    by_cases e : x.key = y.key
    · have : x = y := by
        have e1 := (get_some_iff hI.nd).2 ⟨hx, e⟩
        have e2 := (get_some_iff hI.nd).2 ⟨hy, rfl⟩
        rw [e1] at e2
        exact Option.some.inj e2
      subst this
      exact ⟨x, by simp, h1, h2, h3⟩
    · exact ⟨x, List.mem_append_left _ (wo_mem.2 ⟨hx, by rw [← hk]; exact e⟩), h1, h2, h3⟩
  | full => exact ⟨x, hx, h1, h2, h3⟩
  | none => exact ⟨x, hx, h1, h2, h3⟩
  | fail => exact ⟨x, hx, h1, h2, h3⟩
  | bad => exact ⟨x, hx, h1, h2, h3⟩
  | come => exact ⟨x, List.mem_append_left _ (room_pinned hx h3 hI.nd), h1, h2, h3⟩
theorem Stay.map {k : CKey} {d : List UInt8} {s : CSt} (h : Stay k d s) {j : CKey} {f : CE → CE} (hk : ∀ x, (f x).key = x.key) (hd : ∀ x, (f x).data = x.data) (hp : j = k → ∀ x, x.pins ≠ 0 → (f x).pins ≠ 0) : ∃ x ∈ lmap j f s.L, x.key = k ∧ x.data = d ∧ x.pins ≠ 0 := by
  obtain ⟨x, hx, h1, h2, h3⟩ := h
  refine ⟨if x.key = j then f x else x, List.mem_map_of_mem (f := fun x => if x.key = j then f x else x) hx, ?_⟩
  split
  · next e => exact ⟨by rw [hk, h1], by rw [hd, h2], hp (by rw [← e, h1]) x h3⟩
  · exact ⟨h1, h2, h3⟩
theorem Stay.step {room : Int} {most : Nat} {s : CSt} {n : Name} {i : Int} {d : List UInt8} (h : Stay (n, i) d s) (hI : CInv room most s) (a : CAct) (ha : a.name = n → a.kind % 10 ≠ 3 ∧ a.kind % 10 ≠ 4 ∧ a.kind % 10 ≠ 5) : Stay (n, i) d (cstep room most a s).2.2 := by
  have hk : a.key = (n, i) → a.name = n := fun e => congrArg Prod.fst e
  unfold cstep
  rcases kind_cases a.kind with e | e | e | e | e | e | e | e | e | e <;> rw [e] <;> simp only <;> rw [e] at ha
  · unfold cget; split <;> exact h.find hI _
  · unfold cget; split <;> exact h.find hI _
  · unfold cpin; split
    · exact (h.find hI a.key).map (fun _ => rfl) (fun _ => rfl) (fun _ x _ => by simp)
    · exact h.find hI _
  · unfold cunpin; split
    · split
      · exact h
      · exact h.map (fun _ => rfl) (fun _ => rfl) (fun e => absurd rfl (ha (hk e)).1)
    · exact h
  · have hw := cput_ways room most a.key a.data s hI.nd
    generalize (cput room most a.key a.data s).1 = e at hw
    generalize (cput room most a.key a.data s).2 = s' at hw
    obtain ⟨x, hx, h1, h2, h3⟩ := h
    cases hw with
    | long => exact ⟨x, hx, h1, h2, h3⟩
    | full => exact ⟨x, hx, h1, h2, h3⟩
    | bad => exact ⟨x, hx, h1, h2, h3⟩
    | there _ y hy hyk => exact ⟨x, List.mem_append_left _ (wo_mem.2 ⟨hx, fun e => absurd rfl (ha (hk (by rw [← e, h1]))).2.1⟩), h1, h2, h3⟩
    | come => exact ⟨x, List.mem_append_left _ (room_pinned hx h3 hI.nd), h1, h2, h3⟩
  · obtain ⟨x, hx, h1, h2, h3⟩ := h
    refine ⟨x, List.mem_filter.2 ⟨hx, ?_⟩, h1, h2, h3⟩
    have : ¬ a.name = n := fun e => absurd rfl (ha e).2.2
    simp [h1]
    exact Ne.symm this
  all_goals exact h
theorem Stay.pinned {k : CKey} {d : List UInt8} {s : CSt} (h : Stay k d s) : 1 ≤ (s.L.filter fun x => decide (0 < x.pins)).length := by
  obtain ⟨x, hx, h1, h2, h3⟩ := h
  have : x ∈ s.L.filter fun x => decide (0 < x.pins) := List.mem_filter.2 ⟨hx, by simp; omega⟩
  exact List.length_pos_of_mem this
theorem Stay.got {room : Int} {most : Nat} {s : CSt} {k : CKey} {d : List UInt8} (h : Stay k d s) (hI : CInv room most s) : (cget most k s).1 = d ∧ (cget most k s).2.1 = 0 := by
  obtain ⟨x, hx, h1, h2, h3⟩ := h
  have hg := (get_some_iff hI.nd).2 ⟨hx, h1⟩
  have hc : cfind most k s = (0, { s with L := luse k id s.L, clk := s.clk + 1 }) := by unfold cfind; rw [hg, if_pos (by rfl)]
  subst h1
  unfold cget
  rw [hc, if_pos rfl]
  simp only
  rw [use_len hI.nd hx]
  exact ⟨by rw [data_last (by rfl) (fun y hy => (wo_mem.1 hy).2)]; exact h2, trivial⟩
/-- behind a put it is there -/
theorem put_there {room : Int} {most : Nat} {k : CKey} {d : List UInt8} {s : CSt} (hn : (s.L.map (·.key)).Nodup) (h0 : (cput room most k d s).1 = 0) : ∃ x ∈ (cput room most k d s).2.L, x.key = k ∧ x.data = d := by
  have hw := cput_ways room most k d s hn
  generalize (cput room most k d s).1 = e at *
  generalize (cput room most k d s).2 = s' at *
  cases hw with
  | long => cases h0
  | full => cases h0
  | bad _ _ h => exact absurd h0 h
  | there h x hx hk => exact ⟨{ x with data := d }, List.mem_append_right _ (by simp), hk, rfl⟩
  | come => exact ⟨⟨k, d, 0⟩, List.mem_append_right _ (by simp), rfl, rfl⟩
theorem put_err {room : Int} {most : Nat} {k : CKey} {d : List UInt8} {s : CSt} (hn : (s.L.map (·.key)).Nodup) (hd : d.length ≤ 122) (hm : nameB k.1 = true) (hi : k.2 = 0) (h0 : (cput room most k d s).1 ≠ 0) : (cput room most k d s).1 = 70 ∨ (cput room most k d s).1 = 61 := by
  have hw := cput_ways room most k d s hn
  generalize (cput room most k d s).1 = e at *
  generalize (cput room most k d s).2 = s' at *
  cases hw with
  | long h => omega
  | full => exact .inl rfl
  | bad h _ h2 =>
    right
    unfold fsput at h2 ⊢
    rw [if_neg (by simp [hm, hi, encB_len hd])] at h2 ⊢
    split at h2
    · exact absurd rfl h2
    · next hn =>
      rw [if_neg hn]
      split at h2
      · next ht => rw [if_pos ht]
      · exact absurd rfl h2
  | there => exact absurd rfl h0
  | come => exact absurd rfl h0
theorem pin_there {room : Int} {most : Nat} {k : CKey} {d : List UInt8} {s : CSt} (hI : CInv room most s) (h : ∃ x ∈ s.L, x.key = k ∧ x.data = d) : (cpin most k s).1 = d ∧ (cpin most k s).2.1 = 0 ∧ Stay k d (cpin most k s).2.2 := by
  obtain ⟨x, hx, h1, h2⟩ := h
  have hg := (get_some_iff hI.nd).2 ⟨hx, h1⟩
  have hc : cfind most k s = (0, { s with L := luse k id s.L, clk := s.clk + 1 }) := by unfold cfind; rw [hg, if_pos (by rfl)]
  subst h1
  unfold cpin
  rw [hc, if_pos rfl]
  simp only
  rw [use_len hI.nd hx]
  refine ⟨by rw [data_last (by rfl) (fun y hy => (wo_mem.1 hy).2)]; exact h2, trivial, { x with pins := x.pins + 1 }, ?_, rfl, h2, by simp⟩
  unfold lmap
  refine List.mem_map.2 ⟨x, by simp, by rw [if_pos rfl]⟩
/-- what is there is what its file's page has -/
def Same (F : FileL) (x : CE) : Prop := 0 ≤ x.key.2 ∧ x.key.2 < ((fpg x.key.1 F).length : Int) ∧ pageB ((fpg x.key.1 F).getD x.key.2.toNat []) = true ∧ datB ((fpg x.key.1 F).getD x.key.2.toNat []) = x.data
def AllSame (s : CSt) : Prop := ∀ x ∈ s.L, Same s.F x
theorem AllSame.find {room : Int} {most : Nat} {s : CSt} (h : AllSame s) (hI : CInv room most s) (j : CKey) : AllSame (cfind most j s).2 := by
  have hw := cfind_ways most j s hI.nd
  generalize (cfind most j s).1 = e at hw
  generalize (cfind most j s).2 = s' at hw
  cases hw with
  | there y hy hk =>
      intro x hx
      rcases List.mem_append.1 hx with hx | hx
      · exact h x (wo_mem.1 hx).1
      · rw [List.mem_singleton] at hx; rw [hx]; exact h y hy
  | full => exact h
  | none => exact h
  | fail => exact h
  | bad => exact h
  | come hn hf hi hl hp =>
      intro x hx
      rcases List.mem_append.1 hx with hx | hx
      · exact h x ((room_sub _ _).subset hx)
      · rw [List.mem_singleton] at hx; rw [hx]; exact ⟨hi.1, hi.2, hp, rfl⟩
theorem AllSame.map {s : CSt} (h : AllSame s) {j : CKey} {f : CE → CE} (hk : ∀ x, (f x).key = x.key) (hd : ∀ x, (f x).data = x.data) : ∀ x ∈ lmap j f s.L, Same s.F x := by
  intro x hx
  obtain ⟨y, hy, ⟨_, rfl⟩ | ⟨_, rfl⟩⟩ := map_mem hx
  · have := h y hy
    unfold Same at this ⊢
    rw [hk, hd]
    exact this
  · exact h _ hy
theorem fsput_same {room : Int} {F : FileL} {k : CKey} {d : List UInt8} (hd : d.length ≤ 122) (h0 : (fsput room F k.1 k.2 (encB d)).1 = 0) (x : CE) :
    (x.key ≠ k → Same F x → Same (fsput room F k.1 k.2 (encB d)).2 x) ∧ (x.key = k → x.data = d → Same (fsput room F k.1 k.2 (encB d)).2 x) := by
  unfold fsput at h0 ⊢
  split at h0
  · cases h0
  · next hb =>
    rw [if_neg hb]
    simp only [not_or, Bool.not_eq_false, Int.not_lt] at hb
    obtain ⟨h1, h2, h3, h4⟩ := hb
    have hkey : x.key.1 = k.1 → x.key ≠ k → x.key.2 ≠ k.2 := fun e hne e2 => hne (Prod.ext e e2)
    split at h0
    · next hi =>
      rw [if_pos hi]
      constructor
      · rintro hne ⟨a1, a2, a3, a4⟩
        unfold Same
        rw [fpg_put]
        by_cases e : x.key.1 = k.1
        · have hne2 := hkey e hne
          rw [if_pos e]
          rw [e] at a2 a3 a4
          have e1 : ((fpg k.1 F).set k.2.toNat (encB d)).getD x.key.2.toNat [] = (fpg k.1 F).getD x.key.2.toNat [] := by
            simp only [List.getD_eq_getElem?_getD]
            rw [List.getElem?_set_ne (by omega)]
          rw [e1, List.length_set]
          exact ⟨a1, a2, a3, a4⟩
        · rw [if_neg e]; exact ⟨a1, a2, a3, a4⟩
      · intro e hdd
        unfold Same
        rw [fpg_put, e, if_pos rfl]
        have hlt : k.2.toNat < (fpg k.1 F).length := by omega
        have e1 : ((fpg k.1 F).set k.2.toNat (encB d)).getD k.2.toNat [] = encB d := by
          simp only [List.getD_eq_getElem?_getD]
          rw [List.getElem?_set_self hlt]
          rfl
        rw [e1, List.length_set]
        exact ⟨h2, hi, page_enc hd, by rw [dat_enc hd, hdd]⟩
    · next hi =>
      rw [if_neg hi]
      split at h0
      · cases h0
      · next ht =>
        rw [if_neg ht]
        constructor
        · rintro hne ⟨a1, a2, a3, a4⟩
          unfold Same
          rw [fpg_put]
          by_cases e : x.key.1 = k.1
          · rw [if_pos e]
            rw [e] at a2 a3 a4
            have e1 : (fpg k.1 F ++ [encB d]).getD x.key.2.toNat [] = (fpg k.1 F).getD x.key.2.toNat [] := by
              simp only [List.getD_eq_getElem?_getD]
              rw [List.getElem?_append_left (by omega)]
            rw [e1, List.length_append]
            exact ⟨a1, by simp; omega, a3, a4⟩
          · rw [if_neg e]; exact ⟨a1, a2, a3, a4⟩
        · intro e hdd
          unfold Same
          rw [fpg_put, e, if_pos rfl]
          have e1 : (fpg k.1 F ++ [encB d]).getD k.2.toNat [] = encB d := by
            have : k.2.toNat = (fpg k.1 F).length := by omega
            simp only [List.getD_eq_getElem?_getD]
            rw [this, List.getElem?_append_right (Nat.le_refl _), Nat.sub_self]
            rfl
          rw [e1, List.length_append]
          exact ⟨h2, by simp; omega, page_enc hd, by rw [dat_enc hd, hdd]⟩
theorem AllSame.step {room : Int} {most : Nat} {s : CSt} (h : AllSame s) (hI : CInv room most s) (a : CAct) (ha : a.kind % 10 ≠ 6 ∧ a.kind % 10 ≤ 7) : AllSame (cstep room most a s).2.2 := by
  unfold cstep
  rcases kind_cases a.kind with e | e | e | e | e | e | e | e | e | e <;> rw [e] <;> simp only <;> rw [e] at ha
  · unfold cget; split <;> exact h.find hI _
  · unfold cget; split <;> exact h.find hI _
  · unfold cpin; split
    · exact (h.find hI a.key).map (fun _ => rfl) (fun _ => rfl)
    · exact h.find hI _
  · unfold cunpin; split
    · split
      · exact h
      · exact h.map (fun _ => rfl) (fun _ => rfl)
    · exact h
  · have hw := cput_ways room most a.key a.data s hI.nd
    generalize (cput room most a.key a.data s).1 = e at hw
    generalize (cput room most a.key a.data s).2 = s' at hw
    cases hw with
    | long => exact h
    | full => exact h
    | bad => exact h
    | there hd y hy hyk h0 =>
    intro x hx
    rcases List.mem_append.1 hx with hx | hx
    · exact (fsput_same hd h0 x).1 (wo_mem.1 hx).2 (h x (wo_mem.1 hx).1)
    · rw [List.mem_singleton] at hx; rw [hx]; exact (fsput_same hd h0 { y with data := a.data }).2 hyk rfl
    | come hd hn hf h0 =>
    intro x hx
    rcases List.mem_append.1 hx with hx | hx
    · have hx2 := (room_sub _ _).subset hx
      exact (fsput_same hd h0 x).1 (hn x hx2) (h x hx2)
    · rw [List.mem_singleton] at hx; rw [hx]; exact (fsput_same hd h0 ⟨a.key, a.data, 0⟩).2 rfl rfl
  · exact fun x hx => h x (List.mem_filter.1 hx).1
  · omega
  · exact h
  · omega
  · omega
theorem find_same {room : Int} {most : Nat} {s : CSt} {k : CKey} (h : AllSame s) (hI : CInv room most s) (h0 : (cfind most k s).1 = 0) : ∃ x, x ∈ (cfind most k s).2.L ∧ x.key = k ∧ ldata k (cfind most k s).2.L = x.data ∧ Same (cfind most k s).2.F x := by
  obtain ⟨M, x, e, hx, hM, _⟩ := cfind_last hI.nd h0
  have hx2 : x ∈ (cfind most k s).2.L := by rw [e]; simp
  exact ⟨x, hx2, hx, by rw [e]; exact data_last hx hM, h.find hI k x hx2⟩
/-- what is got is what the file's page has -/
theorem got_same {room : Int} {most : Nat} {s : CSt} {a : CAct} (h : AllSame s) (hI : CInv room most s) (ha : a.kind % 10 ≤ 2) (h0 : (cstep room most a s).2.1 = 0) :
    let s' := (cstep room most a s).2.2
    0 ≤ a.i ∧ a.i < ((fpg a.name s'.F).length : Int) ∧ pageB ((fpg a.name s'.F).getD a.i.toNat []) = true ∧ datB ((fpg a.name s'.F).getD a.i.toNat []) = (cstep room most a s).1 ∧ (lget a.key s'.L).isSome = true := by
  have key : ∀ (L' : List CE) (F' : FileL) (x y : CE), x.key = a.key → Same F' x → y ∈ L' → y.key = a.key → 0 ≤ a.i ∧ a.i < ((fpg a.name F').length : Int) ∧ pageB ((fpg a.name F').getD a.i.toNat []) = true ∧ datB ((fpg a.name F').getD a.i.toNat []) = x.data ∧ (lget a.key L').isSome = true := by
    rintro L' F' x y hk ⟨b1, b2, b3, b4⟩ hy hyk
    rw [hk] at b1 b2 b3 b4
    refine ⟨b1, b2, b3, b4, ?_⟩
    cases hg : lget a.key L' with
    | some z => rfl
    | none => exact absurd hyk (get_none_iff.1 hg y hy)
  have hk : a.kind % 10 = 0 ∨ a.kind % 10 = 1 ∨ a.kind % 10 = 2 := by omega
  unfold cstep at h0 ⊢
  rcases hk with e | e | e <;> rw [e] at h0 ⊢ <;> simp only at h0 ⊢
  · unfold cget at h0 ⊢
    by_cases hz : (cfind most a.key s).1 = 0
    · rw [if_pos hz] at h0 ⊢
      obtain ⟨x, h1, h2, h3, h4⟩ := find_same h hI hz
      simp only
      rw [h3]
      exact key _ _ x x h2 h4 h1 h2
    · rw [if_neg hz] at h0; exact absurd h0 hz
  · unfold cget at h0 ⊢
    by_cases hz : (cfind most a.key s).1 = 0
    · rw [if_pos hz] at h0 ⊢
      obtain ⟨x, h1, h2, h3, h4⟩ := find_same h hI hz
      simp only
      rw [h3]
      exact key _ _ x x h2 h4 h1 h2
    · rw [if_neg hz] at h0; exact absurd h0 hz
  · unfold cpin at h0 ⊢
    by_cases hz : (cfind most a.key s).1 = 0
    · rw [if_pos hz] at h0 ⊢
      obtain ⟨x, h1, h2, h3, h4⟩ := find_same h hI hz
      simp only
      rw [h3]
      refine key _ _ x { x with pins := x.pins + 1 } h2 h4 ?_ h2
      unfold lmap
      exact List.mem_map.2 ⟨x, h1, by rw [if_pos h2]⟩
    · rw [if_neg hz] at h0; exact absurd h0 hz
/-- which keys have how many pins -/
structure PinRep (P : List CKey) (s : CSt) : Prop where
  cnt : ∀ x ∈ s.L, x.pins = P.count x.key
  mem : ∀ k ∈ P, ∃ x ∈ s.L, x.key = k
theorem PinRep.zero {P : List CKey} {s : CSt} (h : PinRep P s) {k : CKey} (hk : ∀ x ∈ s.L, x.key ≠ k) : P.count k = 0 := by
  rw [List.count_eq_zero]
  intro hm
  obtain ⟨x, hx, e⟩ := h.mem k hm
  exact hk x hx e
theorem PinRep.find {room : Int} {most : Nat} {s : CSt} {P : List CKey} (h : PinRep P s) (hI : CInv room most s) (j : CKey) : PinRep P (cfind most j s).2 := by
  have hw := cfind_ways most j s hI.nd
  generalize (cfind most j s).1 = e at hw
  generalize (cfind most j s).2 = s' at hw
  cases hw with
  | there y hy hk =>
    refine ⟨fun x hx => ?_, fun k hm => ?_⟩
    · rcases List.mem_append.1 hx with hx | hx
      · exact h.cnt x (wo_mem.1 hx).1
      · rw [List.mem_singleton] at hx; rw [hx]; exact h.cnt y hy
    · obtain ⟨x, hx, e⟩ := h.mem k hm
      by_cases e2 : x.key = j
      · exact ⟨y, by simp, by rw [hk, ← e2, e]⟩
      · exact ⟨x, List.mem_append_left _ (wo_mem.2 ⟨hx, e2⟩), e⟩
  | full => exact h
  | none => exact h
  | fail => exact ⟨h.cnt, h.mem⟩
  | bad => exact ⟨h.cnt, h.mem⟩
  | come hn =>
    refine ⟨fun x hx => ?_, fun k hm => ?_⟩
    · rcases List.mem_append.1 hx with hx | hx
      · exact h.cnt x ((room_sub _ _).subset hx)
      · rw [List.mem_singleton] at hx; rw [hx]; exact (h.zero hn).symm
    · obtain ⟨x, hx, e⟩ := h.mem k hm
      have hp : x.pins ≠ 0 := by
        rw [h.cnt x hx, e]
        exact fun h0 => List.count_eq_zero.1 h0 hm
      exact ⟨x, List.mem_append_left _ (room_pinned hx hp hI.nd), e⟩
theorem PinRep.put {room : Int} {most : Nat} {s : CSt} {P : List CKey} (h : PinRep P s) (hI : CInv room most s) (k : CKey) (d : List UInt8) : PinRep P (cput room most k d s).2 := by
  have hw := cput_ways room most k d s hI.nd
  generalize (cput room most k d s).1 = e at hw
  generalize (cput room most k d s).2 = s' at hw
  cases hw with
  | long => exact h
  | full => exact h
  | bad => exact h
  | there hd y hy hk h0 =>
    refine ⟨fun x hx => ?_, fun j hm => ?_⟩
    · rcases List.mem_append.1 hx with hx | hx
      · exact h.cnt x (wo_mem.1 hx).1
      · rw [List.mem_singleton] at hx; rw [hx]; exact h.cnt y hy
    · obtain ⟨x, hx, e⟩ := h.mem j hm
      by_cases e2 : x.key = k
      · exact ⟨{ y with data := d }, by simp, by rw [← e, e2]; exact hk⟩
      · exact ⟨x, List.mem_append_left _ (wo_mem.2 ⟨hx, e2⟩), e⟩
  | come hd hn hf h0 =>
    refine ⟨fun x hx => ?_, fun j hm => ?_⟩
    · rcases List.mem_append.1 hx with hx | hx
      · exact h.cnt x ((room_sub _ _).subset hx)
      · rw [List.mem_singleton] at hx; rw [hx]; exact (h.zero hn).symm
    · obtain ⟨x, hx, e⟩ := h.mem j hm
      have hp : x.pins ≠ 0 := by
        rw [h.cnt x hx, e]
        exact fun h0 => List.count_eq_zero.1 h0 hm
      exact ⟨x, List.mem_append_left _ (room_pinned hx hp hI.nd), e⟩
theorem PinRep.pin {s : CSt} {P : List CKey} (h : PinRep P s) {k : CKey} (hk : ∃ x ∈ s.L, x.key = k) : PinRep (P ++ [k]) { s with L := lmap k (fun x => { x with pins := x.pins + 1 }) s.L } := by
  refine ⟨fun x hx => ?_, fun j hm => ?_⟩
  · obtain ⟨y, hy, ⟨e, rfl⟩ | ⟨e, rfl⟩⟩ := map_mem hx
    · simp only
      rw [List.count_append, h.cnt y hy, e]
      simp
    · rw [List.count_append, h.cnt _ hy, List.count_singleton, if_neg (by simpa using Ne.symm e)]
      simp
  · have : ∃ x ∈ s.L, x.key = j := by
      rcases List.mem_append.1 hm with hm | hm
      · exact h.mem j hm
      · rw [List.mem_singleton] at hm; rw [hm]; exact hk
    obtain ⟨x, hx, e⟩ := this
    refine ⟨if x.key = k then { x with pins := x.pins + 1 } else x, List.mem_map_of_mem (f := fun x : CE => if x.key = k then { x with pins := x.pins + 1 } else x) hx, ?_⟩
    split <;> exact e
/-- the pins behind an act that neither takes any away nor lets a file go -/
theorem PinRep.step {room : Int} {most : Nat} {s : CSt} {P : List CKey} (h : PinRep P s) (hI : CInv room most s) (a : CAct) (ha : a.kind % 10 ≠ 3 ∧ a.kind % 10 ≠ 5) :
    PinRep (if a.kind % 10 = 2 ∧ (cstep room most a s).2.1 = 0 then P ++ [a.key] else P) (cstep room most a s).2.2 := by
  unfold cstep
  rcases kind_cases a.kind with e | e | e | e | e | e | e | e | e | e <;> rw [e] <;> simp only <;> rw [e] at ha
  · rw [if_neg (by simp)]; unfold cget; split <;> exact h.find hI _
  · rw [if_neg (by simp)]; unfold cget; split <;> exact h.find hI _
  · unfold cpin
    by_cases hz : (cfind most a.key s).1 = 0
    · rw [if_pos hz, if_pos ⟨trivial, rfl⟩]
      obtain ⟨M, x, e, hx, hM, _⟩ := cfind_last hI.nd hz
      exact (h.find hI a.key).pin ⟨x, by rw [e]; simp, hx⟩
    · rw [if_neg hz, if_neg (by simpa using hz)]
      exact h.find hI _
  · exact absurd rfl ha.1
  · rw [if_neg (by simp)]; exact h.put hI _ _
  · exact absurd rfl ha.2
  all_goals (rw [if_neg (by simp)]; exact ⟨h.cnt, h.mem⟩)
/-- behind a Drop -/
structure Gone (n : Name) (P : List CKey) (s : CSt) : Prop where
  no : ∀ x ∈ s.L, x.key.1 ≠ n
  cnt : ∀ x ∈ s.L, x.pins = P.count x.key
  mem : ∀ k ∈ P, k.1 ≠ n → ∃ x ∈ s.L, x.key = k
theorem PinRep.drop {s : CSt} {P : List CKey} (h : PinRep P s) (n : Name) : Gone n P (cdrop n s) := by
  refine ⟨fun x hx => by simpa using (List.mem_filter.1 hx).2, fun x hx => h.cnt x (List.mem_filter.1 hx).1, fun k hk hn => ?_⟩
  obtain ⟨x, hx, e⟩ := h.mem k hk
  exact ⟨x, List.mem_filter.2 ⟨hx, by simpa [e] using hn⟩, e⟩
theorem Gone.unpin {room : Int} {most : Nat} {s : CSt} {n : Name} {k : CKey} {P : List CKey} (h : Gone n (k :: P) s) (hI : CInv room most s) :
    ((cunpin k s).1 = 0 ↔ k.1 ≠ n) ∧ Gone n P (cunpin k s).2 := by
  unfold cunpin
  cases hg : lget k s.L with
  | none =>
    have hno := get_none_iff.1 hg
    have hkn : k.1 = n := by
      cases Decidable.em (k.1 = n) with
      | inl e => exact e
      | inr e =>
        obtain ⟨x, hx, e2⟩ := h.mem k (by simp) e
        exact absurd e2 (hno x hx)
    simp only
    refine ⟨by simp [hkn], h.no, fun x hx => ?_, fun j hj hn => h.mem j (by simp [hj]) hn⟩
    rw [h.cnt x hx, List.count_cons, if_neg (by simpa using Ne.symm (hno x hx))]
    rfl
  | some x =>
    obtain ⟨hx, rfl⟩ := (get_some_iff hI.nd).1 hg
    have hp : x.pins ≠ 0 := by rw [h.cnt x hx]; simp
    simp only
    rw [if_neg hp]
    refine ⟨by simpa using h.no x hx, fun y hy => ?_, fun y hy => ?_, fun j hj hn => ?_⟩
    · obtain ⟨z, hz, ⟨e, rfl⟩ | ⟨e, rfl⟩⟩ := map_mem hy
      · exact h.no z hz
      · exact h.no _ hz
    · obtain ⟨z, hz, ⟨e, rfl⟩ | ⟨e, rfl⟩⟩ := map_mem hy
      · simp only
        rw [h.cnt z hz, e]
        simp
      · rw [h.cnt _ hz, List.count_cons, if_neg (by simpa using Ne.symm e)]
        rfl
    · obtain ⟨z, hz, e⟩ := h.mem j (by simp [hj]) hn
      refine ⟨if z.key = x.key then { z with pins := z.pins - 1 } else z, List.mem_map_of_mem (f := fun z : CE => if z.key = x.key then { z with pins := z.pins - 1 } else z) hz, ?_⟩
      split <;> exact e
theorem Gone.done {s : CSt} {n : Name} (h : Gone n [] s) : (s.L.filter fun x => decide (0 < x.pins)) = [] := by
  rw [List.filter_eq_nil_iff]
  intro x hx
  rw [h.cnt x hx]
  simp
/-- how many pages of a file are there -/
def lcount (n : Name) (L : List CE) (m : Nat) : Nat := ((List.range m).filter fun (i : Nat) => (lget (n, (i : Int)) L).isSome).length
theorem lcount_zero (n : Name) (L : List CE) : lcount n L 0 = 0 := rfl
theorem lcount_succ (n : Name) (L : List CE) (m : Nat) : lcount n L (m + 1) = lcount n L m + if (lget (n, (m : Int)) L).isSome then 1 else 0 := by
  unfold lcount
  rw [List.range_succ, List.filter_append, List.length_append]
  congr 1
  by_cases h : (lget (n, (m : Int)) L).isSome
  · simp [h]
  · simp [h]
theorem lcount_all (n : Name) : ∀ (m : Nat) {L : List CE}, (L.map (·.key)).Nodup → (∀ x ∈ L, 0 ≤ x.key.2 ∧ x.key.2 < (m : Int)) → lcount n L m = (L.filter fun x => decide (x.key.1 = n)).length
  | 0, L, hn, hi => by
    cases L with
    | nil => rfl
    | cons x L => have := hi x (by simp); omega
  | m + 1, L, hn, hi => by
    have hsub : ((L.filter fun x => decide (x.key.2 < (m : Int))).map (·.key)).Nodup := hn.sublist (List.Sublist.map _ List.filter_sublist)
    have ih := lcount_all n m hsub (fun x hx => ⟨(hi x (List.mem_filter.1 hx).1).1, by simpa using (List.mem_filter.1 hx).2⟩)
    rw [lcount_succ]
    have e1 : lcount n L m = lcount n (L.filter fun x => decide (x.key.2 < (m : Int))) m := by
      unfold lcount
      congr 1
      refine List.filter_congr fun i hi2 => ?_
      have hlt := List.mem_range.1 hi2
      rw [Bool.eq_iff_iff]
      constructor
      · intro h
        obtain ⟨x, hx⟩ := Option.isSome_iff_exists.1 h
        obtain ⟨h1, h2⟩ := (get_some_iff hn).1 hx
        rw [(get_some_iff hsub).2 ⟨List.mem_filter.2 ⟨h1, by rw [h2]; simp; omega⟩, h2⟩]
        rfl
      · intro h
        obtain ⟨x, hx⟩ := Option.isSome_iff_exists.1 h
        obtain ⟨h1, h2⟩ := (get_some_iff hsub).1 hx
        rw [(get_some_iff hn).2 ⟨(List.mem_filter.1 h1).1, h2⟩]
        rfl
    rw [e1, ih, List.filter_filter]
    clear ih e1 hsub
    induction L with
    | nil => simp [lget]
    | cons x L ihL =>
      rw [List.map_cons, List.nodup_cons] at hn
      have ihL := ihL hn.2 (fun y hy => hi y (List.mem_cons_of_mem _ hy))
      have hx := hi x (by simp)
      have eget : ∀ b : Bool, b = decide (x.key = (n, (m : Int))) → (lget (n, (m : Int)) (x :: L)).isSome = (b || (lget (n, (m : Int)) L).isSome) := fun b hb => by
        unfold lget
        rw [List.find?_cons, ← hb]
        cases b <;> rfl
      rw [eget _ rfl]
      by_cases h1 : x.key.1 = n
      · by_cases h2 : x.key.2 < (m : Int)
        · have h3 : ¬ x.key = (n, (m : Int)) := fun e => by rw [e] at h2; simp at h2
          rw [List.filter_cons_of_pos (by simp [h1, h2]), List.filter_cons_of_pos (by simpa using h1)]
          simp only [decide_eq_false h3, Bool.false_or, List.length_cons]
          omega
        · have h3 : x.key = (n, (m : Int)) := Prod.ext h1 (by simp only; omega)
          have h4 : lget (n, (m : Int)) L = none := get_none_iff.2 fun y hy e => hn.1 (by rw [h3, ← e]; exact List.mem_map_of_mem hy)
          rw [h4] at ihL
          rw [List.filter_cons_of_neg (by simp [h1, h2]), List.filter_cons_of_pos (by simpa using h1)]
          simp only [decide_eq_true h3, Bool.true_or, if_true, List.length_cons]
          simp at ihL
          simp
          omega
      · have h3 : ¬ x.key = (n, (m : Int)) := fun e => h1 (congrArg Prod.fst e)
        rw [List.filter_cons_of_neg (by simp [h1]), List.filter_cons_of_neg (by simpa using h1)]
        simp only [decide_eq_false h3, Bool.false_or]
        exact ihL
theorem drop_len (n : Name) (s : CSt) : (cdrop n s).L.length + (s.L.filter fun x => decide (x.key.1 = n)).length = s.L.length := by
  unfold cdrop
  simp only
  induction s.L with
  | nil => rfl
  | cons x L ih =>
    by_cases h : x.key.1 = n
    · rw [List.filter_cons_of_neg (by simpa using h), List.filter_cons_of_pos (by simpa using h)]
      simp only [List.length_cons]; omega
    · rw [List.filter_cons_of_pos (by simpa using h), List.filter_cons_of_neg (by simpa using h)]
      simp only [List.length_cons]; omega
/-- pages of one file, one byte each, in the order of their use -/
def omk (n : Name) (k : Nat) : CE := ⟨(n, (k : Int)), [UInt8.ofNat k], 0⟩
def onext (most k : Nat) (l : List Nat) : List Nat := (if k ∈ l then l.filter (fun j => decide (j ≠ k)) else if most ≤ l.length then l.tail else l) ++ [k]
structure OldRep (n : Name) (most : Nat) (l : List Nat) (s : CSt) : Prop where
  L : s.L = l.map (omk n)
  nd : l.Nodup
  len : l.length ≤ most
  lt : ∀ k ∈ l, k < 12
  F : ∀ k, k < 12 → k < (fpg n s.F).length ∧ (fpg n s.F).getD k [] = encB [UInt8.ofNat k]
  left : s.left = -1
theorem omk_inj {n : Name} {a b : Nat} (h : (omk n a).key = (omk n b).key) : a = b := by
  unfold omk at h
  have := congrArg Prod.snd h
  simp at this
  omega
theorem omap_get (n : Name) (k : Nat) : ∀ l : List Nat, lget (n, (k : Int)) (l.map (omk n)) = if k ∈ l then some (omk n k) else none
  | [] => rfl
  | j :: l => by
    have ih := omap_get n k l
    unfold lget at ih ⊢
    rw [List.map_cons]
    by_cases h : j = k
    · subst h
      rw [List.find?_cons_of_pos (by simp [omk]), if_pos (by simp)]
    · rw [List.find?_cons_of_neg (by simp [omk]; omega), ih]
      by_cases h2 : k ∈ l
      · rw [if_pos h2, if_pos (by simp [h2])]
      · rw [if_neg h2, if_neg (by simp [h2]; omega)]
theorem omap_wo (n : Name) (k : Nat) (l : List Nat) : lwo (n, (k : Int)) (l.map (omk n)) = (l.filter fun j => decide (j ≠ k)).map (omk n) := by
  unfold lwo
  rw [List.filter_map]
  congr 1
  refine List.filter_congr fun j _ => ?_
  rw [Bool.eq_iff_iff]
  simp [omk]
  omega
theorem omap_old (n : Name) (l : List Nat) : lold (l.map (omk n)) = l.head?.map (omk n) := by
  cases l with
  | nil => rfl
  | cons j l => rfl
theorem onext_nd {most k : Nat} {l : List Nat} (h : l.Nodup) : (onext most k l).Nodup := by
  unfold onext
  refine List.nodup_append.2 ⟨?_, by simp, fun a ha b hb e => ?_⟩
  · split
    · exact h.sublist List.filter_sublist
    · split
      · exact h.sublist (List.tail_sublist l)
      · exact h
  · simp at hb
    rw [hb] at e
    subst e
    split at ha
    · simpa using (List.mem_filter.1 ha).2
    · next hn =>
      split at ha
      · exact hn (List.mem_of_mem_tail ha)
      · exact hn ha
theorem filter_ne_len {k : Nat} : ∀ {l : List Nat}, l.Nodup → k ∈ l → (l.filter fun j => decide (j ≠ k)).length + 1 = l.length
  | [], _, h => by cases h
  | j :: l, hn, h => by
    rw [List.nodup_cons] at hn
    by_cases e : j = k
    · subst e
      rw [List.filter_cons_of_neg (by simp), List.filter_eq_self.2 (fun z hz => by simp; rintro rfl; exact hn.1 hz)]
      rfl
    · rw [List.filter_cons_of_pos (by simpa using e)]
      have := filter_ne_len hn.2 ((List.mem_cons.1 h).resolve_left (Ne.symm e))
      simp only [List.length_cons]
      omega
theorem onext_len {most k : Nat} {l : List Nat} (h : l.Nodup) (hl : l.length ≤ most) (h1 : 1 ≤ most) : (onext most k l).length ≤ most := by
  unfold onext
  rw [List.length_append]
  split
  · next hm => have := filter_ne_len h hm; simp; simp at this; omega
  · split
    · simp; omega
    · simp; omega
theorem onext_lt {most k : Nat} {l : List Nat} (h : ∀ j ∈ l, j < 12) (hk : k < 12) : ∀ j ∈ onext most k l, j < 12 := by
  intro j hj
  unfold onext at hj
  rcases List.mem_append.1 hj with hj | hj
  · split at hj
    · exact h j (List.mem_filter.1 hj).1
    · split at hj
      · exact h j (List.mem_of_mem_tail hj)
      · exact h j hj
  · simp at hj; omega
theorem omap_keys {n : Name} {l : List Nat} (h : l.Nodup) : ((l.map (omk n)).map (·.key)).Nodup := by
  rw [List.map_map]
  exact List.pairwise_map.2 (h.imp fun hab e => hab (omk_inj (n := n) e))
theorem OldRep.step {n : Name} {most k : Nat} {l : List Nat} {s : CSt} (h : OldRep n most l s) (h1 : 1 ≤ most) (hk : k < 12) :
    (cget most (n, (k : Int)) s).1 = [UInt8.ofNat k] ∧ (cget most (n, (k : Int)) s).2.1 = 0 ∧ OldRep n most (onext most k l) (cget most (n, (k : Int)) s).2.2 := by
  have hg := omap_get n k l
  rw [← h.L] at hg
  have hnd : (s.L.map (·.key)).Nodup := by rw [h.L]; exact omap_keys h.nd
  by_cases hm : k ∈ l
  · rw [if_pos hm] at hg
    have hc : cfind most (n, (k : Int)) s = (0, { s with L := luse (n, (k : Int)) id s.L, clk := s.clk + 1 }) := by unfold cfind; rw [hg, if_pos (by rfl)]
    have hx := ((get_some_iff hnd).1 hg).1
    have hu : luse (n, (k : Int)) id s.L = (onext most k l).map (omk n) := by
      have := use_len hnd hx id
      rw [show (omk n k).key = (n, (k : Int)) from rfl] at this
      rw [this, h.L, omap_wo]
      unfold onext
      rw [if_pos hm, List.map_append]
      rfl
    unfold cget
    rw [hc, if_pos rfl]
    simp only
    refine ⟨?_, trivial, ⟨hu, onext_nd h.nd, onext_len h.nd h.len h1, onext_lt h.lt hk, h.F, h.left⟩⟩
    rw [hu]
    unfold onext
    rw [List.map_append, List.map_cons, List.map_nil, data_last (k := (n, (k : Int))) (x := omk n k) rfl (fun y hy => ?_)]
    · rfl
    · rw [if_pos hm] at hy
      obtain ⟨j, hj, rfl⟩ := List.mem_map.1 hy
      intro e
      have := omk_inj (n := n) (a := j) (b := k) e
      have := (List.mem_filter.1 hj).2
      simp at this
      omega
  · rw [if_neg hm] at hg
    obtain ⟨f1, f2⟩ := h.F k hk
    have hlf : lfull most s.L = false := by
      unfold lfull
      rw [h.L, omap_old]
      cases l with
      | nil => simp; omega
      | cons => simp
    have hfr : frd s.left s.F n (k : Int) = (0, encB [UInt8.ofNat k], -1) := by
      unfold frd
      rw [if_pos (by omega), h.left, if_neg (by decide), show ((k : Int)).toNat = k by omega, f2]
      rfl
    have hp : pageB (encB [UInt8.ofNat k]) = true := page_enc (by simp)
    have hdt : datB (encB [UInt8.ofNat k]) = [UInt8.ofNat k] := dat_enc (by simp)
    have hrm : lroom most s.L ++ [⟨(n, (k : Int)), [UInt8.ofNat k], 0⟩] = (onext most k l).map (omk n) := by
      unfold onext lroom
      rw [if_neg hm, List.map_append, h.L, List.length_map]
      congr 1
      by_cases hf : most ≤ l.length
      · rw [if_pos hf, if_pos hf, omap_old]
        cases l with
        | nil => rfl
        | cons j l =>
          simp only [List.head?_cons, Option.map_some, List.tail_cons]
          rw [show (omk n j).key = (n, (j : Int)) from rfl, omap_wo]
          congr 1
          have := h.nd
          rw [List.nodup_cons] at this
          rw [List.filter_cons_of_neg (by simp), List.filter_eq_self.2 (fun z hz => by simp; rintro rfl; exact this.1 hz)]
      · rw [if_neg hf, if_neg hf]
    have hc : cfind most (n, (k : Int)) s = (0, { s with left := -1, L := (onext most k l).map (omk n), clk := s.clk + 1 }) := by
      unfold cfind
      rw [hg, if_neg (by simp), hlf, if_neg (by simp)]
      simp only
      rw [hfr]
      simp only
      rw [if_neg (by simp), if_pos hp, hdt, hrm]
    unfold cget
    rw [hc, if_pos rfl]
    simp only
    refine ⟨?_, trivial, ⟨rfl, onext_nd h.nd, onext_len h.nd h.len h1, onext_lt h.lt hk, h.F, rfl⟩⟩
    unfold onext
    rw [List.map_append, List.map_cons, List.map_nil, data_last (k := (n, (k : Int))) (x := omk n k) rfl (fun y hy => ?_)]
    · rfl
    · rw [if_neg hm] at hy
      obtain ⟨j, hj, rfl⟩ := List.mem_map.1 hy
      intro e
      have e2 := omk_inj (n := n) (a := j) (b := k) e
      subst e2
      split at hj
      · exact hm (List.mem_of_mem_tail hj)
      · exact hm hj
/-- the latest ones first -/
theorem onext_rev {most k : Nat} {l : List Nat} (hn : l.Nodup) (hl : l.length ≤ most) (h1 : 1 ≤ most) : (onext most k l).reverse = (k :: l.reverse.filter fun j => decide (j ≠ k)).take most := by
  unfold onext
  rw [List.reverse_append, List.reverse_cons, List.reverse_nil, List.nil_append, List.singleton_append]
  by_cases hm : k ∈ l
  · rw [if_pos hm, ← List.filter_reverse, List.take_of_length_le]
    have := filter_ne_len (l := l.reverse) ((List.reverse_perm l).nodup_iff.2 hn) (by simpa using hm)
    simp only [List.length_cons, List.length_reverse] at this ⊢
    omega
  · have e : (l.reverse.filter fun j => decide (j ≠ k)) = l.reverse := List.filter_eq_self.2 (fun z hz => by simp; rintro rfl; exact hm (by simpa using hz))
    rw [if_neg hm, e]
    by_cases hf : most ≤ l.length
    · rw [if_pos hf]
      obtain ⟨m, rfl⟩ : ∃ m, most = m + 1 := ⟨most - 1, by omega⟩
      rw [List.take_succ_cons]
      congr 1
      cases l with
      | nil => simp
      | cons j l =>
        simp only [List.tail_cons, List.reverse_cons]
        rw [List.take_append_of_le_length (by simp at hl hf ⊢; omega), List.take_of_length_le (by simp at hl hf ⊢; omega)]
    · rw [if_neg hf, List.take_of_length_le (by simp; omega)]
/-- what is there is got without a read -/
theorem there_got {most : Nat} {k : CKey} {s : CSt} {K : List CKey} (hn : (s.L.map (·.key)).Nodup) (hK : ∀ j ∈ K, ∃ x ∈ s.L, x.key = j) (hk : k ∈ K) :
    (cget most k s).2.1 = 0 ∧ (((cget most k s).2.2).L.map (·.key)).Nodup ∧ (∀ j ∈ K, ∃ x ∈ (cget most k s).2.2.L, x.key = j) ∧ (cget most k s).2.2.F = s.F ∧ (cget most k s).2.2.left = s.left := by
  obtain ⟨x, hx, rfl⟩ := hK k hk
  have hg := (get_some_iff hn).2 ⟨hx, rfl⟩
  have hc : cfind most x.key s = (0, { s with L := luse x.key id s.L, clk := s.clk + 1 }) := by unfold cfind; rw [hg, if_pos (by rfl)]
  unfold cget
  rw [hc, if_pos rfl]
  simp only
  rw [use_len hn hx]
  refine ⟨trivial, nd_snoc (k := x.key) (wo_keys hn) (fun y hy => (wo_mem.1 hy).2), fun j hj => ?_, trivial, trivial⟩
  obtain ⟨y, hy, e⟩ := hK j hj
  by_cases e2 : y.key = x.key
  · exact ⟨x, by simp, by rw [← e2, e]⟩
  · exact ⟨y, List.mem_append_left _ (wo_mem.2 ⟨hy, e2⟩), e⟩
end Go.Proofs.YtkhbemmcegmdaaaGreatDoor
end
section
namespace Go.Proofs.YtkhbemmcegmdaaaGreatDoor

theorem snoc_ind {α : Type} {P : List α → Prop} (h0 : P []) (h1 : ∀ l a, P l → P (l ++ [a])) : ∀ l, P l := by
  intro l
  have h : ∀ n (l : List α), l.length = n → P l := by
    intro n
    induction n with
    | zero => intro l hl; rw [List.length_eq_zero_iff.1 hl]; exact h0
    | succ n ih =>
      intro l hl
      have hne : l ≠ [] := by intro h; subst h; simp at hl
      rw [← List.dropLast_concat_getLast hne]
      exact h1 _ _ (ih _ (by simp [hl]))
  exact h _ l rfl

/-- the last k digits of x to the base 256, the highest one first -/
def encW : Nat → Nat → List UInt8
  | 0, _ => []
  | k + 1, x => encW k (x / 256) ++ [UInt8.ofNat x]

theorem encW_len (k : Nat) : ∀ x, (encW k x).length = k := by
  induction k with
  | zero => intro x; rfl
  | succ k ih => intro x; simp [encW, ih]

theorem encW_left (k : Nat) : ∀ x, encW (k + 1) x = UInt8.ofNat (x / 256 ^ k) :: encW k x := by
  induction k with
  | zero => intro x; simp [encW]
  | succ k ih =>
    intro x
    rw [encW, ih, encW]
    simp [Nat.div_div_eq_div_mul, Nat.pow_succ, Nat.mul_comm]

/-- a list of digits as a number -/
def numB (l : List UInt8) : Nat := l.foldl (fun n c => n * 256 + c.toNat) 0

theorem numB_snoc (l : List UInt8) (c : UInt8) : numB (l ++ [c]) = numB l * 256 + c.toNat := by simp [numB, List.foldl_append]

theorem numB_lt (l : List UInt8) : numB l < 256 ^ l.length := by
  induction l using snoc_ind with
  | h0 => simp [numB]
  | h1 l c ih =>
    rw [numB_snoc, List.length_append, List.length_singleton, Nat.pow_succ]
    have := c.toNat_lt
    omega

theorem numB_encW (k : Nat) : ∀ x, x < 256 ^ k → numB (encW k x) = x := by
  induction k with
  | zero => intro x hx; simp at hx; simp [encW, numB, hx]
  | succ k ih =>
    intro x hx
    rw [encW, numB_snoc, ih (x / 256) (by rw [Nat.pow_succ] at hx; omega)]
    simp
    omega

theorem encW_numB (l : List UInt8) : encW l.length (numB l) = l := by
  induction l using snoc_ind with
  | h0 => rfl
  | h1 l c ih =>
    rw [List.length_append, List.length_singleton, encW, numB_snoc]
    have := c.toNat_lt
    rw [show (numB l * 256 + c.toNat) / 256 = numB l by omega, ih]
    congr 2
    apply UInt8.toNat.inj
    simp

/-- the numbers of 64 bytes, of which the first ones are read -/
def decs (l : List UInt8) : List Nat := (List.range 8).map fun j => numB ((l.drop (8 * j)).take 8)

theorem decs_len (l : List UInt8) : (decs l).length = 8 := by simp [decs]
theorem decs_getD (l : List UInt8) {j : Nat} (h : j < 8) : (decs l).getD j 0 = numB ((l.drop (8 * j)).take 8) := by
  simp [decs, List.getD, h]
theorem decs_lt (l : List UInt8) : ∀ x ∈ decs l, x < 18446744073709551616 := by
  intro x hx
  obtain ⟨j, _, rfl⟩ := List.mem_map.1 hx
  have h := numB_lt ((l.drop (8 * j)).take 8)
  have h2 : 256 ^ ((l.drop (8 * j)).take 8).length ≤ 256 ^ 8 := Nat.pow_le_pow_right (by omega) (List.length_take_le _ _)
  omega

theorem seg_snoc (l : List UInt8) (c : UInt8) (j : Nat) :
    ((l ++ [c]).drop (8 * j)).take 8 = if 8 * j ≤ l.length ∧ l.length < 8 * j + 8 then (l.drop (8 * j)).take 8 ++ [c] else (l.drop (8 * j)).take 8 := by
  split
  · rename_i h
    rw [List.drop_append_of_le_length h.1, List.take_of_length_le (by simp; omega), List.take_of_length_le (by simp; omega)]
  · rename_i h
    by_cases h1 : 8 * j ≤ l.length
    · rw [List.drop_append_of_le_length h1, List.take_append_of_le_length (by simp; omega)]
    · rw [List.drop_eq_nil_of_le (by simp; omega), List.drop_eq_nil_of_le (by omega)]

theorem decs_snoc (l : List UInt8) (c : UInt8) (h : l.length < 64) :
    decs (l ++ [c]) = (decs l).set (l.length / 8) ((decs l).getD (l.length / 8) 0 * 256 + c.toNat) := by
  apply List.ext_getElem
  · simp [decs_len]
  · intro j h1 h2
    have hj : j < 8 := by simpa [decs_len] using h1
    rw [List.getElem_set]
    have e : ∀ m : List UInt8, ∀ hh : j < (decs m).length, (decs m)[j] = numB ((m.drop (8 * j)).take 8) := fun m hh => by simp [decs]
    rw [e, e, seg_snoc]
    by_cases hc : 8 * j ≤ l.length ∧ l.length < 8 * j + 8
    · have : l.length / 8 = j := by omega
      rw [if_pos hc, if_pos this, numB_snoc, this, decs_getD l hj]
    · rw [if_neg hc, if_neg (by omega)]

theorem decs_part_lt (l : List UInt8) (h : l.length < 64) : (decs l).getD (l.length / 8) 0 < 72057594037927936 := by
  rw [decs_getD l (by omega)]
  have h1 := numB_lt ((l.drop (8 * (l.length / 8))).take 8)
  have h2 : 256 ^ ((l.drop (8 * (l.length / 8))).take 8).length ≤ 256 ^ 7 := Nat.pow_le_pow_right (by omega) (by simp; omega)
  omega

theorem encs_len (xs : List Nat) : (xs.flatMap (encW 8)).length = 8 * xs.length := by
  induction xs with
  | nil => rfl
  | cons x xs ih => simp [encW_len, ih]; omega

theorem encs_seg (xs : List Nat) : ∀ j, (h : j < xs.length) → ((xs.flatMap (encW 8)).drop (8 * j)).take 8 = encW 8 xs[j] := by
  induction xs with
  | nil => intro j h; simp at h
  | cons x xs ih =>
    intro j h
    cases j with
    | zero =>
      rw [List.flatMap_cons, Nat.mul_zero, List.drop_zero, List.take_append_of_le_length (by simp [encW_len]), List.take_of_length_le (by simp [encW_len])]
      rfl
    | succ j =>
      rw [List.flatMap_cons, List.drop_append, encW_len, List.drop_eq_nil_of_le (by simp [encW_len]; omega), List.nil_append, show 8 * (j + 1) - 8 = 8 * j by omega]
      exact ih j (by simpa using h)

theorem decs_encs (xs : List Nat) (h8 : xs.length = 8) (hlt : ∀ x ∈ xs, x < 18446744073709551616) : decs (xs.flatMap (encW 8)) = xs := by
  apply List.ext_getElem
  · rw [decs_len, h8]
  · intro j h1 h2
    have e : ∀ m : List UInt8, ∀ hh : j < (decs m).length, (decs m)[j] = numB ((m.drop (8 * j)).take 8) := fun m hh => by simp [decs]
    rw [e, encs_seg xs j h2, numB_encW]
    exact hlt _ (List.getElem_mem h2)

theorem flatMap_congr' {α β : Type} {l : List α} {f g : α → List β} (h : ∀ x ∈ l, f x = g x) : l.flatMap f = l.flatMap g := by
  induction l with
  | nil => rfl
  | cons x l ih => rw [List.flatMap_cons, List.flatMap_cons, h x (by simp), ih (fun y hy => h y (by simp [hy]))]

theorem flatMap_segs (l : List UInt8) : ∀ n k, 8 * (k + n) = l.length → ((List.range' k n).map fun j => (l.drop (8 * j)).take 8).flatMap id = l.drop (8 * k) := by
  intro n
  induction n with
  | zero => intro k h; simp; omega
  | succ n ih =>
    intro k h
    rw [List.range'_succ, List.map_cons, List.flatMap_cons, ih (k + 1) (by omega)]
    show (l.drop (8 * k)).take 8 ++ l.drop (8 * (k + 1)) = _
    rw [show 8 * (k + 1) = 8 * k + 8 by omega, ← List.drop_drop]
    exact List.take_append_drop 8 _

theorem encs_decs (l : List UInt8) (h : l.length = 64) : (decs l).flatMap (encW 8) = l := by
  have h1 := flatMap_segs l 8 0 (by omega)
  rw [← List.range_eq_range', Nat.mul_zero, List.drop_zero] at h1
  refine Eq.trans ?_ h1
  rw [decs, List.flatMap_map, List.flatMap_map]
  apply flatMap_congr'
  intro j hj
  have hj' : j < 8 := by simpa using hj
  have e := encW_numB ((l.drop (8 * j)).take 8)
  rw [show ((l.drop (8 * j)).take 8).length = 8 by simp; omega] at e
  exact e
end Go.Proofs.YtkhbemmcegmdaaaGreatDoor
end
section
set_option linter.unusedVariables false
set_option maxRecDepth 100000
namespace Go.Proofs.YtkhbemmcegmdaaaGreatDoor
def encS8 (xs : List Nat) : List UInt8 := xs.flatMap (encW 8)
theorem encS8_len {xs : List Nat} (h : xs.length = 8) : (encS8 xs).length = 64 := by unfold encS8; rw [encs_len, h]
theorem decs_enc {xs : List Nat} (h8 : xs.length = 8) (hlt : ∀ x ∈ xs, x < 18446744073709551616) : decs (encS8 xs) = xs := decs_encs xs h8 hlt
/-- a segment that is resident -/
structure Seg where
  key : Nat
  v : List Nat
  set : Bool
/-- a store: what is resident; whose segments' pages there are, in order -/
structure SSt where
  T : List Seg
  PK : List Nat
def zeros8 : List Nat := List.replicate 8 0
def cont (F : FileL) (n : Name) (j : Nat) : List Nat := decs (datB ((fpg n F).getD j []))
/-- what is on pages -/
def sbase (F : FileL) (n : Name) (PK : List Nat) (k : Nat) : List Nat := if k ∈ PK then cont F n (PK.idxOf k) else zeros8
def sval (F : FileL) (n : Name) (t : SSt) (k : Nat) : List Nat := match t.T.find? (fun g => decide (g.key = k)) with | some g => g.v | none => sbase F n t.PK k
/-- a cache at rest: no pins, no read that fails, what is there is what is on pages -/
structure CRest (room : Int) (most : Nat) (s : CSt) : Prop where
  inv : CInv room most s
  same : AllSame s
  pins : ∀ x ∈ s.L, x.pins = 0
/-- a store of so many segments -/
structure SInv (n : Name) (segs most : Nat) (t : SSt) (F : FileL) : Prop where
  nam : nameB n = true
  pnd : t.PK.Nodup
  plt : ∀ k ∈ t.PK, k < segs
  pgs : (fpg n F).length = t.PK.length
  pok : ∀ j, j < t.PK.length → pageB ((fpg n F).getD j []) = true ∧ (datB ((fpg n F).getD j [])).length = 64
  tnd : (t.T.map (·.key)).Nodup
  tlt : ∀ g ∈ t.T, g.key < segs
  tle : t.T.length ≤ most
  tv : ∀ g ∈ t.T, g.v.length = 8 ∧ ∀ x ∈ g.v, x < 18446744073709551616
  tun : ∀ g ∈ t.T, g.set = false → g.v = sbase F n t.PK g.key
theorem CRest.notfull {room : Int} {most : Nat} {s : CSt} (h : CRest room most s) (h1 : 1 ≤ most) : lfull most s.L = false := by
  unfold lfull
  cases ho : lold s.L with
  | some x => simp
  | none =>
    cases hl : s.L with
    | nil => simp; omega
    | cons x L => exact absurd (h.pins x (by rw [hl]; simp)) (old_none.1 ho x (by rw [hl]; simp))
theorem CRest.put {room : Int} {most : Nat} {s : CSt} (h : CRest room most s) (h1 : 1 ≤ most) (k : CKey) (d : List UInt8) (hd : d.length ≤ 122) (h0 : (fsput room s.F k.1 k.2 (encB d)).1 = 0) :
    (cput room most k d s).1 = 0 ∧ (cput room most k d s).2.F = (fsput room s.F k.1 k.2 (encB d)).2 ∧ (cput room most k d s).2.left = s.left ∧ CRest room most (cput room most k d s).2 := by
  have hi := h.inv.putted h1 k d
  have hs := h.same.step h.inv ⟨4, k.1, k.2, d, 0⟩ (by simp)
  have hw := cput_ways room most k d s h.inv.nd
  unfold cstep at hs
  simp only [CAct.key] at hs
  generalize (cput room most k d s).1 = e at *
  generalize (cput room most k d s).2 = s' at *
  cases hw with
  | long hl => omega
  | full _ _ hf => rw [h.notfull h1] at hf; cases hf
  | bad _ _ hb => exact absurd h0 hb
  | there _ x hx hk _ =>
    refine ⟨rfl, rfl, rfl, hi, hs, fun y hy => ?_⟩
    rcases List.mem_append.1 hy with hy | hy
    · exact h.pins y (wo_mem.1 hy).1
    · rw [List.mem_singleton] at hy; rw [hy]; exact h.pins x hx
  | come =>
    refine ⟨rfl, rfl, rfl, hi, hs, fun y hy => ?_⟩
    rcases List.mem_append.1 hy with hy | hy
    · exact h.pins y ((room_sub _ _).subset hy)
    · rw [List.mem_singleton] at hy; rw [hy]
/-- a page pinned, and let go again -/
theorem CRest.read0 {room : Int} {most : Nat} {s : CSt} (h : CRest room most s) (h1 : 1 ≤ most) (k : CKey) (h0 : (cfind most k s).1 = 0) :
    (cpin most k s).2.1 = 0 ∧ (cpin most k s).1 = datB ((fpg k.1 s.F).getD k.2.toNat []) ∧ (cunpin k (cpin most k s).2.2).1 = 0 ∧ (cpin most k s).2.2.F = s.F ∧
    CRest room most (cunpin k (cpin most k s).2.2).2 ∧ (cunpin k (cpin most k s).2.2).2.F = s.F ∧ ((cunpin k (cpin most k s).2.2).2.left = s.left ∨ (cunpin k (cpin most k s).2.2).2.left = rdLeft s.left) := by
  have hpi := h.inv.pinned h1 k
  have hui := hpi.unpinned k
  obtain ⟨M, x, e, hx, hM, hMs, _, hc, hF, hxs⟩ := cfind_last h.inv.nd h0
  have hleft : (cfind most k s).2.left = s.left ∨ (cfind most k s).2.left = rdLeft s.left := by
    have hw := cfind_ways most k s h.inv.nd
    generalize (cfind most k s).1 = e at *
    generalize (cfind most k s).2 = s' at *
    cases hw <;> first | exact .inl rfl | exact .inr rfl | cases h0
  have hsame := h.same.find h.inv k
  have hnd := (h.inv.find h1 k).nd
  have hx0 : x.pins = 0 := by
    rcases hxs with hxs | hxs
    · exact h.pins x hxs
    · exact hxs.2
  have hsx := hsame x (by rw [e]; simp)
  unfold cpin at hui ⊢
  rw [if_pos h0] at hui ⊢
  simp only at hui ⊢
  have hlm : lmap k (fun x => { x with pins := x.pins + 1 }) (cfind most k s).2.L = M ++ [{ x with pins := 1 }] := by
    rw [e]
    unfold lmap
    rw [List.map_append, List.map_cons, List.map_nil, if_pos hx]
    simp only [hx0]
    congr 1
    conv => rhs; rw [← List.map_id M]
    exact List.map_congr_left fun z hz => by rw [if_neg (hM z hz)]; rfl
  have hgl : lget k (M ++ [{ x with pins := 1 }]) = some { x with pins := 1 } := by
    unfold lget
    rw [List.find?_append, List.find?_eq_none.2 (by simpa using hM)]
    simp [hx]
  have hlm2 : lmap k (fun x => { x with pins := x.pins - 1 }) (M ++ [{ x with pins := 1 }]) = M ++ [x] := by
    unfold lmap
    rw [List.map_append, List.map_cons, List.map_nil, if_pos hx]
    congr 1
    · conv => rhs; rw [← List.map_id M]
      exact List.map_congr_left fun z hz => by rw [if_neg (hM z hz)]; rfl
    · simp [← hx0]
  rw [hlm] at hui ⊢
  unfold cunpin at hui ⊢
  rw [hgl] at hui ⊢
  simp only at hui ⊢
  rw [if_neg (show ¬ (1 : Nat) = 0 by decide)] at hui ⊢
  rw [hlm2] at hui ⊢
  have hdd : ldata k (cfind most k s).2.L = x.data := by rw [e]; exact data_last hx hM
  refine ⟨by first | rfl | trivial, ?_, by first | rfl | trivial, hF, ⟨hui, ?_, ?_⟩, hF, hleft⟩
  · rw [hdd]
    have := hsx.2.2.2
    rw [hx, hF] at this
    exact this.symm
  · intro y hy
    simp only at hy
    rw [← e] at hy
    exact hsame y hy
  · intro y hy
    rcases List.mem_append.1 hy with hy | hy
    · exact h.pins y (hMs y hy)
    · rw [List.mem_singleton] at hy; rw [hy]; exact hx0
/-- a page that is one is found, or its read fails -/
theorem CRest.find {room : Int} {most : Nat} {s : CSt} (h : CRest room most s) (h1 : 1 ≤ most) (k : CKey) (hi : 0 ≤ k.2 ∧ k.2 < ((fpg k.1 s.F).length : Int)) (hp : pageB ((fpg k.1 s.F).getD k.2.toNat []) = true) :
    (cfind most k s).1 = 0 ∨ ((cfind most k s).1 = 60 ∧ s.left = 0 ∧ (cfind most k s).2 = { s with left := -1 }) := by
  have hw := cfind_ways most k s h.inv.nd
  generalize (cfind most k s).1 = e at *
  generalize (cfind most k s).2 = s' at *
  cases hw with
  | there => exact .inl rfl
  | full _ hf => rw [h.notfull h1] at hf; cases hf
  | none _ _ hn => exact absurd hi hn
  | fail _ _ _ hn => exact .inr ⟨rfl, hn, rfl⟩
  | bad _ _ _ _ hb => rw [hp] at hb; cases hb
  | come => exact .inl rfl
def spage (PK : List Nat) (k : Nat) : Nat := if k ∈ PK then PK.idxOf k else PK.length
def spk (PK : List Nat) (k : Nat) : List Nat := if k ∈ PK then PK else PK ++ [k]
theorem spage_le (PK : List Nat) (k : Nat) : spage PK k ≤ PK.length := by
  unfold spage
  split
  · next h => exact Nat.le_of_lt (List.idxOf_lt_length_of_mem h)
  · exact Nat.le_refl _
theorem spk_idx (PK : List Nat) (k : Nat) : (spk PK k).idxOf k = spage PK k := by
  unfold spk spage
  split
  · rfl
  · next h => rw [List.idxOf_append, if_neg h]; simp
theorem spk_mem (PK : List Nat) (k j : Nat) : j ∈ spk PK k ↔ j ∈ PK ∨ j = k := by
  unfold spk
  split
  · next h => exact ⟨.inl, fun h2 => h2.elim id (fun e => by rw [e]; exact h)⟩
  · simp
theorem spk_other {PK : List Nat} {k j : Nat} (h : j ≠ k) (hj : j ∈ PK) : (spk PK k).idxOf j = PK.idxOf j ∧ PK.idxOf j ≠ spage PK k := by
  unfold spk spage
  have hlt := List.idxOf_lt_length_of_mem hj
  split
  · next hk =>
    refine ⟨rfl, fun e => h ?_⟩
    have h1 := List.getElem_idxOf hlt
    have h2 := List.getElem_idxOf (List.idxOf_lt_length_of_mem hk)
    rw [← h1, ← h2]
    congr 1
  · next hk => exact ⟨by rw [List.idxOf_append, if_pos hj], by omega⟩
theorem spk_nd {PK : List Nat} {k : Nat} (h : PK.Nodup) : (spk PK k).Nodup := by
  unfold spk
  split
  · exact h
  · next hk => exact List.nodup_append.2 ⟨h, by simp, fun a ha b hb e => by simp at hb; rw [hb] at e; subst e; exact hk ha⟩
/-- what the files are behind a page of a store -/
theorem fsput_page {room : Int} {F : FileL} {n : Name} {PK : List Nat} {k : Nat} {p : List UInt8} (hI : FInv room F) (hn : (F.map (·.1)).Nodup) (hnam : nameB n = true) (hpg : (fpg n F).length = PK.length) (hp : p.length = 128) (hr : k ∈ PK ∨ ((total F : Nat) : Int) < room) :
    (fsput room F n (spage PK k : Int) p).1 = 0 ∧ (∀ m, m ≠ n → fpg m (fsput room F n (spage PK k : Int) p).2 = fpg m F) ∧ (fpg n (fsput room F n (spage PK k : Int) p).2).length = (spk PK k).length ∧
    (∀ j, (fpg n (fsput room F n (spage PK k : Int) p).2).getD j [] = if j = spage PK k then p else (fpg n F).getD j []) ∧ total (fsput room F n (spage PK k : Int) p).2 + PK.length = total F + (spk PK k).length := by
  have hle := spage_le PK k
  have ht := hI.tot
  unfold fsput
  rw [if_neg (by simp [hnam, hp]; omega)]
  by_cases hk : k ∈ PK
  · have hlt : spage PK k < PK.length := by unfold spage; rw [if_pos hk]; exact List.idxOf_lt_length_of_mem hk
    have e1 : spk PK k = PK := by unfold spk; rw [if_pos hk]
    rw [if_pos (by omega), e1]
    simp only [Int.toNat_natCast]
    have htp := total_put (m := n) (q := (fpg n F).set (spage PK k) p) hn
    rw [List.length_set] at htp
    refine ⟨trivial, fun m hm => by rw [fpg_put, if_neg hm], by rw [fpg_put, if_pos rfl, List.length_set, hpg], fun j => ?_, by omega⟩
    rw [fpg_put, if_pos rfl]
    simp only [List.getD_eq_getElem?_getD]
    by_cases e : j = spage PK k
    · subst e; rw [if_pos rfl, List.getElem?_set_self (by omega)]; rfl
    · rw [if_neg e, List.getElem?_set_ne (Ne.symm e)]
  · have hr := hr.resolve_left hk
    have e0 : spage PK k = PK.length := by unfold spage; rw [if_neg hk]
    have e1 : spk PK k = PK ++ [k] := by unfold spk; rw [if_neg hk]
    rw [if_neg (by omega), if_neg (by omega), e1]
    have htp := total_put (m := n) (q := fpg n F ++ [p]) hn
    rw [List.length_append] at htp
    simp only [List.length_singleton] at htp
    refine ⟨rfl, fun m hm => by rw [fpg_put, if_neg hm], by rw [fpg_put, if_pos rfl]; simp [hpg], fun j => ?_, by simp; omega⟩
    rw [fpg_put, if_pos rfl, e0]
    simp only [List.getD_eq_getElem?_getD]
    by_cases e : j = PK.length
    · subst e; rw [if_pos rfl, ← hpg]; simp
    · rw [if_neg e]
      by_cases h : j < (fpg n F).length
      · rw [List.getElem?_append_left h]
      · rw [List.getElem?_append_right (by omega), List.getElem?_eq_none (by simp; omega), List.getElem?_eq_none (by omega)]
theorem sbase_put {room : Int} {F : FileL} {n : Name} {PK : List Nat} {k : Nat} {v : List Nat} (hI : FInv room F) (hn : (F.map (·.1)).Nodup) (hnam : nameB n = true) (hpg : (fpg n F).length = PK.length) (h8 : v.length = 8) (hlt : ∀ x ∈ v, x < 18446744073709551616) (hr : k ∈ PK ∨ ((total F : Nat) : Int) < room) (j : Nat) :
    sbase (fsput room F n (spage PK k : Int) (encB (encS8 v))).2 n (spk PK k) j = if j = k then v else sbase F n PK j := by
  have hl64 : (encS8 v).length = 64 := encS8_len h8
  obtain ⟨_, _, _, hg, _⟩ := fsput_page (k := k) (p := encB (encS8 v)) hI hn hnam hpg (encB_len (by omega)) hr
  unfold sbase cont
  rw [hg]
  by_cases e : j = k
  · subst e
    rw [if_pos ((spk_mem PK j j).2 (.inr rfl)), spk_idx, if_pos rfl, dat_enc (by omega), decs_enc h8 hlt, if_pos rfl]
  · rw [if_neg e]
    by_cases hj : j ∈ PK
    · obtain ⟨h1, h2⟩ := spk_other e hj
      rw [if_pos ((spk_mem PK k j).2 (.inl hj)), h1, if_neg h2, if_pos hj]
    · rw [if_neg (fun h => ((spk_mem PK k j).1 h).elim hj e), if_neg hj]
def twithout (k : Nat) (T : List Seg) : List Seg := T.filter fun g => decide (g.key ≠ k)
theorem tfind {T : List Seg} {g : Seg} (hn : (T.map (·.key)).Nodup) (hg : g ∈ T) : T.find? (fun x => decide (x.key = g.key)) = some g := by
  induction T with
  | nil => cases hg
  | cons y T ih =>
    rw [List.map_cons, List.nodup_cons] at hn
    by_cases e : y.key = g.key
    · rw [List.find?_cons_of_pos (by simpa using e)]
      rcases List.mem_cons.1 hg with rfl | hg
      · rfl
      · exact absurd (by rw [e]; exact List.mem_map_of_mem hg) hn.1
    · rw [List.find?_cons_of_neg (by simpa using e)]
      rcases List.mem_cons.1 hg with rfl | hg
      · exact absurd rfl e
      · exact ih hn.2 hg
theorem twithout_find {T : List Seg} {k j : Nat} (h : j ≠ k) : (twithout k T).find? (fun x => decide (x.key = j)) = T.find? (fun x => decide (x.key = j)) := by
  unfold twithout
  rw [List.find?_filter]
  congr 1
  funext x
  by_cases e : x.key = j
  · simp [e, h]
  · simp [e]
theorem twithout_none {T : List Seg} {k : Nat} : (twithout k T).find? (fun x => decide (x.key = k)) = none := by
  unfold twithout
  rw [List.find?_eq_none]
  intro x hx
  simpa using (List.mem_filter.1 hx).2
theorem twithout_len {g : Seg} : ∀ {T : List Seg}, (T.map (·.key)).Nodup → g ∈ T → (twithout g.key T).length + 1 = T.length
  | [], _, h => by cases h
  | y :: T, hn, h => by
    rw [List.map_cons, List.nodup_cons] at hn
    unfold twithout
    by_cases he : y.key = g.key
    · have hno : ∀ z ∈ T, ¬ z.key = g.key := fun z hz e => hn.1 (by rw [he, ← e]; exact List.mem_map_of_mem hz)
      rw [List.filter_cons_of_neg (by simpa using he), List.filter_eq_self.2 (fun z hz => by simpa using hno z hz)]
      rfl
    · rw [List.filter_cons_of_pos (by simpa using he)]
      rcases List.mem_cons.1 h with rfl | h
      · exact absurd rfl he
      · have := twithout_len hn.2 h
        unfold twithout at this
        simp only [List.length_cons]
        omega
/-- a segment goes that was not set -/
theorem SInv.goes {n : Name} {segs most : Nat} {t : SSt} {F : FileL} (h : SInv n segs most t F) {g : Seg} (hg : g ∈ t.T) (hs : g.set = false) :
    SInv n segs most { t with T := twithout g.key t.T } F ∧ ∀ k, sval F n { t with T := twithout g.key t.T } k = sval F n t k := by
  refine ⟨{ h with
    tnd := h.tnd.sublist (List.Sublist.map _ List.filter_sublist)
    tlt := fun x hx => h.tlt x (List.mem_filter.1 hx).1
    tle := Nat.le_trans (List.length_filter_le _ _) h.tle
    tv := fun x hx => h.tv x (List.mem_filter.1 hx).1
    tun := fun x hx => h.tun x (List.mem_filter.1 hx).1 }, fun k => ?_⟩
  unfold sval
  by_cases e : k = g.key
  · subst e
    rw [twithout_none, tfind h.tnd hg]
    exact (h.tun g hg hs).symm
  · simp only
    rw [twithout_find e]
/-- a segment goes that was set: its page is laid -/
theorem SInv.wrote {n : Name} {segs most : Nat} {room : Int} {t : SSt} {F : FileL} (h : SInv n segs most t F) (hI : FInv room F) (hn : (F.map (·.1)).Nodup) {g : Seg} (hg : g ∈ t.T) (hr : g.key ∈ t.PK ∨ ((total F : Nat) : Int) < room) :
    SInv n segs most ⟨twithout g.key t.T, spk t.PK g.key⟩ (fsput room F n (spage t.PK g.key : Int) (encB (encS8 g.v))).2 ∧ ∀ k, sval (fsput room F n (spage t.PK g.key : Int) (encB (encS8 g.v))).2 n ⟨twithout g.key t.T, spk t.PK g.key⟩ k = sval F n t k := by
  obtain ⟨v1, v2⟩ := h.tv g hg
  have hl64 : (encS8 g.v).length = 64 := encS8_len v1
  have hb := sbase_put hI hn h.nam h.pgs v1 v2 hr
  obtain ⟨p1, p2, p3, p4, p5⟩ := fsput_page (k := g.key) (p := encB (encS8 g.v)) hI hn h.nam h.pgs (encB_len (by omega)) hr
  refine ⟨⟨h.nam, spk_nd h.pnd, fun k hk => ?_, p3, fun j hj => ?_, h.tnd.sublist (List.Sublist.map _ List.filter_sublist), fun x hx => h.tlt x (List.mem_filter.1 hx).1, Nat.le_trans (List.length_filter_le _ _) h.tle, fun x hx => h.tv x (List.mem_filter.1 hx).1, fun x hx hs => ?_⟩, fun k => ?_⟩
  · rcases (spk_mem _ _ _).1 hk with hk | rfl
    · exact h.plt k hk
    · exact h.tlt g hg
  · rw [p4]
    by_cases e : j = spage t.PK g.key
    · rw [if_pos e]; exact ⟨page_enc (by omega), by rw [dat_enc (by omega)]; exact hl64⟩
    · rw [if_neg e]
      refine h.pok j ?_
      simp only at hj
      unfold spk spage at *
      split at hj
      · exact hj
      · next hk => rw [if_neg hk] at e; simp at hj; omega
  · have hx2 := List.mem_filter.1 hx
    have hne : ¬ x.key = g.key := by simpa using hx2.2
    rw [hb, if_neg hne]
    exact h.tun x hx2.1 hs
  · unfold sval
    by_cases e : k = g.key
    · subst e
      simp only
      rw [twithout_none, tfind h.tnd hg]
      simp only
      rw [hb, if_pos rfl]
    · simp only
      rw [twithout_find e]
      cases t.T.find? fun x => decide (x.key = k) with
      | some x => rfl
      | none => simp only; rw [hb, if_neg e]
/-- a segment comes -/
theorem SInv.come {n : Name} {segs most : Nat} {t : SSt} {F : FileL} (h : SInv n segs most t F) {k : Nat} (hk : k < segs) (hno : ∀ g ∈ t.T, g.key ≠ k) (hl : t.T.length < most) :
    SInv n segs most { t with T := t.T ++ [⟨k, sbase F n t.PK k, false⟩] } F ∧ ∀ j, sval F n { t with T := t.T ++ [⟨k, sbase F n t.PK k, false⟩] } j = sval F n t j := by
  refine ⟨{ h with
    tnd := by
      rw [List.map_append]
      refine List.nodup_append.2 ⟨h.tnd, by simp, fun a ha b hb e => ?_⟩
      simp at hb
      obtain ⟨y, hy, rfl⟩ := List.mem_map.1 ha
      exact hno y hy (e.trans hb)
    tlt := fun x hx => by
      rcases List.mem_append.1 hx with hx | hx
      · exact h.tlt x hx
      · rw [List.mem_singleton] at hx; rw [hx]; exact hk
    tle := by simp; omega
    tv := fun x hx => by
      rcases List.mem_append.1 hx with hx | hx
      · exact h.tv x hx
      · rw [List.mem_singleton] at hx; rw [hx]
        unfold sbase
        split
        · exact ⟨decs_len _, decs_lt _⟩
        · exact ⟨by simp [zeros8], fun y hy => by simp [zeros8] at hy; omega⟩
    tun := fun x hx hs => by
      rcases List.mem_append.1 hx with hx | hx
      · exact h.tun x hx hs
      · rw [List.mem_singleton] at hx; rw [hx] }, fun j => ?_⟩
  unfold sval
  simp only
  rw [List.find?_append]
  by_cases e : j = k
  · subst e
    rw [List.find?_eq_none.2 (by simpa using hno)]
    simp
  · cases t.T.find? fun x => decide (x.key = j) with
    | some x => rfl
    | none => simp [Ne.symm e]
/-- a number set -/
def tset (k r y : Nat) (T : List Seg) : List Seg := T.map fun g => if g.key = k then { g with v := g.v.set r y, set := true } else g
theorem SInv.setv {n : Name} {segs most : Nat} {t : SSt} {F : FileL} (h : SInv n segs most t F) {g : Seg} (hg : g ∈ t.T) {r y : Nat} (hy : y < 18446744073709551616) :
    SInv n segs most { t with T := tset g.key r y t.T } F ∧ ∀ j, sval F n { t with T := tset g.key r y t.T } j = if j = g.key then (sval F n t j).set r y else sval F n t j := by
  have hmem : ∀ x ∈ tset g.key r y t.T, ∃ z ∈ t.T, (z.key = g.key ∧ x = { z with v := z.v.set r y, set := true }) ∨ (z.key ≠ g.key ∧ x = z) := fun x hx => by
    unfold tset at hx
    obtain ⟨z, hz, rfl⟩ := List.mem_map.1 hx
    refine ⟨z, hz, ?_⟩
    by_cases e : z.key = g.key
    · rw [if_pos e]; exact .inl ⟨e, rfl⟩
    · rw [if_neg e]; exact .inr ⟨e, rfl⟩
  have hkeys : (tset g.key r y t.T).map (·.key) = t.T.map (·.key) := by
    unfold tset
    rw [List.map_map]
    refine List.map_congr_left fun z _ => ?_
    simp only [Function.comp]
    split <;> rfl
  refine ⟨{ h with
    tnd := by simp only; rw [hkeys]; exact h.tnd
    tlt := fun x hx => by
      obtain ⟨z, hz, ⟨_, rfl⟩ | ⟨_, rfl⟩⟩ := hmem x hx
      · exact h.tlt z hz
      · exact h.tlt _ hz
    tle := by have := congrArg List.length hkeys; simp only [List.length_map] at this; simp only; rw [this]; exact h.tle
    tv := fun x hx => by
      obtain ⟨z, hz, ⟨_, rfl⟩ | ⟨_, rfl⟩⟩ := hmem x hx
      · obtain ⟨a, b⟩ := h.tv z hz
        refine ⟨by simpa using a, fun q hq => ?_⟩
        rcases List.mem_or_eq_of_mem_set hq with hq | rfl
        · exact b q hq
        · exact hy
      · exact h.tv _ hz
    tun := fun x hx hs => by
      obtain ⟨z, hz, ⟨_, rfl⟩ | ⟨_, rfl⟩⟩ := hmem x hx
      · cases hs
      · exact h.tun _ hz hs }, fun j => ?_⟩
  unfold sval
  simp only
  have hf : (tset g.key r y t.T).find? (fun x => decide (x.key = j)) = (t.T.find? (fun x => decide (x.key = j))).map (fun g' => if g'.key = g.key then { g' with v := g'.v.set r y, set := true } else g') := by
    unfold tset
    rw [List.find?_map]
    congr 1
    refine congrArg (fun p => List.find? p t.T) ?_
    funext x
    simp only [Function.comp]
    split <;> rfl
  rw [hf]
  by_cases e : j = g.key
  · subst e
    rw [tfind h.tnd hg, if_pos rfl]
    simp
  · rw [if_neg e]
    cases hfx : t.T.find? fun x => decide (x.key = j) with
    | none => rfl
    | some x =>
      have : x.key = j := by simpa using List.find?_some hfx
      simp only [Option.map_some]
      rw [if_neg (by rw [this]; exact e)]
end Go.Proofs.YtkhbemmcegmdaaaGreatDoor
end
