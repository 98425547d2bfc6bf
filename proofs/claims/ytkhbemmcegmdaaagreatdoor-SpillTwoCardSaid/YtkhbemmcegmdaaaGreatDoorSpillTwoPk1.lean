/- Parts of the proof of SpillTwo: no conditions of their own. -/
import Derived.Test.YtkhbemmcegmdaaaGreatDoorSpillTwoPk0
import Derived.Test.YtkhbemmcegmdaaaGreatDoorWhPk7
import Derived.Test.YtkhbemmcegmdaaaGreatDoorWhPk18
section
set_option linter.all false
set_option linter.unusedVariables false
set_option maxRecDepth 100000
namespace Go.Proofs.YtkhbemmcegmdaaaGreatDoor
open Go.RowKit

/-- an act of a plain vector: the number, the error, the numbers behind it -/
def pstep (a : SAct) (xs : List Nat) : Nat × Int × List Nat :=
  if a.kind % 9 = 4 ∨ a.kind % 9 = 5 ∨ a.kind % 9 = 6 then (if 0 ≤ a.i ∧ a.i < (xs.length : Int) then (xs.getD a.i.toNat 0, 0, xs) else (0, 2, xs))
  else if a.kind % 9 = 7 then (0, 0, List.replicate xs.length a.v)
  else (if 0 ≤ a.i ∧ a.i < (xs.length : Int) then (0, 0, xs.set a.i.toNat a.v) else (0, 2, xs))
theorem pstep_len (a : SAct) (xs : List Nat) : (pstep a xs).2.2.length = xs.length := by
  unfold pstep
  split
  · split <;> rfl
  · split
    · simp
    · split <;> simp
theorem pstep_err (a : SAct) (xs : List Nat) : (pstep a xs).2.1 = 0 ∨ (pstep a xs).2.1 = 2 := by
  unfold pstep
  split
  · split
    · exact .inl rfl
    · exact .inr rfl
  · split
    · exact .inl rfl
    · split
      · exact .inl rfl
      · exact .inr rfl
/-- a store's numbers -/
def VRep (F : FileL) (n : Name) (t : SSt) (xs : List Nat) : Prop := ∀ i, i < xs.length → vget F n t i = xs.getD i 0
/-- what stays of the files that are not the store's -/
structure SStay (n : Name) (t : SSt) (s : CSt) (t' : SSt) (s' : CSt) : Prop where
  oth : ∀ m, m ≠ n → fpg m s'.F = fpg m s.F
  tot : total s'.F + t.PK.length = total s.F + t'.PK.length
  lft : s.left = -1 → s'.left = -1
theorem SStay.refl (n : Name) (t : SSt) (s : CSt) : SStay n t s t s := ⟨fun _ _ => rfl, rfl, id⟩
theorem SStay.trans {n : Name} {t t' t'' : SSt} {s s' s'' : CSt} (h : SStay n t s t' s') (h2 : SStay n t' s' t'' s'') : SStay n t s t'' s'' :=
  ⟨fun m hm => (h2.oth m hm).trans (h.oth m hm), by have := h.tot; have := h2.tot; omega, fun e => h2.lft (h.lft e)⟩
theorem SKeep.stay {n : Name} {k : Nat} {t t' : SSt} {s s' : CSt} (h : SKeep n k t s t' s') : SStay n t s t' s' := ⟨h.oth, h.tot, h.lft⟩
section
variable {W W' : World} {Z S : Nat → Prop} {sb cb fb N most cm segs K : Nat} {room : Int} {n : Name} {t : SSt} {s : CSt} {d : Int} {xs : List Nat}
theorem SLaw.mono {K' : Nat} (h : SLaw Z W sb cb fb n N most segs room cm K t s) (hk : K ≤ K') : SLaw Z W sb cb fb n N most segs room cm K' t s := by
  obtain ⟨tb, pb, ask, X, Y, Q, clock, hm, hx, hy, ha0, ha1⟩ := h.mem
  exact ⟨⟨tb, pb, ask, X, Y, Q, clock, hm, hx, hy, ha0, by omega⟩, h.ok, by have := h.clk; omega, h.zlt⟩
theorem rep_zero (k i : Nat) : (List.replicate k 0).getD i 0 = 0 := by
  rw [List.getD_eq_getElem?_getD, List.getElem?_replicate]
  split <;> rfl
theorem vrep_new (F : FileL) (n : Name) (N : Nat) : VRep F n ⟨[], []⟩ (List.replicate N 0) := fun i _ => by
  rw [rep_zero]
  unfold vget
  have : sval F n ⟨[], []⟩ (i / 8) = zeros8 := by simp [sval, sbase]
  rw [this]
  exact rep_zero 8 _
/-- an act done on a store that is open -/
def SDid (Z : Nat → Prop) (W : World) (sb cb fb : Nat) (n : Name) (N most segs : Nat) (room : Int) (cm K : Nat) (t : SSt) (s : CSt) (a : SAct) (xs : List Nat) (x y : Value) (W' : World) : Prop :=
  (x = .int .u64 ((pstep a xs).1 : Nat) ∧ y = .int .i64 (pstep a xs).2.1 ∧ (∃ t' s', SLaw Z W' sb cb fb n N most segs room cm (K + 256) t' s' ∧ VRep s'.F n t' (pstep a xs).2.2 ∧ SStay n t s t' s') ∧ Fr (fun j => ¬ Z j) W W') ∨
  (x = .int .u64 0 ∧ y = .int .i64 60 ∧ s.left ≠ -1 ∧ (∃ s', SDead Z W' sb cb fb n N most room cm 0 s' ∧ ∀ m, m ≠ n → fpg m s'.F = fpg m s.F) ∧ Fr (fun j => ¬ Z j) W W')
theorem SLaw.done (h : SLaw Z W sb cb fb n N most segs room cm K t s) (hp : SPar N most segs) (hK : K + 256 ≤ 1000000) (hx : xs.length = N) (hv : VRep s.F n t xs) (a : SAct) (ha : SActWf a) :
    Calls Tryz.prog 47 #[.pointer (some ⟨sb, 0, none⟩), .agg #[.int .u8 (a.kind : Int), .int .i64 a.i, .int .u64 (a.v : Int), .int .u8 (a.c.kind : Int), .string ⟨a.c.name.toArray⟩, .int .i64 a.c.i, .string ⟨a.c.data.toArray⟩, .int .u8 (a.c.x.toNat : Int)]] W fun e W' => ∃ x y, e = .returned (.tuple #[x, y]) ∧ SDid Z W sb cb fb n N most segs room cm K t s a xs x y W' := by
  have hN := hp.n256
  refine sdone_any (R := SDid Z W sb cb fb n N most segs room cm K t s a xs) a ha.kind (fun W0 hf0 => ?_) (fun W0 hf0 => ?_) (fun W0 hf0 => ?_)
  · have h0 := h.up hf0
    have hfz : Fr (fun j => ¬ Z j) W W0 := hf0.mono (fun _ h => h.elim)
    by_cases hi : 0 ≤ a.i ∧ a.i < (N : Int)
    · obtain ⟨i, e⟩ : ∃ i : Nat, a.i = (i : Int) := ⟨a.i.toNat, by omega⟩
      have hiN : i < N := by omega
      rw [e]
      refine (h0.get hp (by omega) i hiN).mono ?_
      rintro e' W' (⟨rfl, t', s', _, hl, hk, hsv, hff⟩ | ⟨rfl, hl0, s', hd, ho, hff⟩)
      · refine ⟨_, _, rfl, fun hkk => .inl ⟨?_, ?_, ⟨t', s', hl.mono (by omega), ?_, hk.stay⟩, hfz.trans hff (fun _ h => .inl h)⟩⟩
        · unfold pstep
          rw [if_pos hkk, e, hx, if_pos (by omega)]
          show Value.int .u64 ((vget s.F n t i : Nat) : Int) = _
          rw [hv i (by omega)]
          rfl
        · unfold pstep
          rw [if_pos hkk, e, hx, if_pos (by omega)]
        · have : (pstep a xs).2.2 = xs := by unfold pstep; rw [if_pos hkk]; split <;> rfl
          rw [this]
          intro j hj
          rw [vget_same hsv]
          exact hv j hj
      · exact ⟨_, _, rfl, fun hkk => .inr ⟨rfl, rfl, by omega, ⟨s', hd, ho⟩, hfz.trans hff (fun _ h => .inl h)⟩⟩
    · refine (h0.get_out a.i (by omega)).mono ?_
      rintro e' W' ⟨rfl, rfl⟩
      refine ⟨_, _, rfl, fun hkk => .inl ⟨?_, ?_, ⟨t, s, h0.mono (by omega), ?_, SStay.refl _ _ _⟩, hfz⟩⟩
      · unfold pstep
        rw [if_pos hkk, hx, if_neg hi]
        rfl
      · unfold pstep
        rw [if_pos hkk, hx, if_neg hi]
      · have : (pstep a xs).2.2 = xs := by unfold pstep; rw [if_pos hkk]; split <;> rfl
        rw [this]
        exact hv
  · have h0 := h.up hf0
    have hfz : Fr (fun j => ¬ Z j) W W0 := hf0.mono (fun _ h => h.elim)
    refine (sfill_ok h0 hp (by omega) a.v ha.v).mono ?_
    rintro e' W' (⟨rfl, t', s', hl, hk, hvs, hff⟩ | ⟨rfl, hl0, s', hd, ho, hff⟩)
    · refine ⟨_, rfl, fun hkk => .inl ⟨?_, ?_, ⟨t', s', hl.mono (by omega), ?_, hk.stay⟩, hfz.trans hff (fun _ h => .inl h)⟩⟩
      · unfold pstep
        rw [if_neg (by omega), if_pos hkk]
        rfl
      · unfold pstep
        rw [if_neg (by omega), if_pos hkk]
      · have : (pstep a xs).2.2 = List.replicate xs.length a.v := by unfold pstep; rw [if_neg (by omega), if_pos hkk]
        rw [this]
        intro j hj
        rw [List.length_replicate] at hj
        rw [hvs j (by omega)]
        simp [List.getD, hj]
    · exact ⟨_, rfl, fun hkk => .inr ⟨rfl, rfl, hl0, ⟨s', hd, ho⟩, hfz.trans hff (fun _ h => .inl h)⟩⟩
  · have h0 := h.up hf0
    have hfz : Fr (fun j => ¬ Z j) W W0 := hf0.mono (fun _ h => h.elim)
    by_cases hi : 0 ≤ a.i ∧ a.i < (N : Int)
    · obtain ⟨i, e⟩ : ∃ i : Nat, a.i = (i : Int) := ⟨a.i.toNat, by omega⟩
      have hiN : i < N := by omega
      rw [e]
      refine (h0.set hp (by omega) i a.v hiN ha.v).mono ?_
      rintro e' W' (⟨rfl, t', s', _, hl, hk, hsv, hff⟩ | ⟨rfl, hl0, s', hd, ho, hff⟩)
      · refine ⟨_, rfl, fun hkk hk7 => .inl ⟨?_, ?_, ⟨_, s', hl.mono (by omega), ?_, hk.stay⟩, hfz.trans hff (fun _ h => .inl h)⟩⟩
        · unfold pstep
          rw [if_neg hkk, if_neg hk7, e, hx, if_pos (by omega)]
          rfl
        · unfold pstep
          rw [if_neg hkk, if_neg hk7, e, hx, if_pos (by omega)]
        · have : (pstep a xs).2.2 = xs.set i a.v := by unfold pstep; rw [if_neg hkk, if_neg hk7, e, hx, if_pos (by omega)]; rfl
          rw [this]
          intro j hj
          rw [List.length_set] at hj
          rw [vget_set h.ok.inv hsv]
          by_cases ej : j = i
          · subst ej
            rw [if_pos rfl, List.getD_eq_getElem?_getD, List.getElem?_set_self hj]
            rfl
          · rw [if_neg ej, hv j hj, List.getD_eq_getElem?_getD, List.getD_eq_getElem?_getD, List.getElem?_set_ne (Ne.symm ej)]
      · exact ⟨_, rfl, fun hkk hk7 => .inr ⟨rfl, rfl, by omega, ⟨s', hd, ho⟩, hfz.trans hff (fun _ h => .inl h)⟩⟩
    · refine (h0.set_out a.i _ (by omega)).mono ?_
      rintro e' W' ⟨rfl, rfl⟩
      refine ⟨_, rfl, fun hkk hk7 => .inl ⟨?_, ?_, ⟨t, s, h0.mono (by omega), ?_, SStay.refl _ _ _⟩, hfz⟩⟩
      · unfold pstep
        rw [if_neg hkk, if_neg hk7, hx, if_neg hi]
        rfl
      · unfold pstep
        rw [if_neg hkk, if_neg hk7, hx, if_neg hi]
      · have : (pstep a xs).2.2 = xs := by unfold pstep; rw [if_neg hkk, if_neg hk7, hx, if_neg hi]
        rw [this]
        exact hv
theorem SDead.done (h : SDead Z W sb cb fb n N most room cm d s) (a : SAct) (ha : SActWf a) :
    Calls Tryz.prog 47 #[.pointer (some ⟨sb, 0, none⟩), .agg #[.int .u8 (a.kind : Int), .int .i64 a.i, .int .u64 (a.v : Int), .int .u8 (a.c.kind : Int), .string ⟨a.c.name.toArray⟩, .int .i64 a.c.i, .string ⟨a.c.data.toArray⟩, .int .u8 (a.c.x.toNat : Int)]] W fun e W' => e = .returned (.tuple #[.int .u64 0, .int .i64 150]) ∧ Fr (fun _ => False) W W' := by
  refine (sdone_any (R := fun x y W' => x = .int .u64 0 ∧ y = .int .i64 150 ∧ Fr (fun _ => False) W W') a ha.kind (fun W0 hf0 => ?_) (fun W0 hf0 => ?_) (fun W0 hf0 => ?_)).mono ?_
  · refine (sget_over (h.end_.up hf0) a.i).mono ?_
    rintro e W' ⟨rfl, rfl⟩
    exact ⟨_, _, rfl, fun _ => ⟨rfl, rfl, hf0⟩⟩
  · refine (sfill_over (h.end_.up hf0) _).mono ?_
    rintro e W' ⟨rfl, rfl⟩
    exact ⟨_, rfl, fun _ => ⟨rfl, rfl, hf0⟩⟩
  · refine (sset_over (h.end_.up hf0) a.i _).mono ?_
    rintro e W' ⟨rfl, rfl⟩
    exact ⟨_, rfl, fun _ _ => ⟨rfl, rfl, hf0⟩⟩
  · rintro e W' ⟨x, y, rfl, rfl, rfl, hf⟩
    exact ⟨rfl, hf⟩
theorem CRest.setLeft (h : CRest room cm s) {z : Int} (h0 : -1 ≤ z) (h1 : z ≤ 9223372036854775807) : CRest room cm { s with left := z } := ⟨h.inv.setL h0 h1, h.same, h.pins⟩
theorem SLaw.fail (h : SLaw Z W sb cb fb n N most segs room cm K t s) (z : Nat) (hz : z ≤ 1000) : Calls Tryz.prog 22 #[.pointer (some ⟨fb, 0, none⟩), .int .i64 (z : Int)] W fun e W' => e = .returned (.int .i64 0) ∧ SLaw Z W' sb cb fb n N most segs room cm K t { s with left := (z : Int) } ∧ Fr (fun j => ¬ Z j) W W' := by
  obtain ⟨tb, pb, ask, X, Y, Q, clock, hm, hx, hy, ha⟩ := h.mem
  have hc := hm.cat.lift (fun XF hat => ffail_any hat (z : Int))
  have hs0 : ¬ ((z : Int) < 0) := by omega
  have e : fsfail s.left (z : Int) = (0, (z : Int)) := by unfold fsfail; rw [if_neg hs0]
  rw [e] at hc
  refine hc.mono ?_
  rintro e W' ⟨rfl, ⟨X', h1, h2⟩, hf⟩
  have hsz := hf.size
  have hst : SStep W W' X Y X' Y := ⟨h2, fun _ h => .inl h, hf.mono (fun _ h => .inl h)⟩
  obtain ⟨p1, p2, p3, p4⟩ := SLaw.step h.zlt hx hy hst
  refine ⟨rfl, ⟨⟨tb, pb, ask, X', Y, Q, clock, ⟨hm.rep.keep hf (fun j hj hxj => hm.dj j hxj hj), hm.abs, h1, fun j hj hyj => ?_⟩, p1, p2, ha⟩, ⟨h.ok.rest.setLeft (by omega) (by omega), h.ok.inv, h.ok.room_, h.ok.c1⟩, h.clk, p3⟩, p4⟩
  rcases h2 j hj with hj | hj
  · exact hm.dj j hj hyj
  · have := hm.rep.lt j hyj; omega
theorem only_file {F : FileL} {room : Int} (hI : FInv room F) (hn : (F.map (·.1)).Nodup) (h : ∀ m, fpg m F = []) : F = [] := by
  cases F with
  | nil => rfl
  | cons p F => exact absurd ((fpg_at hn p (by simp)).symm.trans (h p.1)) (hI.pg p (by simp)).1
theorem rest_none (h : CRest room cm s) (hF : s.F = []) : s.L = [] := by
  cases hl : s.L with
  | nil => rfl
  | cons x L =>
    have := h.same x (by rw [hl]; simp)
    unfold Same at this
    rw [hF] at this
    simp only [fpg, List.length_nil] at this
    omega
theorem cat_used {X : Nat → Prop} (h : CAt W cb fb X room cm s) (hI : CInv room cm s) : Calls Tryz.prog 33 #[.pointer (some ⟨fb, 0, none⟩)] W fun e W' => e = .returned (.int .i64 ((total s.F : Nat) : Int)) ∧ Fr (fun _ => False) W W' := by
  obtain ⟨XF, hat, _, _⟩ := h.fs
  exact fused_ok hat (FInv.bnd hI.fs)
end
end Go.Proofs.YtkhbemmcegmdaaaGreatDoor
end
section
set_option linter.all false
set_option linter.unusedVariables false
set_option maxRecDepth 100000
namespace Go.Proofs.YtkhbemmcegmdaaaGreatDoor
open Go.RowKit

section
variable {w : World} {R : Value → Value → World → Prop} {sv : Value}
theorem splain_get4 (a : SAct) (ha : a.kind < 256) (hk : a.kind % 9 = 4) (h : ∀ W, Fr (fun _ => False) w W → Calls Tryz.prog 54 #[sv, .int .i64 a.i] W fun e W' => ∃ x y, e = .returned (.tuple #[x, y]) ∧ R x y W') :
    Calls Tryz.prog 52 #[sv, .agg #[.int .u8 (a.kind : Int), .int .i64 a.i, .int .u64 (a.v : Int), .int .u8 (a.c.kind : Int), .string ⟨a.c.name.toArray⟩, .int .i64 a.c.i, .string ⟨a.c.data.toArray⟩, .int .u8 (a.c.x.toNat : Int)]] w fun e W' => ∃ x y, e = .returned (.tuple #[x, y]) ∧ R x y W' := by
  obtain ⟨W3, hW3⟩ : ∃ W3, W3 = w.alloc (.cells #[.int .u8 (a.kind : Int), .int .i64 a.i, .int .u64 (a.v : Int), .int .u8 (a.c.kind : Int), .string ⟨a.c.name.toArray⟩, .int .i64 a.c.i, .string ⟨a.c.data.toArray⟩, .int .u8 (a.c.x.toNat : Int)] 82) := ⟨_, rfl⟩
  have F3 : Fr (fun _ => False) w W3 := by rw [hW3]; exact (Fr.refl _ _).alloc _
  have hab : Blk W3 w.heap.size 82 (sactc a) := by rw [hW3]; exact Blk.new w 82 _
  have s0 : W3.cell? ⟨w.heap.size, 0, none⟩ = some (.int .u8 (a.kind : Int)) := (hab.cell 0).trans rfl
  have s1 : W3.cell? ⟨w.heap.size, 1, none⟩ = some (.int .i64 a.i) := (hab.cell 1).trans rfl
  have s2 : W3.cell? ⟨w.heap.size, 2, none⟩ = some (.int .u64 (a.v : Int)) := (hab.cell 2).trans rfl
  have hk1 : ((a.kind : Nat) : Int) % 9 = (4 : Int) := by omega
  have hk2 : Int.tmod ((a.kind : Nat) : Int) 9 = (4 : Int) := by rw [Int.tmod_eq_emod_of_nonneg (by omega)]; exact hk1
  have HC := hide (h W3 F3)
  have HW3 := hide hW3
  clear h hab hW3 F3 hk ha hk1
  go_enter Tryz.func52, Tryz.ntmps52
  go_wp2_with fail
  rw [← HW3.out]
  go_wp2_with fail
  go_at_call 54
  refine HC.out.mono ?_
  rintro e W5 ⟨x, y, rfl, hr⟩
  have HR := hide hr
  clear hr
  go_wp2
  go_ret2
  exact ⟨_, _, rfl, HR.out⟩
theorem splain_get5 (a : SAct) (ha : a.kind < 256) (hk : a.kind % 9 = 5) (h : ∀ W, Fr (fun _ => False) w W → Calls Tryz.prog 54 #[sv, .int .i64 a.i] W fun e W' => ∃ x y, e = .returned (.tuple #[x, y]) ∧ R x y W') :
    Calls Tryz.prog 52 #[sv, .agg #[.int .u8 (a.kind : Int), .int .i64 a.i, .int .u64 (a.v : Int), .int .u8 (a.c.kind : Int), .string ⟨a.c.name.toArray⟩, .int .i64 a.c.i, .string ⟨a.c.data.toArray⟩, .int .u8 (a.c.x.toNat : Int)]] w fun e W' => ∃ x y, e = .returned (.tuple #[x, y]) ∧ R x y W' := by
  obtain ⟨W3, hW3⟩ : ∃ W3, W3 = w.alloc (.cells #[.int .u8 (a.kind : Int), .int .i64 a.i, .int .u64 (a.v : Int), .int .u8 (a.c.kind : Int), .string ⟨a.c.name.toArray⟩, .int .i64 a.c.i, .string ⟨a.c.data.toArray⟩, .int .u8 (a.c.x.toNat : Int)] 82) := ⟨_, rfl⟩
  have F3 : Fr (fun _ => False) w W3 := by rw [hW3]; exact (Fr.refl _ _).alloc _
  have hab : Blk W3 w.heap.size 82 (sactc a) := by rw [hW3]; exact Blk.new w 82 _
  have s0 : W3.cell? ⟨w.heap.size, 0, none⟩ = some (.int .u8 (a.kind : Int)) := (hab.cell 0).trans rfl
  have s1 : W3.cell? ⟨w.heap.size, 1, none⟩ = some (.int .i64 a.i) := (hab.cell 1).trans rfl
  have s2 : W3.cell? ⟨w.heap.size, 2, none⟩ = some (.int .u64 (a.v : Int)) := (hab.cell 2).trans rfl
  have hk1 : ((a.kind : Nat) : Int) % 9 = (5 : Int) := by omega
  have hk2 : Int.tmod ((a.kind : Nat) : Int) 9 = (5 : Int) := by rw [Int.tmod_eq_emod_of_nonneg (by omega)]; exact hk1
  have HC := hide (h W3 F3)
  have HW3 := hide hW3
  clear h hab hW3 F3 hk ha hk1
  go_enter Tryz.func52, Tryz.ntmps52
  go_wp2_with fail
  rw [← HW3.out]
  go_wp2_with fail
  go_at_call 54
  refine HC.out.mono ?_
  rintro e W5 ⟨x, y, rfl, hr⟩
  have HR := hide hr
  clear hr
  go_wp2
  go_ret2
  exact ⟨_, _, rfl, HR.out⟩
theorem splain_get6 (a : SAct) (ha : a.kind < 256) (hk : a.kind % 9 = 6) (h : ∀ W, Fr (fun _ => False) w W → Calls Tryz.prog 54 #[sv, .int .i64 a.i] W fun e W' => ∃ x y, e = .returned (.tuple #[x, y]) ∧ R x y W') :
    Calls Tryz.prog 52 #[sv, .agg #[.int .u8 (a.kind : Int), .int .i64 a.i, .int .u64 (a.v : Int), .int .u8 (a.c.kind : Int), .string ⟨a.c.name.toArray⟩, .int .i64 a.c.i, .string ⟨a.c.data.toArray⟩, .int .u8 (a.c.x.toNat : Int)]] w fun e W' => ∃ x y, e = .returned (.tuple #[x, y]) ∧ R x y W' := by
  obtain ⟨W3, hW3⟩ : ∃ W3, W3 = w.alloc (.cells #[.int .u8 (a.kind : Int), .int .i64 a.i, .int .u64 (a.v : Int), .int .u8 (a.c.kind : Int), .string ⟨a.c.name.toArray⟩, .int .i64 a.c.i, .string ⟨a.c.data.toArray⟩, .int .u8 (a.c.x.toNat : Int)] 82) := ⟨_, rfl⟩
  have F3 : Fr (fun _ => False) w W3 := by rw [hW3]; exact (Fr.refl _ _).alloc _
  have hab : Blk W3 w.heap.size 82 (sactc a) := by rw [hW3]; exact Blk.new w 82 _
  have s0 : W3.cell? ⟨w.heap.size, 0, none⟩ = some (.int .u8 (a.kind : Int)) := (hab.cell 0).trans rfl
  have s1 : W3.cell? ⟨w.heap.size, 1, none⟩ = some (.int .i64 a.i) := (hab.cell 1).trans rfl
  have s2 : W3.cell? ⟨w.heap.size, 2, none⟩ = some (.int .u64 (a.v : Int)) := (hab.cell 2).trans rfl
  have hk1 : ((a.kind : Nat) : Int) % 9 = (6 : Int) := by omega
  have hk2 : Int.tmod ((a.kind : Nat) : Int) 9 = (6 : Int) := by rw [Int.tmod_eq_emod_of_nonneg (by omega)]; exact hk1
  have HC := hide (h W3 F3)
  have HW3 := hide hW3
  clear h hab hW3 F3 hk ha hk1
  go_enter Tryz.func52, Tryz.ntmps52
  go_wp2_with fail
  rw [← HW3.out]
  go_wp2_with fail
  go_at_call 54
  refine HC.out.mono ?_
  rintro e W5 ⟨x, y, rfl, hr⟩
  have HR := hide hr
  clear hr
  go_wp2
  go_ret2
  exact ⟨_, _, rfl, HR.out⟩
theorem splain_fill7 (a : SAct) (ha : a.kind < 256) (hk : a.kind % 9 = 7) (h : ∀ W, Fr (fun _ => False) w W → Calls Tryz.prog 92 #[sv, .int .u64 (a.v : Int)] W fun e W' => ∃ y, e = .returned y ∧ R (.int .u64 0) y W') :
    Calls Tryz.prog 52 #[sv, .agg #[.int .u8 (a.kind : Int), .int .i64 a.i, .int .u64 (a.v : Int), .int .u8 (a.c.kind : Int), .string ⟨a.c.name.toArray⟩, .int .i64 a.c.i, .string ⟨a.c.data.toArray⟩, .int .u8 (a.c.x.toNat : Int)]] w fun e W' => ∃ x y, e = .returned (.tuple #[x, y]) ∧ R x y W' := by
  obtain ⟨W3, hW3⟩ : ∃ W3, W3 = w.alloc (.cells #[.int .u8 (a.kind : Int), .int .i64 a.i, .int .u64 (a.v : Int), .int .u8 (a.c.kind : Int), .string ⟨a.c.name.toArray⟩, .int .i64 a.c.i, .string ⟨a.c.data.toArray⟩, .int .u8 (a.c.x.toNat : Int)] 82) := ⟨_, rfl⟩
  have F3 : Fr (fun _ => False) w W3 := by rw [hW3]; exact (Fr.refl _ _).alloc _
  have hab : Blk W3 w.heap.size 82 (sactc a) := by rw [hW3]; exact Blk.new w 82 _
  have s0 : W3.cell? ⟨w.heap.size, 0, none⟩ = some (.int .u8 (a.kind : Int)) := (hab.cell 0).trans rfl
  have s1 : W3.cell? ⟨w.heap.size, 1, none⟩ = some (.int .i64 a.i) := (hab.cell 1).trans rfl
  have s2 : W3.cell? ⟨w.heap.size, 2, none⟩ = some (.int .u64 (a.v : Int)) := (hab.cell 2).trans rfl
  have hk1 : ((a.kind : Nat) : Int) % 9 = (7 : Int) := by omega
  have hk2 : Int.tmod ((a.kind : Nat) : Int) 9 = (7 : Int) := by rw [Int.tmod_eq_emod_of_nonneg (by omega)]; exact hk1
  have HC := hide (h W3 F3)
  have HW3 := hide hW3
  clear h hab hW3 F3 hk ha hk1
  go_enter Tryz.func52, Tryz.ntmps52
  go_wp2_with fail
  rw [← HW3.out]
  go_wp2_with fail
  go_at_call 92
  refine HC.out.mono ?_
  rintro e W5 ⟨y, rfl, hr⟩
  have HR := hide hr
  clear hr
  go_wp2
  go_ret2
  exact ⟨_, _, rfl, HR.out⟩
theorem splain_set0 (a : SAct) (ha : a.kind < 256) (hk : a.kind % 9 = 0) (h : ∀ W, Fr (fun _ => False) w W → Calls Tryz.prog 93 #[sv, .int .i64 a.i, .int .u64 (a.v : Int)] W fun e W' => ∃ y, e = .returned y ∧ R (.int .u64 0) y W') :
    Calls Tryz.prog 52 #[sv, .agg #[.int .u8 (a.kind : Int), .int .i64 a.i, .int .u64 (a.v : Int), .int .u8 (a.c.kind : Int), .string ⟨a.c.name.toArray⟩, .int .i64 a.c.i, .string ⟨a.c.data.toArray⟩, .int .u8 (a.c.x.toNat : Int)]] w fun e W' => ∃ x y, e = .returned (.tuple #[x, y]) ∧ R x y W' := by
  obtain ⟨W3, hW3⟩ : ∃ W3, W3 = w.alloc (.cells #[.int .u8 (a.kind : Int), .int .i64 a.i, .int .u64 (a.v : Int), .int .u8 (a.c.kind : Int), .string ⟨a.c.name.toArray⟩, .int .i64 a.c.i, .string ⟨a.c.data.toArray⟩, .int .u8 (a.c.x.toNat : Int)] 82) := ⟨_, rfl⟩
  have F3 : Fr (fun _ => False) w W3 := by rw [hW3]; exact (Fr.refl _ _).alloc _
  have hab : Blk W3 w.heap.size 82 (sactc a) := by rw [hW3]; exact Blk.new w 82 _
  have s0 : W3.cell? ⟨w.heap.size, 0, none⟩ = some (.int .u8 (a.kind : Int)) := (hab.cell 0).trans rfl
  have s1 : W3.cell? ⟨w.heap.size, 1, none⟩ = some (.int .i64 a.i) := (hab.cell 1).trans rfl
  have s2 : W3.cell? ⟨w.heap.size, 2, none⟩ = some (.int .u64 (a.v : Int)) := (hab.cell 2).trans rfl
  have hk1 : ((a.kind : Nat) : Int) % 9 = (0 : Int) := by omega
  have hk2 : Int.tmod ((a.kind : Nat) : Int) 9 = (0 : Int) := by rw [Int.tmod_eq_emod_of_nonneg (by omega)]; exact hk1
  have HC := hide (h W3 F3)
  have HW3 := hide hW3
  clear h hab hW3 F3 hk ha hk1
  go_enter Tryz.func52, Tryz.ntmps52
  go_wp2_with fail
  rw [← HW3.out]
  go_wp2_with fail
  go_at_call 93
  refine HC.out.mono ?_
  rintro e W5 ⟨y, rfl, hr⟩
  have HR := hide hr
  clear hr
  go_wp2
  go_ret2
  exact ⟨_, _, rfl, HR.out⟩
theorem splain_set1 (a : SAct) (ha : a.kind < 256) (hk : a.kind % 9 = 1) (h : ∀ W, Fr (fun _ => False) w W → Calls Tryz.prog 93 #[sv, .int .i64 a.i, .int .u64 (a.v : Int)] W fun e W' => ∃ y, e = .returned y ∧ R (.int .u64 0) y W') :
    Calls Tryz.prog 52 #[sv, .agg #[.int .u8 (a.kind : Int), .int .i64 a.i, .int .u64 (a.v : Int), .int .u8 (a.c.kind : Int), .string ⟨a.c.name.toArray⟩, .int .i64 a.c.i, .string ⟨a.c.data.toArray⟩, .int .u8 (a.c.x.toNat : Int)]] w fun e W' => ∃ x y, e = .returned (.tuple #[x, y]) ∧ R x y W' := by
  obtain ⟨W3, hW3⟩ : ∃ W3, W3 = w.alloc (.cells #[.int .u8 (a.kind : Int), .int .i64 a.i, .int .u64 (a.v : Int), .int .u8 (a.c.kind : Int), .string ⟨a.c.name.toArray⟩, .int .i64 a.c.i, .string ⟨a.c.data.toArray⟩, .int .u8 (a.c.x.toNat : Int)] 82) := ⟨_, rfl⟩
  have F3 : Fr (fun _ => False) w W3 := by rw [hW3]; exact (Fr.refl _ _).alloc _
  have hab : Blk W3 w.heap.size 82 (sactc a) := by rw [hW3]; exact Blk.new w 82 _
  have s0 : W3.cell? ⟨w.heap.size, 0, none⟩ = some (.int .u8 (a.kind : Int)) := (hab.cell 0).trans rfl
  have s1 : W3.cell? ⟨w.heap.size, 1, none⟩ = some (.int .i64 a.i) := (hab.cell 1).trans rfl
  have s2 : W3.cell? ⟨w.heap.size, 2, none⟩ = some (.int .u64 (a.v : Int)) := (hab.cell 2).trans rfl
  have hk1 : ((a.kind : Nat) : Int) % 9 = (1 : Int) := by omega
  have hk2 : Int.tmod ((a.kind : Nat) : Int) 9 = (1 : Int) := by rw [Int.tmod_eq_emod_of_nonneg (by omega)]; exact hk1
  have HC := hide (h W3 F3)
  have HW3 := hide hW3
  clear h hab hW3 F3 hk ha hk1
  go_enter Tryz.func52, Tryz.ntmps52
  go_wp2_with fail
  rw [← HW3.out]
  go_wp2_with fail
  go_at_call 93
  refine HC.out.mono ?_
  rintro e W5 ⟨y, rfl, hr⟩
  have HR := hide hr
  clear hr
  go_wp2
  go_ret2
  exact ⟨_, _, rfl, HR.out⟩
theorem splain_set2 (a : SAct) (ha : a.kind < 256) (hk : a.kind % 9 = 2) (h : ∀ W, Fr (fun _ => False) w W → Calls Tryz.prog 93 #[sv, .int .i64 a.i, .int .u64 (a.v : Int)] W fun e W' => ∃ y, e = .returned y ∧ R (.int .u64 0) y W') :
    Calls Tryz.prog 52 #[sv, .agg #[.int .u8 (a.kind : Int), .int .i64 a.i, .int .u64 (a.v : Int), .int .u8 (a.c.kind : Int), .string ⟨a.c.name.toArray⟩, .int .i64 a.c.i, .string ⟨a.c.data.toArray⟩, .int .u8 (a.c.x.toNat : Int)]] w fun e W' => ∃ x y, e = .returned (.tuple #[x, y]) ∧ R x y W' := by
  obtain ⟨W3, hW3⟩ : ∃ W3, W3 = w.alloc (.cells #[.int .u8 (a.kind : Int), .int .i64 a.i, .int .u64 (a.v : Int), .int .u8 (a.c.kind : Int), .string ⟨a.c.name.toArray⟩, .int .i64 a.c.i, .string ⟨a.c.data.toArray⟩, .int .u8 (a.c.x.toNat : Int)] 82) := ⟨_, rfl⟩
  have F3 : Fr (fun _ => False) w W3 := by rw [hW3]; exact (Fr.refl _ _).alloc _
  have hab : Blk W3 w.heap.size 82 (sactc a) := by rw [hW3]; exact Blk.new w 82 _
  have s0 : W3.cell? ⟨w.heap.size, 0, none⟩ = some (.int .u8 (a.kind : Int)) := (hab.cell 0).trans rfl
  have s1 : W3.cell? ⟨w.heap.size, 1, none⟩ = some (.int .i64 a.i) := (hab.cell 1).trans rfl
  have s2 : W3.cell? ⟨w.heap.size, 2, none⟩ = some (.int .u64 (a.v : Int)) := (hab.cell 2).trans rfl
  have hk1 : ((a.kind : Nat) : Int) % 9 = (2 : Int) := by omega
  have hk2 : Int.tmod ((a.kind : Nat) : Int) 9 = (2 : Int) := by rw [Int.tmod_eq_emod_of_nonneg (by omega)]; exact hk1
  have HC := hide (h W3 F3)
  have HW3 := hide hW3
  clear h hab hW3 F3 hk ha hk1
  go_enter Tryz.func52, Tryz.ntmps52
  go_wp2_with fail
  rw [← HW3.out]
  go_wp2_with fail
  go_at_call 93
  refine HC.out.mono ?_
  rintro e W5 ⟨y, rfl, hr⟩
  have HR := hide hr
  clear hr
  go_wp2
  go_ret2
  exact ⟨_, _, rfl, HR.out⟩
theorem splain_set3 (a : SAct) (ha : a.kind < 256) (hk : a.kind % 9 = 3) (h : ∀ W, Fr (fun _ => False) w W → Calls Tryz.prog 93 #[sv, .int .i64 a.i, .int .u64 (a.v : Int)] W fun e W' => ∃ y, e = .returned y ∧ R (.int .u64 0) y W') :
    Calls Tryz.prog 52 #[sv, .agg #[.int .u8 (a.kind : Int), .int .i64 a.i, .int .u64 (a.v : Int), .int .u8 (a.c.kind : Int), .string ⟨a.c.name.toArray⟩, .int .i64 a.c.i, .string ⟨a.c.data.toArray⟩, .int .u8 (a.c.x.toNat : Int)]] w fun e W' => ∃ x y, e = .returned (.tuple #[x, y]) ∧ R x y W' := by
  obtain ⟨W3, hW3⟩ : ∃ W3, W3 = w.alloc (.cells #[.int .u8 (a.kind : Int), .int .i64 a.i, .int .u64 (a.v : Int), .int .u8 (a.c.kind : Int), .string ⟨a.c.name.toArray⟩, .int .i64 a.c.i, .string ⟨a.c.data.toArray⟩, .int .u8 (a.c.x.toNat : Int)] 82) := ⟨_, rfl⟩
  have F3 : Fr (fun _ => False) w W3 := by rw [hW3]; exact (Fr.refl _ _).alloc _
  have hab : Blk W3 w.heap.size 82 (sactc a) := by rw [hW3]; exact Blk.new w 82 _
  have s0 : W3.cell? ⟨w.heap.size, 0, none⟩ = some (.int .u8 (a.kind : Int)) := (hab.cell 0).trans rfl
  have s1 : W3.cell? ⟨w.heap.size, 1, none⟩ = some (.int .i64 a.i) := (hab.cell 1).trans rfl
  have s2 : W3.cell? ⟨w.heap.size, 2, none⟩ = some (.int .u64 (a.v : Int)) := (hab.cell 2).trans rfl
  have hk1 : ((a.kind : Nat) : Int) % 9 = (3 : Int) := by omega
  have hk2 : Int.tmod ((a.kind : Nat) : Int) 9 = (3 : Int) := by rw [Int.tmod_eq_emod_of_nonneg (by omega)]; exact hk1
  have HC := hide (h W3 F3)
  have HW3 := hide hW3
  clear h hab hW3 F3 hk ha hk1
  go_enter Tryz.func52, Tryz.ntmps52
  go_wp2_with fail
  rw [← HW3.out]
  go_wp2_with fail
  go_at_call 93
  refine HC.out.mono ?_
  rintro e W5 ⟨y, rfl, hr⟩
  have HR := hide hr
  clear hr
  go_wp2
  go_ret2
  exact ⟨_, _, rfl, HR.out⟩
theorem splain_set8 (a : SAct) (ha : a.kind < 256) (hk : a.kind % 9 = 8) (h : ∀ W, Fr (fun _ => False) w W → Calls Tryz.prog 93 #[sv, .int .i64 a.i, .int .u64 (a.v : Int)] W fun e W' => ∃ y, e = .returned y ∧ R (.int .u64 0) y W') :
    Calls Tryz.prog 52 #[sv, .agg #[.int .u8 (a.kind : Int), .int .i64 a.i, .int .u64 (a.v : Int), .int .u8 (a.c.kind : Int), .string ⟨a.c.name.toArray⟩, .int .i64 a.c.i, .string ⟨a.c.data.toArray⟩, .int .u8 (a.c.x.toNat : Int)]] w fun e W' => ∃ x y, e = .returned (.tuple #[x, y]) ∧ R x y W' := by
  obtain ⟨W3, hW3⟩ : ∃ W3, W3 = w.alloc (.cells #[.int .u8 (a.kind : Int), .int .i64 a.i, .int .u64 (a.v : Int), .int .u8 (a.c.kind : Int), .string ⟨a.c.name.toArray⟩, .int .i64 a.c.i, .string ⟨a.c.data.toArray⟩, .int .u8 (a.c.x.toNat : Int)] 82) := ⟨_, rfl⟩
  have F3 : Fr (fun _ => False) w W3 := by rw [hW3]; exact (Fr.refl _ _).alloc _
  have hab : Blk W3 w.heap.size 82 (sactc a) := by rw [hW3]; exact Blk.new w 82 _
  have s0 : W3.cell? ⟨w.heap.size, 0, none⟩ = some (.int .u8 (a.kind : Int)) := (hab.cell 0).trans rfl
  have s1 : W3.cell? ⟨w.heap.size, 1, none⟩ = some (.int .i64 a.i) := (hab.cell 1).trans rfl
  have s2 : W3.cell? ⟨w.heap.size, 2, none⟩ = some (.int .u64 (a.v : Int)) := (hab.cell 2).trans rfl
  have hk1 : ((a.kind : Nat) : Int) % 9 = (8 : Int) := by omega
  have hk2 : Int.tmod ((a.kind : Nat) : Int) 9 = (8 : Int) := by rw [Int.tmod_eq_emod_of_nonneg (by omega)]; exact hk1
  have HC := hide (h W3 F3)
  have HW3 := hide hW3
  clear h hab hW3 F3 hk ha hk1
  go_enter Tryz.func52, Tryz.ntmps52
  go_wp2_with fail
  rw [← HW3.out]
  go_wp2_with fail
  go_at_call 93
  refine HC.out.mono ?_
  rintro e W5 ⟨y, rfl, hr⟩
  have HR := hide hr
  clear hr
  go_wp2
  go_ret2
  exact ⟨_, _, rfl, HR.out⟩
end
section
variable {w : World} {p g : Nat} {xs : List Nat}
/-- an act of a plain vector done -/
def PDid (w : World) (p g : Nat) (xs : List Nat) (a : SAct) (x y : Value) (w' : World) : Prop :=
  x = .int .u64 ((pstep a xs).1 : Nat) ∧ y = .int .i64 (pstep a xs).2.1 ∧ PlainAt w' p g (pstep a xs).2.2 ∧ Fr (fun k => k = g) w w'
theorem splain_ok (h : PlainAt w p g xs) (a : SAct) (ha : SActWf a) :
    Calls Tryz.prog 52 #[.pointer (some ⟨p, 0, none⟩), .agg #[.int .u8 (a.kind : Int), .int .i64 a.i, .int .u64 (a.v : Int), .int .u8 (a.c.kind : Int), .string ⟨a.c.name.toArray⟩, .int .i64 a.c.i, .string ⟨a.c.data.toArray⟩, .int .u8 (a.c.x.toNat : Int)]] w fun e W' => ∃ x y, e = .returned (.tuple #[x, y]) ∧ PDid w p g xs a x y W' := by
  have hg : ∀ (hk : a.kind % 9 = 4 ∨ a.kind % 9 = 5 ∨ a.kind % 9 = 6) W, Fr (fun _ => False) w W → Calls Tryz.prog 54 #[.pointer (some ⟨p, 0, none⟩), .int .i64 a.i] W fun e W' => ∃ x y, e = .returned (.tuple #[x, y]) ∧ PDid w p g xs a x y W' := fun hk W hW => by
    have h1 := h.fr hW id id
    have hf : Fr (fun k => k = g) w W := hW.mono (fun _ h => h.elim)
    by_cases hi : 0 ≤ a.i ∧ a.i < (xs.length : Int)
    · obtain ⟨i, e⟩ : ∃ i : Nat, a.i = (i : Int) := ⟨a.i.toNat, by omega⟩
      have hps : pstep a xs = (xs.getD i 0, 0, xs) := by unfold pstep; rw [if_pos hk, if_pos hi, e]; rfl
      rw [e]
      refine (get_in h1 i (by omega)).mono ?_
      rintro e' W' ⟨rfl, rfl⟩
      exact ⟨_, _, rfl, by rw [hps], by rw [hps], by rw [hps]; exact h1, hf⟩
    · have hps : pstep a xs = (0, 2, xs) := by unfold pstep; rw [if_pos hk, if_neg hi]
      refine (get_out h1 a.i (by omega)).mono ?_
      rintro e' W' ⟨rfl, rfl⟩
      exact ⟨_, _, rfl, by rw [hps]; rfl, by rw [hps], by rw [hps]; exact h1, hf⟩
  have hfl : ∀ (hk : a.kind % 9 = 7) W, Fr (fun _ => False) w W → Calls Tryz.prog 92 #[.pointer (some ⟨p, 0, none⟩), .int .u64 (a.v : Int)] W fun e W' => ∃ y, e = .returned y ∧ PDid w p g xs a (.int .u64 0) y W' := fun hk W hW => by
    have h1 := h.fr hW id id
    have hf : Fr (fun k => k = g) w W := hW.mono (fun _ h => h.elim)
    have hps : pstep a xs = (0, 0, List.replicate xs.length a.v) := by unfold pstep; rw [if_neg (by omega), if_pos hk]
    refine (fill_any h1 a.v ha.v).mono ?_
    rintro e' W' ⟨rfl, h2, h3⟩
    exact ⟨_, rfl, by rw [hps]; rfl, by rw [hps], by rw [hps]; exact h2, hf.trans h3 (fun _ h => .inl h)⟩
  have hst : ∀ (hk : ¬ (a.kind % 9 = 4 ∨ a.kind % 9 = 5 ∨ a.kind % 9 = 6)) (hk7 : ¬ a.kind % 9 = 7) W, Fr (fun _ => False) w W → Calls Tryz.prog 93 #[.pointer (some ⟨p, 0, none⟩), .int .i64 a.i, .int .u64 (a.v : Int)] W fun e W' => ∃ y, e = .returned y ∧ PDid w p g xs a (.int .u64 0) y W' := fun hk hk7 W hW => by
    have h1 := h.fr hW id id
    have hf : Fr (fun k => k = g) w W := hW.mono (fun _ h => h.elim)
    by_cases hi : 0 ≤ a.i ∧ a.i < (xs.length : Int)
    · obtain ⟨i, e⟩ : ∃ i : Nat, a.i = (i : Int) := ⟨a.i.toNat, by omega⟩
      have hps : pstep a xs = (0, 0, xs.set i a.v) := by unfold pstep; rw [if_neg hk, if_neg hk7, if_pos hi, e]; rfl
      rw [e]
      refine (set_in h1 i a.v (by omega) ha.v).mono ?_
      rintro e' W' ⟨rfl, h2, h3⟩
      exact ⟨_, rfl, by rw [hps]; rfl, by rw [hps], by rw [hps]; exact h2, hf.trans h3 (fun _ h => .inl h)⟩
    · have hps : pstep a xs = (0, 2, xs) := by unfold pstep; rw [if_neg hk, if_neg hk7, if_neg hi]
      refine (set_out h1 a.i _ (by omega)).mono ?_
      rintro e' W' ⟨rfl, rfl⟩
      exact ⟨_, rfl, by rw [hps]; rfl, by rw [hps], by rw [hps]; exact h1, hf⟩
  have hc : a.kind % 9 = 0 ∨ a.kind % 9 = 1 ∨ a.kind % 9 = 2 ∨ a.kind % 9 = 3 ∨ a.kind % 9 = 4 ∨ a.kind % 9 = 5 ∨ a.kind % 9 = 6 ∨ a.kind % 9 = 7 ∨ a.kind % 9 = 8 := by omega
  rcases hc with h | h | h | h | h | h | h | h | h
  · exact splain_set0 a ha.kind h (hst (by omega) (by omega))
  · exact splain_set1 a ha.kind h (hst (by omega) (by omega))
  · exact splain_set2 a ha.kind h (hst (by omega) (by omega))
  · exact splain_set3 a ha.kind h (hst (by omega) (by omega))
  · exact splain_get4 a ha.kind h (hg (by omega))
  · exact splain_get5 a ha.kind h (hg (by omega))
  · exact splain_get6 a ha.kind h (hg (by omega))
  · exact splain_fill7 a ha.kind h (hfl h)
  · exact splain_set8 a ha.kind h (hst (by omega) (by omega))
end
end Go.Proofs.YtkhbemmcegmdaaaGreatDoor
end
section
set_option linter.all false
set_option linter.unusedVariables false
set_option maxRecDepth 100000
namespace Go.Proofs.YtkhbemmcegmdaaaGreatDoor
open Go.RowKit

theorem clk_two (k : Nat) : k ≤ 2 * k := by omega
theorem step_small (k n : Nat) (h : k < n) (h2 : n ≤ 60) : wrap64 ((k : Int) + 1) = (k : Int) + 1 ∧ IntKind.i64.wrap ((k : Int) + 1) = (k : Int) + 1 := ⟨by unfold wrap64; omega, i64_same (by omega) (by omega)⟩
theorem step_bound (k n : Nat) (h : k < n) (h2 : n ≤ 60) : 256 * k + 256 ≤ 1000000 := by omega
theorem made_big1 (y : Nat) : 1 ≤ 1 + y % 9 := by omega
theorem of_u64 (y : Int) : ∃ m : Nat, m < 256 ∧ (IntKind.u64.wrap y).tmod 256 = (m : Int) := by
  refine ⟨(y % 256).toNat, by omega, ?_⟩
  rw [IntKind.wrap_u64, Int.tmod_eq_emod_of_nonneg (by omega)]
  omega
theorem of_u8 (z k : Nat) (hk : 0 < k) (h2 : k ≤ 256) : ∃ m : Nat, m < k ∧ ((z : Nat) : Int).tmod (k : Int) = (m : Int) := by
  refine ⟨z % k, Nat.mod_lt _ hk, ?_⟩
  rw [Int.tmod_eq_emod_of_nonneg (by omega)]
  rfl
theorem add1_small (m : Nat) (h : m < 256) : 1 + (m : Int) = ((1 + m : Nat) : Int) ∧ wrap64 ((1 + m : Nat) : Int) = ((1 + m : Nat) : Int) ∧ IntKind.i64.wrap ((1 + m : Nat) : Int) = ((1 + m : Nat) : Int) := by
  refine ⟨by omega, by unfold wrap64; omega, i64_same (Int.le_trans (by decide) (Int.natCast_nonneg _)) (Int.ofNat_le.2 (Nat.le_trans (Nat.add_le_add_left (Nat.le_of_lt h) 1) (by decide)))⟩
structure OverNums (yn : Int) (z0 wh m N q most f : Nat) : Prop where
  n1 : 1 ≤ N
  n2 : N ≤ 256
  o1 : 1 ≤ most
  o2 : most ≤ 3
  f20 : f < 20
  a0 : (IntKind.u64.wrap yn).tmod 256 = (m : Int)
  a1 : wrap64 (m : Int) = (m : Int)
  a2 : IntKind.i64.wrap (m : Int) = (m : Int)
  a3 : 1 + (m : Int) = (N : Int)
  a4 : wrap64 (N : Int) = (N : Int)
  a5 : IntKind.i64.wrap (N : Int) = (N : Int)
  b0 : ((z0 : Nat) : Int).tmod 3 = (q : Int)
  b1 : wrap64 (q : Int) = (q : Int)
  b2 : IntKind.i64.wrap (q : Int) = (q : Int)
  b3 : 1 + (q : Int) = (most : Int)
  b4 : wrap64 (most : Int) = (most : Int)
  b5 : IntKind.i64.wrap (most : Int) = (most : Int)
  b6 : wrap64 (z0 : Int) = (z0 : Int)
  c0 : ((wh : Nat) : Int).tmod 20 = (f : Int)
  c1 : wrap64 (f : Int) = (f : Int)
  c2 : IntKind.i64.wrap (f : Int) = (f : Int)
  c3 : wrap64 (wh : Int) = (wh : Int)
theorem over_nums (yn : Int) (z0 wh : Nat) (h0 : z0 < 256) (hw : wh < 256) : ∃ m N q most f : Nat, OverNums yn z0 wh m N q most f := by
  obtain ⟨m, hm, hm0⟩ := of_u64 yn
  obtain ⟨q, hq, hq0⟩ := of_u8 z0 3 (by omega) (by omega)
  obtain ⟨f, hf, hf0⟩ := of_u8 wh 20 (by omega) (by omega)
  have e1 : 1 ≤ 1 + m ∧ 1 + m ≤ 256 := by omega
  have e2 : 1 ≤ 1 + q ∧ 1 + q ≤ 3 := by omega
  have e3 : q < 256 := by omega
  have e4 : f < 256 := by omega
  have A := add1_small m hm
  have B := add1_small q e3
  exact ⟨m, 1 + m, q, 1 + q, f, ⟨e1.1, e1.2, e2.1, e2.2, hf, hm0, (small_ok hm).1, (small_ok hm).2, A.1, A.2.1, A.2.2, hq0, (small_ok e3).1, (small_ok e3).2, B.1, B.2.1, B.2.2, (small_ok h0).1, hf0, (small_ok e4).1, (small_ok e4).2, (small_ok hw).1⟩⟩
theorem segs_room {N : Nat} (h : N ≤ 256) : ((total ([] : FileL) : Nat) : Int) + (((N + 7) / 8 : Nat) : Int) ≤ 60 := by simp [total]; omega
set_option maxHeartbeats 3200000 in
theorem law_over (nm : List UInt8) (yn ym : Int) (z0 z1 : Nat) (hz0 : z0 < 256) (hz1 : z1 < 256) (A : Option Addr) (n c : Nat) (l : List SAct) (wh : Nat) (hwh : wh < 256) (w : World) (ha : SActsR w w.heap.size A n l) (hn : n ≤ 9223372036854775807) :
    Calls Tryz.prog 12 #[.agg #[.string ⟨nm.toArray⟩, .int .i64 yn, .int .i64 ym, .int .u8 (z0 : Int), .int .u8 (z1 : Int)], .slice A n c, .int .u8 (wh : Int)] w fun e w' => e = .returned (.bool true) ∧ Fr (fun _ => False) w w' := by
  obtain ⟨W1, hW1⟩ : ∃ W1, W1 = w.alloc (.cells #[.string ⟨nm.toArray⟩, .int .i64 yn, .int .i64 ym, .int .u8 (z0 : Int), .int .u8 (z1 : Int)] 85) := ⟨_, rfl⟩
  have hf1 : Fr (fun _ => False) w W1 := by rw [hW1]; exact (Fr.refl _ _).alloc _
  have HF1 := hide hf1
  have HB1 : Hid (Blk W1 w.heap.size 85 #[.string ⟨nm.toArray⟩, .int .i64 yn, .int .i64 ym, .int .u8 (z0 : Int), .int .u8 (z1 : Int)]) := by rw [hW1]; exact Blk.new w 85 _
  have HA1 := hide (ha.fr hf1 (Nat.le_refl _) (fun _ h => h.elim))
  have HG := hide (sgreat_ok HA1.out HF1.out.size 60 c (by omega) hn)
  have HW1 := hide hW1
  obtain ⟨m, N, q, most, f, hnum⟩ := over_nums yn z0 wh hz0 hwh
  have HNU := hide hnum
  have HSP : Hid (SPar N most ((N + 7) / 8)) := spar_of hnum.n2 hnum.o1 (Nat.le_trans hnum.o2 (by decide))
  have HRM := hide (segs_room hnum.n2)
  have s1 : W1.cell? ⟨w.heap.size, 1, none⟩ = some (.int .i64 yn) := (HB1.out.cell 1).trans rfl
  have s3 : W1.cell? ⟨w.heap.size, 3, none⟩ = some (.int .u8 (z0 : Int)) := (HB1.out.cell 3).trans rfl
  have s4 : W1.cell? ⟨w.heap.size, 4, none⟩ = some (.int .u8 (z1 : Int)) := (HB1.out.cell 4).trans rfl
  have HSC := hide (fun W (hS : Fr (fun _ => False) W1 W) => (⟨hS.cell s1 id, hS.cell s3 id, hS.cell s4 id⟩ : W.cell? ⟨w.heap.size, 1, none⟩ = some (.int .i64 yn) ∧ W.cell? ⟨w.heap.size, 3, none⟩ = some (.int .u8 (z0 : Int)) ∧ W.cell? ⟨w.heap.size, 4, none⟩ = some (.int .u8 (z1 : Int))))
  have HZ1 := hide hz1
  obtain ⟨_, _, _, _, _, a0, a1, a2, a3, a4, a5, b0, b1, b2, b3, b4, b5, b6, c0, c1, c2, c3⟩ := hnum
  clear ha hf1 hW1 hz0 hz1 hwh s1 s3 s4
  go_enter Tryz.func12, Tryz.ntmps12
  go_wp2_with fail
  rw [← HW1.out]
  go_wp2_with fail
  go_at_call 46
  refine HG.out.mono ?_
  rintro e W2 ⟨hg, hf2⟩
  have HF2 := hide (HF1.out.then_ hf2)
  have HL2 := hide (HA1.out.fr hf2 HF1.out.size (fun _ h => h.elim))
  obtain ⟨s1, s3, s4⟩ := HSC.out W2 hf2
  have HF12 := hide hf2
  clear hf2
  rcases hg with rfl | ⟨rfl, hn60⟩
  · clear s1 s3 s4
    go_wp2
    go_ret
    exact ⟨rfl, HF2.out⟩
  · have HMD := hide (made_ok z1 HZ1.out W2)
    have HN60 := hide hn60
    clear hn60
    go_wp2_with fail
    go_at_call 16
    refine HMD.out.mono ?_
    rintro e W3 ⟨cb, fb, X1, rfl, at1, nx1, _, fr1⟩
    have HSN := hide (SLaw.new (K := 0) (room := 60) (segs := (N + 7) / 8) (Z := fun j => j < W2.heap.size) at1 (rest_new 60 (by decide) (by decide) _) (fun j hj => Nat.lt_of_lt_of_le hj fr1.size) (fun j hj hz => absurd hz (Nat.not_lt.2 (nx1 j hj))) [118] name_v N most HSP.out rfl HRM.out (made_big1 z1) (by simp))
    obtain ⟨s1', s3', s4'⟩ := HSC.out W3 (HF12.out.then_ fr1)
    have HF3 := hide fr1
    clear at1 nx1 fr1 HMD s1 s3 s4 s4'
    go_wp2_with fail
    go_at_call 41
    refine HSN.out.mono ?_
    rintro e W4 ⟨sb, rfl, hl4, hf4⟩
    have HL4 := hide hl4
    have HFX := hide (((HF3.out.then_ hf4).mono (S' := fun j => ¬ j < W2.heap.size) (fun _ h => h.elim)))
    have HCF := hide hl4.fs
    have HFA := hide (hl4.fail f (Nat.le_trans (Nat.le_of_lt HNU.out.f20) (by decide)))
    clear hl4 hf4 HSN s1' s3'
    go_wp2_with fail
    go_at_call 18
    refine HCF.out.mono ?_
    rintro e w9 ⟨rfl, rfl⟩
    go_wp2_with fail
    go_at_call 22
    refine HFA.out.mono ?_
    rintro e W5 ⟨rfl, hl5, hf5⟩
    have HL5 := hide hl5
    have HF5 := hide (HFX.out.trans hf5 (fun _ h => .inl h))
    clear hl5 hf5 a0 a1 a2 a3 a4 a5 b0 b1 b2 b3 b4 b5 b6 c0 c1 c2 c3
    go_wp2
    go_loopw [11, 12] (fun ov i wr => ∃ (k : Nat) (ob : Bool), ov = .bool ob ∧ i = .int .i64 (k : Int) ∧ k ≤ n ∧ Fr (fun j => ¬ j < W2.heap.size) W2 wr ∧
      ((ob = false ∧ ∃ (t : SSt) (s : CSt) (xs : List Nat), SLaw (fun j => j < W2.heap.size) wr sb cb fb [118] N most ((N + 7) / 8) 60 (1 + z1 % 9) (256 * k) t s ∧ xs.length = N ∧ VRep s.F [118] t xs ∧ ∀ m, m ≠ [118] → fpg m s.F = []) ∨
       (ob = true ∧ ∃ s : CSt, SDead (fun j => j < W2.heap.size) wr sb cb fb [118] N most 60 (1 + z1 % 9) 0 s ∧ ∀ m, m ≠ [118] → fpg m s.F = []))) (fun _ i _ => n - (intOf i).toNat)
    case atStart => exact ⟨0, false, rfl, rfl, Nat.zero_le _, HF5.out, .inl ⟨rfl, ⟨[], []⟩, _, List.replicate N 0, HL5.out, by simp, vrep_new _ _ _, fun m _ => rfl⟩⟩
    case round =>
      obtain ⟨k, ob, rfl, rfl, hk, hfr, hcase⟩ := hrel
      have HFR := hide hfr
      have HSA := hide (HL2.out.fr hfr HF2.out.size (fun j hj => Nat.le_trans HF2.out.size (Nat.le_of_not_lt hj)))
      clear hfr
      by_cases hlt : k < n
      · obtain ⟨a, b, o, hka, hal, rfl, hb, s0, s1, s2, s3, s4, s5, s6, s7⟩ := HSA.out.at hlt
        have hwf := HSA.out.wf a hal
        have g0 : (0 : Int) ≤ (k : Int) := Int.natCast_nonneg _
        have g1 : (k : Int) < (n : Int) := Int.ofNat_lt.2 hlt
        obtain ⟨g2, g3⟩ := step_small k n hlt HN60.out
        rcases hcase with ⟨rfl, t, s, xs, hlaw, hxs, hv, hoth⟩ | ⟨rfl, s, hdead, hoth⟩
        · have HDN := hide (hlaw.done HSP.out (step_bound k n hlt HN60.out) hxs hv a hwf)
          have HO := hide (And.intro hxs hoth)
          clear hlaw hxs hv hoth hwf hka hal
          go_wp2_with fail
          go_at_call 47
          refine HDN.out.mono ?_
          rintro e W6 ⟨x, y, rfl, ⟨rfl, rfl, ⟨t', s', hl', hv', hst'⟩, hff⟩ | ⟨rfl, rfl, _, ⟨s', hd', ho'⟩, hff⟩⟩
          · have H6 := hide (And.intro hl' (And.intro hv' (And.intro hst' (HFR.out.trans hff (fun _ h => .inl h)))))
            clear hl' hv' hst' hff
            have HPL := hide (pstep_len a xs)
            have herr := pstep_err a xs
            obtain ⟨px, hpx⟩ : ∃ px, (pstep a xs).1 = px := ⟨_, rfl⟩
            rw [hpx]
            clear hpx
            rcases herr with e0 | e0
            · rw [e0]
              clear e0
              go_wp2
              go_roundw
              case rel => exact ⟨k + 1, false, rfl, by go_num, hlt, H6.out.2.2.2, .inl ⟨rfl, t', s', _, by rw [Nat.mul_add]; exact H6.out.1, HPL.out.trans HO.out.1, H6.out.2.1, fun m hm => (H6.out.2.2.1.oth m hm).trans (HO.out.2 m hm)⟩⟩
              case measure => clear g2 g3; simp [intOf]; omega
            · rw [e0]
              clear e0
              go_wp2
              go_roundw
              case rel => exact ⟨k + 1, false, rfl, by go_num, hlt, H6.out.2.2.2, .inl ⟨rfl, t', s', _, by rw [Nat.mul_add]; exact H6.out.1, HPL.out.trans HO.out.1, H6.out.2.1, fun m hm => (H6.out.2.2.1.oth m hm).trans (HO.out.2 m hm)⟩⟩
              case measure => clear g2 g3; simp [intOf]; omega
          · have H6 := hide (And.intro hd' (And.intro ho' (HFR.out.trans hff (fun _ h => .inl h))))
            clear hd' ho' hff
            go_wp2
            go_roundw
            case rel => exact ⟨k + 1, true, rfl, by go_num, hlt, H6.out.2.2, .inr ⟨rfl, s', H6.out.1, fun m hm => (H6.out.2.1 m hm).trans (HO.out.2 m hm)⟩⟩
            case measure => clear g2 g3; simp [intOf]; omega
        · have HDN := hide (hdead.done a hwf)
          have HO := hide (And.intro hdead hoth)
          clear hdead hoth hwf hka hal
          go_wp2_with fail
          go_at_call 47
          refine HDN.out.mono ?_
          rintro e W6 ⟨rfl, hf6⟩
          have HD6 := hide (HO.out.1.up hf6)
          have HF6 := hide (HFR.out.trans hf6 (fun _ h => h.elim))
          have HRS := hide (sres_over HD6.out.end_)
          clear hf6
          go_wp2_with fail
          go_at_call 44
          refine HRS.out.mono ?_
          rintro e w9 ⟨rfl, rfl⟩
          go_wp2
          go_roundw
          case rel => exact ⟨k + 1, true, rfl, by go_num, hlt, HF6.out, .inr ⟨rfl, s, HD6.out, HO.out.2⟩⟩
          case measure => clear g2 g3; simp [intOf]; omega
      · obtain rfl : k = n := by omega
        rcases hcase with ⟨rfl, t, s, xs, hlaw, hxs, hv, hoth⟩ | ⟨rfl, s, hdead, hoth⟩
        · have HCS := hide hlaw.close
          have HRC := hide (rest_closed (n := [118]) hlaw.ok.rest)
          have HO := hide hoth
          clear hlaw hxs hv hoth
          go_wp2_with fail
          go_at_call 48
          refine HCS.out.mono ?_
          rintro e W6 ⟨rfl, hd0, hff0⟩
          have hff := HFR.out.trans hff0 (fun _ h => .inl h)
          have hsf0 : fpg [118] (sclosed [118] s).F = [] ∧ ∀ m, m ≠ [118] → fpg m (sclosed [118] s).F = [] := ⟨HRC.out.2.1, fun m hm => (HRC.out.2.2.1 m hm).trans (HO.out m hm)⟩
          obtain ⟨s5, hs5⟩ : ∃ s5, sclosed [118] s = s5 := ⟨_, rfl⟩
          rw [hs5] at hd0 hsf0
          have hd := hd0
          have hsf := hsf0
          clear hd0 hsf0 hff0 hs5
          have HP6 := hide (sget_over hd.end_ 0)
          have hF : s5.F = [] := only_file hd.rest.inv.fs hd.rest.inv.fnd (fun m => by
            by_cases e : m = [118]
            · rw [e]; exact hsf.1
            · exact hsf.2 m e)
          have hL : s5.L = [] := rest_none hd.rest hF
          have HF5 := hide hF
          have HL5 := hide hL
          obtain ⟨X5, hc5, hx5, _⟩ := hd.mem
          have HNW := hide (SLaw.new (K := s5.clk) (segs := (N + 7) / 8) hc5 hd.rest hd.zlt hx5 [118] name_v N 1 (spar_of HNU.out.n2 (by decide) (by decide)) (by rw [hF]; rfl) (by rw [hF]; exact HRM.out) (made_big1 z1) (clk_two s5.clk))
          have HD5 := hide hd
          have HF5r := hide hff
          clear hd hsf hF hL hc5 hx5 hff
          go_wp2_with fail
          go_at_call 50
          refine HP6.out.mono ?_
          rintro e w9 ⟨rfl, rfl⟩
          go_wp2_with fail
          go_at_call 41
          refine HNW.out.mono ?_
          rintro e W7 ⟨sb2, rfl, hl7, hf7⟩
          have HF7 := hide (HF5r.out.trans hf7 (fun _ h => h.elim))
          obtain ⟨X7, hc7⟩ := hl7.cat
          have HFS := hide (cfs_ok hc7)
          have HUS := hide (cat_used hc7 HD5.out.rest.inv)
          rw [HF5.out, show ((total ([] : FileL) : Nat) : Int) = 0 from rfl] at HUS
          have HL7 := hide hl7
          clear hl7 hc7 hf7
          go_wp2_with fail
          go_at_call 18
          refine HFS.out.mono ?_
          rintro e w9 ⟨rfl, rfl⟩
          go_wp2_with fail
          go_at_call 33
          refine HUS.out.mono ?_
          rintro e W8 ⟨rfl, hf8⟩
          have hl8 := HL7.out.up hf8
          obtain ⟨X8, hc8⟩ := hl8.cat
          have HCL := hide (clen_ok hc8)
          rw [HL5.out, show ((([] : List CE).length : Nat) : Int) = 0 from rfl] at HCL
          have HLN := hide hl8.len
          have HF8 := hide (HF7.out.trans hf8 (fun _ h => h.elim))
          have HDO := hide (does15_true W8)
          clear hl8 hc8 hf8
          go_wp2_with fail
          go_at_call 21
          refine HCL.out.mono ?_
          rintro e w9 ⟨rfl, rfl⟩
          go_wp2_with fail
          go_at_call 49
          refine HLN.out.mono ?_
          rintro e w9 ⟨rfl, rfl⟩
          go_wp2_with fail
          go_at_call 45
          refine HDO.out.mono ?_
          rintro e W9 ⟨rfl, hf9⟩
          have HF9 := hide (HF8.out.trans hf9 (fun _ h => h.elim))
          clear hf9
          go_wp2
          go_ret
          exact ⟨rfl, HF2.out.then_ HF9.out.down⟩
        · have HCS := hide hdead.close
          have HRC := hide (rest_closed (n := [118]) hdead.rest)
          have HO := hide hoth
          clear hdead hoth
          go_wp2_with fail
          go_at_call 48
          refine HCS.out.mono ?_
          rintro e W6 ⟨rfl, hd0, hff0⟩
          have hff := HFR.out.trans hff0 (fun _ h => .inl h)
          have hsf0 : fpg [118] (sclosed [118] s).F = [] ∧ ∀ m, m ≠ [118] → fpg m (sclosed [118] s).F = [] := ⟨HRC.out.2.1, fun m hm => (HRC.out.2.2.1 m hm).trans (HO.out m hm)⟩
          obtain ⟨s5, hs5⟩ : ∃ s5, sclosed [118] s = s5 := ⟨_, rfl⟩
          rw [hs5] at hd0 hsf0
          have hd := hd0
          have hsf := hsf0
          clear hd0 hsf0 hff0 hs5
          have HP6 := hide (sget_over hd.end_ 0)
          have hF : s5.F = [] := only_file hd.rest.inv.fs hd.rest.inv.fnd (fun m => by
            by_cases e : m = [118]
            · rw [e]; exact hsf.1
            · exact hsf.2 m e)
          have hL : s5.L = [] := rest_none hd.rest hF
          have HF5 := hide hF
          have HL5 := hide hL
          obtain ⟨X5, hc5, hx5, _⟩ := hd.mem
          have HNW := hide (SLaw.new (K := s5.clk) (segs := (N + 7) / 8) hc5 hd.rest hd.zlt hx5 [118] name_v N 1 (spar_of HNU.out.n2 (by decide) (by decide)) (by rw [hF]; rfl) (by rw [hF]; exact HRM.out) (made_big1 z1) (clk_two s5.clk))
          have HD5 := hide hd
          have HF5r := hide hff
          clear hd hsf hF hL hc5 hx5 hff
          go_wp2_with fail
          go_at_call 50
          refine HP6.out.mono ?_
          rintro e w9 ⟨rfl, rfl⟩
          go_wp2_with fail
          go_at_call 41
          refine HNW.out.mono ?_
          rintro e W7 ⟨sb2, rfl, hl7, hf7⟩
          have HF7 := hide (HF5r.out.trans hf7 (fun _ h => h.elim))
          obtain ⟨X7, hc7⟩ := hl7.cat
          have HFS := hide (cfs_ok hc7)
          have HUS := hide (cat_used hc7 HD5.out.rest.inv)
          rw [HF5.out, show ((total ([] : FileL) : Nat) : Int) = 0 from rfl] at HUS
          have HL7 := hide hl7
          clear hl7 hc7 hf7
          go_wp2_with fail
          go_at_call 18
          refine HFS.out.mono ?_
          rintro e w9 ⟨rfl, rfl⟩
          go_wp2_with fail
          go_at_call 33
          refine HUS.out.mono ?_
          rintro e W8 ⟨rfl, hf8⟩
          have hl8 := HL7.out.up hf8
          obtain ⟨X8, hc8⟩ := hl8.cat
          have HCL := hide (clen_ok hc8)
          rw [HL5.out, show ((([] : List CE).length : Nat) : Int) = 0 from rfl] at HCL
          have HLN := hide hl8.len
          have HF8 := hide (HF7.out.trans hf8 (fun _ h => h.elim))
          have HDO := hide (does15_true W8)
          clear hl8 hc8 hf8
          go_wp2_with fail
          go_at_call 21
          refine HCL.out.mono ?_
          rintro e w9 ⟨rfl, rfl⟩
          go_wp2_with fail
          go_at_call 49
          refine HLN.out.mono ?_
          rintro e w9 ⟨rfl, rfl⟩
          go_wp2_with fail
          go_at_call 45
          refine HDO.out.mono ?_
          rintro e W9 ⟨rfl, hf9⟩
          have HF9 := hide (HF8.out.trans hf9 (fun _ h => h.elim))
          clear hf9
          go_wp2
          go_ret
          exact ⟨rfl, HF2.out.then_ HF9.out.down⟩
end Go.Proofs.YtkhbemmcegmdaaaGreatDoor
end
