/- Parts of the proof of several laws: no conditions of their own. -/
import Derived.Test.YtkhbemmcegmdaaaGreatDoorWhPk16
import Derived.Test.YtkhbemmcegmdaaaGreatDoorWhPk17
import Derived.Test.YtkhbemmcegmdaaaGreatDoorWhPk2
import Derived.Test.YtkhbemmcegmdaaaGreatDoorTie
import Derived.Test.YtkhbemmcegmdaaaGreatDoorCards
import Derived.ProofKit
import Derived.OpenShut
import Derived.ShutString
import Derived.ChangeOld
import Derived.Below
import Derived.Carry
import Derived.Deep.Slices
import Derived.SliceStrings
import Derived.ChangeSame
import Derived.Lay
import Derived.SevenTiedAt
section
set_option linter.all false
set_option linter.unusedVariables false
set_option maxRecDepth 100000
namespace Go.Proofs.YtkhbemmcegmdaaaGreatDoor
open Go.RowKit

/-- how many numbers, segments -/
structure SPar (N most segs : Nat) : Prop where
  n256 : N ≤ 256
  m1 : 1 ≤ most
  mb : most ≤ 1000000
  sg : ∀ i, i < N → i / 8 < segs
theorem spar_of {N most : Nat} (h : N ≤ 256) (h1 : 1 ≤ most) (h2 : most ≤ 1000000) : SPar N most ((N + 7) / 8) := ⟨h, h1, h2, fun i hi => by omega⟩
/-- a store and its cache, at rest between acts; what is in Z is none of theirs -/
structure SLaw (Z : Nat → Prop) (W : World) (sb cb fb : Nat) (n : Name) (N most segs : Nat) (room : Int) (cm K : Nat) (t : SSt) (s : CSt) : Prop where
  mem : ∃ tb pb ask X Y Q clock, SMem W sb tb pb cb fb n N most room cm ask X Y Q t s clock ∧ (∀ j, X j → ¬ Z j) ∧ (∀ j, Y j → ¬ Z j) ∧ 0 ≤ ask ∧ ask ≤ (K : Int)
  ok : SOk n segs most room cm t s
  clk : s.clk ≤ 2 * K
  zlt : ∀ j, Z j → j < W.heap.size
/-- a store that is over, its cache at rest -/
structure SDead (Z : Nat → Prop) (W : World) (sb cb fb : Nat) (n : Name) (N most : Nat) (room : Int) (cm : Nat) (d : Int) (s : CSt) : Prop where
  end_ : SEnd W sb cb n N most d
  mem : ∃ X, CAt W cb fb X room cm s ∧ (∀ j, X j → ¬ Z j) ∧ ¬ X sb
  rest : CRest room cm s
  zsb : ¬ Z sb
  zlt : ∀ j, Z j → j < W.heap.size
section
variable {W W' : World} {Z S : Nat → Prop} {sb cb fb N most cm segs K : Nat} {room : Int} {n : Name} {t : SSt} {s : CSt} {d : Int}
theorem Fr.down {w W : World} (h : Fr (fun j => ¬ j < w.heap.size) w W) : Fr (fun _ => False) w W := ⟨h.1, h.2, h.3, h.size, fun k hk _ => h.block k hk (fun h => h hk)⟩
theorem SLaw.keep (h : SLaw Z W sb cb fb n N most segs room cm K t s) (hf : Fr S W W') (hs : ∀ j, S j → Z j) : SLaw Z W' sb cb fb n N most segs room cm K t s := by
  obtain ⟨tb, pb, ask, X, Y, Q, clock, hm, hx, hy, hr⟩ := h.mem
  have := hf.size
  exact ⟨⟨tb, pb, ask, X, Y, Q, clock, ⟨hm.rep.keep hf (fun j hj h => hy j hj (hs j h)), hm.abs, hm.cat.keep hf (fun j hj h => hx j hj (hs j h)), hm.dj⟩, hx, hy, hr⟩, h.ok, h.clk, fun j hj => by have := h.zlt j hj; omega⟩
theorem SLaw.up (h : SLaw Z W sb cb fb n N most segs room cm K t s) (hf : Fr (fun _ => False) W W') : SLaw Z W' sb cb fb n N most segs room cm K t s := h.keep hf (fun _ h => h.elim)
/-- one block more that is none of theirs -/
theorem SLaw.more (h : SLaw Z W sb cb fb n N most segs room cm K t s) (hf : Fr (fun _ => False) W W') (b : Nat) (hb : W.heap.size ≤ b) (hb2 : b < W'.heap.size) : SLaw (fun j => Z j ∨ j = b) W' sb cb fb n N most segs room cm K t s := by
  have h2 := h.up hf
  obtain ⟨tb, pb, ask, X, Y, Q, clock, hm, hx, hy, hr⟩ := h.mem
  refine ⟨⟨tb, pb, ask, X, Y, Q, clock, hm.up hf, fun j hj h => ?_, fun j hj h => ?_, hr⟩, h2.ok, h2.clk, fun j hj => ?_⟩
  · rcases h with h | h
    · exact hx j hj h
    · have := hm.cat.lt j hj; omega
  · rcases h with h | h
    · exact hy j hj h
    · have := hm.rep.lt j hj; omega
  · rcases hj with hj | hj
    · exact h2.zlt j hj
    · omega
theorem SEnd.up (h : SEnd W sb cb n N most d) (hf : Fr (fun _ => False) W W') : SEnd W' sb cb n N most d := by
  obtain ⟨a, p, h⟩ := h
  exact ⟨a, p, h.fr hf id⟩
theorem SDead.up (h : SDead Z W sb cb fb n N most room cm d s) (hf : Fr (fun _ => False) W W') : SDead Z W' sb cb fb n N most room cm d s := by
  obtain ⟨X, hm, hr⟩ := h.mem
  have := hf.size
  exact ⟨h.end_.up hf, ⟨X, hm.up hf, hr⟩, h.rest, h.zsb, fun j hj => by have := h.zlt j hj; omega⟩
theorem SLaw.step {X Y X' Y' : Nat → Prop} (hz : ∀ j, Z j → j < W.heap.size) (hx : ∀ j, X j → ¬ Z j) (hy : ∀ j, Y j → ¬ Z j) (h : SStep W W' X Y X' Y') : (∀ j, X' j → ¬ Z j) ∧ (∀ j, Y' j → ¬ Z j) ∧ (∀ j, Z j → j < W'.heap.size) ∧ Fr (fun j => ¬ Z j) W W' := by
  have hs := h.fr.size
  refine ⟨fun j hj hzj => ?_, fun j hj hzj => ?_, fun j hj => by have := hz j hj; omega, h.fr.mono (fun k hk => hk.elim (hx k) (hy k))⟩
  · rcases h.x j hj with hj | hj
    · exact hx j hj hzj
    · have := hz j hzj; omega
  · rcases h.y j hj with hj | hj
    · exact hy j hj hzj
    · have := hz j hzj; omega
theorem SLaw.dead {X Y : Nat → Prop} (hz : ∀ j, Z j → j < W.heap.size) (hx : ∀ j, X j → ¬ Z j) (hy : ∀ j, Y j → ¬ Z j) (hsb : Y sb) (hdj : ¬ X sb) (hlt : sb < W.heap.size) (hf : SFail W cb fb n room cm X Y s W') (he : SEnd W' sb cb n N most 0) :
    s.left = 0 ∧ ∃ s', SDead Z W' sb cb fb n N most room cm 0 s' ∧ (∀ m, m ≠ n → fpg m s'.F = fpg m s.F) ∧ Fr (fun j => ¬ Z j) W W' := by
  obtain ⟨X', s', h0, h1, h2, h3, h4, h5⟩ := hf
  have hs := h5.size
  refine ⟨h0, s', ⟨he, ⟨X', h1, fun j hj hzj => ?_, fun hj => ?_⟩, h2, hy _ hsb, fun j hj => by have := hz j hj; omega⟩, h3, h5.mono (fun k hk => hk.elim (hx k) (hy k))⟩
  · rcases h4 j hj with hj | hj
    · exact hx j hj hzj
    · have := hz j hzj; omega
  · rcases h4 _ hj with hj | hj
    · exact hdj hj
    · omega
theorem SLaw.get (h : SLaw Z W sb cb fb n N most segs room cm K t s) (hp : SPar N most segs) (hK : K ≤ 1000000) (i : Nat) (hi : i < N) :
    Calls Tryz.prog 50 #[.pointer (some ⟨sb, 0, none⟩), .int .i64 (i : Int)] W fun e W' =>
      (e = .returned (.tuple #[.int .u64 ((sval s.F n t (i / 8)).getD (i % 8) 0 : Nat), .int .i64 0]) ∧ ∃ t' s', SAsk n most room cm (i / 8) t s t' s' ∧ SLaw Z W' sb cb fb n N most segs room cm (K + 1) t' s' ∧ SKeep n 2 t s t' s' ∧ (∀ j, sval s'.F n t' j = sval s.F n t j) ∧ Fr (fun j => ¬ Z j) W W') ∨
      (e = .returned (.tuple #[.int .u64 0, .int .i64 60]) ∧ s.left = 0 ∧ ∃ s', SDead Z W' sb cb fb n N most room cm 0 s' ∧ (∀ m, m ≠ n → fpg m s'.F = fpg m s.F) ∧ Fr (fun j => ¬ Z j) W W') := by
  obtain ⟨tb, pb, ask, X, Y, Q, clock, hm, hx, hy, ha0, ha1⟩ := h.mem
  have hc := h.clk
  have := hp.mb
  refine (sget_ok hm h.ok (by omega) ha0 (by omega) hp.m1 (by omega) hp.n256 i hi (hp.sg i hi)).mono ?_
  rintro e W' (⟨rfl, x, X', Y', Q', t', s', clock', _, _, hm', hst, has, hok, hkp, hsv⟩ | ⟨rfl, hf, he⟩)
  · obtain ⟨p1, p2, p3, p4⟩ := SLaw.step h.zlt hx hy hst
    refine .inl ⟨rfl, t', s', has, ⟨⟨tb, pb, ask + 1, X', Y', Q', clock', hm', p1, p2, by omega, by omega⟩, hok, ?_, p3⟩, hkp, hsv, p4⟩
    have := hkp.clk
    omega
  · exact .inr ⟨rfl, SLaw.dead h.zlt hx hy hm.rep.xs (fun hx => hm.dj _ hx hm.rep.xs) (hm.rep.lt _ hm.rep.xs) hf he⟩
theorem SLaw.set (h : SLaw Z W sb cb fb n N most segs room cm K t s) (hp : SPar N most segs) (hK : K ≤ 1000000) (i y : Nat) (hi : i < N) (hyy : y < 18446744073709551616) :
    Calls Tryz.prog 42 #[.pointer (some ⟨sb, 0, none⟩), .int .i64 (i : Int), .int .u64 (y : Int)] W fun e W' =>
      (e = .returned (.int .i64 0) ∧ ∃ t' s', SAsk n most room cm (i / 8) t s t' s' ∧ SLaw Z W' sb cb fb n N most segs room cm (K + 1) { t' with T := tset (i / 8) (i % 8) y t'.T } s' ∧ SKeep n 2 t s { t' with T := tset (i / 8) (i % 8) y t'.T } s' ∧ (∀ j, sval s'.F n { t' with T := tset (i / 8) (i % 8) y t'.T } j = if j = i / 8 then (sval s.F n t j).set (i % 8) y else sval s.F n t j) ∧ Fr (fun j => ¬ Z j) W W') ∨
      (e = .returned (.int .i64 60) ∧ s.left = 0 ∧ ∃ s', SDead Z W' sb cb fb n N most room cm 0 s' ∧ (∀ m, m ≠ n → fpg m s'.F = fpg m s.F) ∧ Fr (fun j => ¬ Z j) W W') := by
  obtain ⟨tb, pb, ask, X, Y, Q, clock, hm, hx, hy, ha0, ha1⟩ := h.mem
  have hc := h.clk
  have := hp.mb
  refine (sset_ok hm h.ok (by omega) ha0 (by omega) hp.m1 (by omega) hp.n256 i y hi (hp.sg i hi) hyy).mono ?_
  rintro e W' (⟨rfl, X', Y', Q', t', s', clock', hm', hst, has, hok, hkp, hsv⟩ | ⟨rfl, hf, he⟩)
  · obtain ⟨p1, p2, p3, p4⟩ := SLaw.step h.zlt hx hy hst
    refine .inl ⟨rfl, t', s', has, ⟨⟨tb, pb, ask + 1, X', Y', Q', clock', hm', p1, p2, by omega, by omega⟩, hok, ?_, p3⟩, hkp, hsv, p4⟩
    have := hkp.clk
    omega
  · exact .inr ⟨rfl, SLaw.dead h.zlt hx hy hm.rep.xs (fun hx => hm.dj _ hx hm.rep.xs) (hm.rep.lt _ hm.rep.xs) hf he⟩
theorem SLaw.get_out (h : SLaw Z W sb cb fb n N most segs room cm K t s) (i : Int) (hi : i < 0 ∨ (N : Int) ≤ i) : Calls Tryz.prog 50 #[.pointer (some ⟨sb, 0, none⟩), .int .i64 i] W fun e W' => e = .returned (.tuple #[.int .u64 0, .int .i64 2]) ∧ W = W' := by
  obtain ⟨tb, pb, ask, X, Y, Q, clock, hm, _⟩ := h.mem
  exact sget_out hm.rep i hi
theorem SLaw.set_out (h : SLaw Z W sb cb fb n N most segs room cm K t s) (i y : Int) (hi : i < 0 ∨ (N : Int) ≤ i) : Calls Tryz.prog 42 #[.pointer (some ⟨sb, 0, none⟩), .int .i64 i, .int .u64 y] W fun e W' => e = .returned (.int .i64 2) ∧ W = W' := by
  obtain ⟨tb, pb, ask, X, Y, Q, clock, hm, _⟩ := h.mem
  exact sset_out hm.rep i y hi
theorem SLaw.len (h : SLaw Z W sb cb fb n N most segs room cm K t s) : Calls Tryz.prog 49 #[.pointer (some ⟨sb, 0, none⟩)] W fun e W' => e = .returned (.int .i64 (N : Int)) ∧ W = W' := by
  obtain ⟨tb, pb, ask, X, Y, Q, clock, hm, _⟩ := h.mem
  exact slen_open hm.rep
theorem SLaw.res (h : SLaw Z W sb cb fb n N most segs room cm K t s) : Calls Tryz.prog 44 #[.pointer (some ⟨sb, 0, none⟩)] W fun e W' => e = .returned (.int .i64 (t.T.length : Int)) ∧ W = W' := by
  obtain ⟨tb, pb, ask, X, Y, Q, clock, hm, _⟩ := h.mem
  have := sres_open hm.rep
  rw [hm.len] at this
  exact this
theorem SLaw.cat (h : SLaw Z W sb cb fb n N most segs room cm K t s) : ∃ X, CAt W cb fb X room cm s := by
  obtain ⟨tb, pb, ask, X, Y, Q, clock, hm, _⟩ := h.mem
  exact ⟨X, hm.cat⟩
theorem SLaw.fs (h : SLaw Z W sb cb fb n N most segs room cm K t s) : Calls Tryz.prog 18 #[.pointer (some ⟨cb, 0, none⟩)] W fun e W' => e = .returned (.pointer (some ⟨fb, 0, none⟩)) ∧ W = W' := by
  obtain ⟨X, hc⟩ := h.cat
  exact cfs_ok hc
theorem cat_pages {X : Nat → Prop} (h : CAt W cb fb X room cm s) (m : Name) : Calls Tryz.prog 43 #[.pointer (some ⟨fb, 0, none⟩), .string ⟨m.toArray⟩] W fun e W' => e = .returned (.int .i64 ((fpg m s.F).length : Int)) ∧ W = W' := by
  obtain ⟨XF, hat, _, _⟩ := h.fs
  exact fpages_ok hat m
theorem SLaw.pages (h : SLaw Z W sb cb fb n N most segs room cm K t s) : Calls Tryz.prog 43 #[.pointer (some ⟨fb, 0, none⟩), .string ⟨n.toArray⟩] W fun e W' => e = .returned (.int .i64 (t.PK.length : Int)) ∧ W = W' := by
  obtain ⟨X, hc⟩ := h.cat
  have := cat_pages hc n
  rw [h.ok.inv.pgs] at this
  exact this
theorem rest_closed (h : CRest room cm s) : CRest room cm (sclosed n s) ∧ fpg n (sclosed n s).F = [] ∧ (∀ m, m ≠ n → fpg m (sclosed n s).F = fpg m s.F) ∧ total (sclosed n s).F + (fpg n s.F).length = total s.F := by
  have e1 : fpg n (fsremove s.F n).2 = [] := by
    unfold fsremove
    split
    · next e => exact e
    · rw [fpg_del, if_pos rfl]
  have e2 : ∀ m, m ≠ n → fpg m (fsremove s.F n).2 = fpg m s.F := fun m hm => by
    unfold fsremove
    split
    · rfl
    · show fpg m (fdel n s.F) = _
      rw [fpg_del, if_neg hm]
  refine ⟨⟨(h.inv.setF (fsremove_inv h.inv.fs h.inv.fnd n)).dropped n, fun x hx => ?_, fun x hx => ?_⟩, e1, e2, ?_⟩
  · obtain ⟨hx1, hx2⟩ := List.mem_filter.1 hx
    have hk : x.key.1 ≠ n := by simpa using hx2
    have := h.same x hx1
    unfold Same at this ⊢
    show 0 ≤ x.key.2 ∧ x.key.2 < ((fpg x.key.1 (fsremove s.F n).2).length : Int) ∧ pageB ((fpg x.key.1 (fsremove s.F n).2).getD x.key.2.toNat []) = true ∧ datB ((fpg x.key.1 (fsremove s.F n).2).getD x.key.2.toNat []) = x.data
    rw [e2 _ hk]
    exact this
  · exact h.pins x (List.mem_filter.1 hx).1
  · show total (fsremove s.F n).2 + _ = _
    unfold fsremove
    split
    · next e => rw [e]; rfl
    · exact total_del h.inv.fnd
theorem SLaw.close (h : SLaw Z W sb cb fb n N most segs room cm K t s) : Calls Tryz.prog 48 #[.pointer (some ⟨sb, 0, none⟩)] W fun e W' => e = .returned (.tuple #[]) ∧ SDead Z W' sb cb fb n N most room cm 1 (sclosed n s) ∧ Fr (fun j => ¬ Z j) W W' := by
  obtain ⟨tb, pb, ask, X, Y, Q, clock, hm, hx, hy, ha0, ha1⟩ := h.mem
  have hlt := hm.rep.lt _ hm.rep.xs
  refine (sclose_ok hm.rep.blk hm.cat (fun hx => hm.dj _ hx hm.rep.xs)).mono ?_
  rintro e W' ⟨rfl, he, ⟨X', h1, h2⟩, hf⟩
  have hs := hf.size
  refine ⟨rfl, ⟨he, ⟨X', h1, fun j hj hzj => ?_, fun hj => ?_⟩, (rest_closed h.ok.rest).1, hy _ hm.rep.xs, fun j hj => by have := h.zlt j hj; omega⟩, hf.mono (fun k hk => hk.elim (hx k) (fun e => by rw [e]; exact hy _ hm.rep.xs))⟩
  · rcases h2 j hj with hj | hj
    · exact hx j hj hzj
    · have := h.zlt j hzj; omega
  · rcases h2 _ hj with hj | hj
    · exact hm.dj _ hj hm.rep.xs
    · omega
theorem SDead.close (h : SDead Z W sb cb fb n N most room cm 0 s) : Calls Tryz.prog 48 #[.pointer (some ⟨sb, 0, none⟩)] W fun e W' => e = .returned (.tuple #[]) ∧ SDead Z W' sb cb fb n N most room cm 1 (sclosed n s) ∧ Fr (fun j => ¬ Z j) W W' := by
  obtain ⟨a, p, hb⟩ := h.end_
  obtain ⟨X, hm, hx, hxs⟩ := h.mem
  have hlt := hb.lt
  refine (sclose_ok hb hm hxs).mono ?_
  rintro e W' ⟨rfl, he, ⟨X', h1, h2⟩, hf⟩
  have hs := hf.size
  refine ⟨rfl, ⟨he, ⟨X', h1, fun j hj hzj => ?_, fun hj => ?_⟩, (rest_closed h.rest).1, h.zsb, fun j hj => by have := h.zlt j hj; omega⟩, hf.mono (fun k hk => hk.elim (hx k) (fun e => by rw [e]; exact h.zsb))⟩
  · rcases h2 j hj with hj | hj
    · exact hx j hj hzj
    · have := h.zlt j hzj; omega
  · rcases h2 _ hj with hj | hj
    · exact hxs hj
    · omega
theorem SLaw.new {X : Nat → Prop} (h : CAt W cb fb X room cm s) (hr : CRest room cm s) (hz : ∀ j, Z j → j < W.heap.size) (hx : ∀ j, X j → ¬ Z j) (n : Name) (hn : nameB n = true) (N most : Nat) (hp : SPar N most segs) (hfp : fpg n s.F = []) (hro : ((total s.F : Nat) : Int) + (segs : Int) ≤ room) (hc1 : 1 ≤ cm) (hK : s.clk ≤ 2 * K) :
    Calls Tryz.prog 41 #[.pointer (some ⟨cb, 0, none⟩), .string ⟨n.toArray⟩, .int .i64 (N : Int), .int .i64 (most : Int)] W fun e W' => ∃ sb, e = .returned (.tuple #[.pointer (some ⟨sb, 0, none⟩), .int .i64 0]) ∧ SLaw Z W' sb cb fb n N most segs room cm K ⟨[], []⟩ s ∧ Fr (fun _ => False) W W' := by
  have := hp.mb
  refine (snew_ok h n hn N most hp.n256 hp.m1 (by omega) hfp).mono ?_
  rintro e W' ⟨sb, tb, pb, Y, rfl, hm, hy, hf'⟩
  have hs := hf'.size
  refine ⟨sb, rfl, ⟨⟨tb, pb, 0, X, Y, [], 0, hm, hx, fun j hj hzj => by have := hy j hj; have := hz j hzj; omega, by omega, by omega⟩, ⟨hr, ⟨hn, by simp, by simp, by rw [hfp]; rfl, by simp, by simp, by simp, by simp, by simp, by simp⟩, by simpa using hro, hc1⟩, hK, fun j hj => by have := hz j hj; omega⟩, hf'⟩
theorem sval_new {F : FileL} (n : Name) (k : Nat) : sval F n ⟨[], []⟩ k = zeros8 := by simp [sval, sbase]
/-- one segment resident -/
theorem ask_none {t' : SSt} {s' : CSt} {k : Nat} (h : SAsk n 1 room cm k t s t' s') (ht : t.T = []) : (∃ v, t'.T = [⟨k, v, false⟩]) ∧ t'.PK = t.PK := by
  cases h with
  | there g hg => rw [ht] at hg; cases hg
  | come => exact ⟨⟨sbase s.F n t.PK k, by unfold tcome; rw [ht]; rfl⟩, rfl⟩
  | goes _ hl => rw [ht] at hl; simp at hl
theorem ask_one {t' : SSt} {s' : CSt} {k : Nat} {g : Seg} (h : SAsk n 1 room cm k t s t' s') (ht : t.T = [g]) : (g.key = k ∧ t' = t) ∨ (g.key ≠ k ∧ (∃ v, t'.T = [⟨k, v, false⟩]) ∧ t'.PK = if g.set = true then spk t.PK g.key else t.PK) := by
  cases h with
  | there g' hg hk => rw [ht, List.mem_singleton] at hg; subst hg; exact .inl ⟨hk, rfl⟩
  | come _ hl => rw [ht] at hl; simp at hl
  | goes hno _ g' hg =>
    have hg' := hg
    rw [ht, List.mem_singleton] at hg'
    subst hg'
    refine .inr ⟨hno _ hg, ⟨sbase (sgone room cm n t g' s).F n (tgone t g').PK k, ?_⟩, rfl⟩
    show (t.T.filter fun x => decide (x.key ≠ g'.key)) ++ [_] = _
    rw [ht, List.filter_cons_of_neg (by simp)]
    rfl
end
end Go.Proofs.YtkhbemmcegmdaaaGreatDoor
end
section
set_option linter.all false
set_option linter.unusedVariables false
set_option maxRecDepth 100000
namespace Go.Proofs.YtkhbemmcegmdaaaGreatDoor
open Go.RowKit

theorem name_v : nameB [118] = true := by decide +kernel
theorem rest_new (room : Int) (h0 : 0 ≤ room) (h1 : room ≤ 4096) (cm : Nat) : CRest room cm ⟨-1, [], [], 0⟩ :=
  ⟨⟨⟨by simp [total]; omega, by omega, by simp, by simp⟩, by simp, by simp, by simp, by simp, by simp, by simp, by simp, by simp⟩, fun x hx => (by cases hx), fun x hx => (by cases hx)⟩
theorem does15_true (w : World) : Calls Tryz.prog 45 #[] w fun e w' => e = .returned (.bool true) ∧ Fr (fun _ => False) w w' := by
  have HN := hide (fnew_ok 9 (by omega) (by omega) w)
  have HP := hide (show SPar 20 1 3 from spar_of (by omega) (by omega) (by omega))
  go_enter Tryz.func45, Tryz.ntmps45
  go_wp2_with fail
  go_at_call 24
  refine HN.out.mono ?_
  rintro e W1 ⟨fb, XF, rfl, hat, hx1, hf1⟩
  have HC := hide (cnew_ok hat 2 (by omega) (by omega))
  have H1 := hide (And.intro hx1 hf1)
  clear hat hx1 hf1 HN
  go_wp2_with fail
  go_at_call 26
  refine HC.out.mono ?_
  rintro e W2 ⟨cb, X2, rfl, hat, hx2, _, hcb, hf2⟩
  have HSN := hide (SLaw.new (K := 0) (room := 9) (segs := 3) hat (rest_new 9 (by omega) (by omega) 2) (Z := fun j => j < w.heap.size) (fun j hj => Nat.lt_of_lt_of_le hj (H1.out.2.then_ hf2).size) (fun j hj hz => absurd hz (Nat.not_lt.2 ((hx2 j hj).elim (H1.out.1 j) (fun h => Nat.le_trans H1.out.2.size h)))) [118] name_v 20 1 HP.out rfl (by simp [total]) (by omega) (by simp))
  have HF2 := hide (H1.out.2.then_ hf2)
  clear hat hx2 hcb hf2 HC H1
  go_wp2_with fail
  go_at_call 41
  refine HSN.out.mono ?_
  rintro e W3 ⟨sb, rfl, hl3, hf3⟩
  have HF3 := hide ((HF2.out.then_ hf3).mono (S' := fun j => ¬ j < w.heap.size) (fun _ h => h.elim))
  have HL3 := hide hl3
  have HG := hide (hl3.set HP.out (by omega) 0 5 (by omega) (by omega))
  clear hl3 hf3 HSN
  go_wp2_with fail
  go_at_call 42
  refine HG.out.mono ?_
  rintro e W4 (⟨rfl, t1, s1, has, hl, hk, hv, hff⟩ | ⟨_, h0, _⟩)
  rotate_left
  · exact absurd h0 (by decide)
  obtain ⟨⟨v1, hT1⟩, hPK1⟩ := ask_none has rfl
  obtain ⟨u1, hu1⟩ : ∃ u1 : SSt, { t1 with T := tset (0 / 8) (0 % 8) 5 t1.T } = u1 := ⟨_, rfl⟩
  rw [hu1] at hl hk hv
  have HU1 : Hid (u1.T = [⟨0, v1.set 0 5, true⟩] ∧ u1.PK = [] ∧ s1.left = -1 ∧ sval s1.F [118] u1 0 = zeros8.set 0 5 ∧ sval s1.F [118] u1 2 = zeros8) := by
    refine ⟨?_, ?_, hk.lft rfl, ?_, ?_⟩
    · rw [← hu1]; show tset _ _ _ t1.T = _; rw [hT1]; rfl
    · rw [← hu1]; exact hPK1
    · rw [hv, sval_new]; rfl
    · rw [hv, sval_new]; rfl
  have HL4 := hide hl
  have HF4 := hide (HF3.out.trans hff (fun _ h => .inl h))
  have HG2 := hide (hl.get HP.out (by omega) 19 (by omega))
  rw [show (19 : Nat) / 8 = 2 from rfl, show (19 : Nat) % 8 = 3 from rfl, HU1.out.2.2.2.2, show ((zeros8.getD 3 0 : Nat) : Int) = 0 from rfl] at HG2
  clear hff has hl hk hv hT1 hPK1 hu1 HL3 HG
  go_wp2_with fail
  go_at_call 50
  refine HG2.out.mono ?_
  rintro e W5 (⟨rfl, t2, s2, has, hl, hk, hv, hff⟩ | ⟨_, h0, _⟩)
  rotate_left
  · rw [HU1.out.2.2.1] at h0; exact absurd h0 (by decide)
  have HU2 : Hid ((∃ v, t2.T = [⟨2, v, false⟩]) ∧ t2.PK = [0] ∧ s2.left = -1 ∧ sval s2.F [118] t2 0 = zeros8.set 0 5) := by
    rcases ask_one has HU1.out.1 with ⟨e, _⟩ | ⟨_, h2, h3⟩
    · exact absurd (show (0 : Nat) = 2 from e) (by decide)
    · refine ⟨h2, ?_, hk.lft HU1.out.2.2.1, ?_⟩
      · rw [h3, if_pos rfl, HU1.out.2.1]; rfl
      · rw [hv]; exact HU1.out.2.2.2.1
  have HL5 := hide hl
  have HF5 := hide (HF4.out.trans hff (fun _ h => .inl h))
  have HR := hide hl.res
  obtain ⟨v2, hT2⟩ := HU2.out.1
  rw [hT2] at HR
  have HT2 := hide hT2
  have HG3 := hide (hl.get HP.out (by omega) 0 (by omega))
  rw [show (0 : Nat) / 8 = 0 from rfl, show (0 : Nat) % 8 = 0 from rfl, HU2.out.2.2.2, show (((zeros8.set 0 5).getD 0 0 : Nat) : Int) = 5 from rfl] at HG3
  clear hff has hl hk hv hT2 HL4 HG2
  go_wp2_with fail
  go_at_call 44
  refine HR.out.mono ?_
  rintro e w9 ⟨rfl, rfl⟩
  clear HR
  go_wp2_with fail
  go_at_call 50
  refine HG3.out.mono ?_
  rintro e W6 (⟨rfl, t3, s3, has, hl, hk, hv, hff⟩ | ⟨_, h0, _⟩)
  rotate_left
  · rw [HU2.out.2.2.1] at h0; exact absurd h0 (by decide)
  have HU3 : Hid (t3.PK = [0]) := by
    rcases ask_one has HT2.out with ⟨e, _⟩ | ⟨_, h2, h3⟩
    · exact absurd (show (2 : Nat) = 0 from e) (by decide)
    · show _ = _; rw [h3, if_neg (by simp)]; exact HU2.out.2.1
  have HL6 := hide hl
  have HF6 := hide (HF5.out.trans hff (fun _ h => .inl h))
  have HPG := hide hl.pages
  rw [HU3.out] at HPG
  have HOUT := hide (hl.get_out 20 (.inr (by decide)))
  have HCL := hide hl.close
  clear hff has hl hk hv HL5 HG3
  go_wp2_with fail
  go_at_call 43
  refine HPG.out.mono ?_
  rintro e w9 ⟨rfl, rfl⟩
  go_wp2_with fail
  go_at_call 50
  refine HOUT.out.mono ?_
  rintro e w9 ⟨rfl, rfl⟩
  go_wp2_with fail
  go_at_call 48
  refine HCL.out.mono ?_
  rintro e W7 ⟨rfl, hd, hff⟩
  have HD := hide hd
  have HOV := hide (sget_over hd.end_ 0)
  obtain ⟨X7, hc7, _⟩ := hd.mem
  have HP7 := hide (cat_pages hc7 [118])
  rw [(rest_closed (n := [118]) HL6.out.ok.rest).2.1] at HP7
  have HLN := hide (slen_over hd.end_)
  have HF7 := hide (HF6.out.trans hff (fun _ h => .inl h))
  clear hff hd hc7 HPG HOUT HCL
  go_wp2_with fail
  go_at_call 50
  refine HOV.out.mono ?_
  rintro e w9 ⟨rfl, rfl⟩
  go_wp2_with fail
  go_at_call 43
  refine HP7.out.mono ?_
  rintro e w9 ⟨rfl, rfl⟩
  go_wp2_with fail
  go_at_call 49
  refine HLN.out.mono ?_
  rintro e w9 ⟨rfl, rfl⟩
  go_wp2
  go_ret
  exact ⟨rfl, HF7.out.down⟩
end Go.Proofs.YtkhbemmcegmdaaaGreatDoor
end
section
set_option linter.all false
set_option linter.unusedVariables false
set_option maxRecDepth 100000
namespace Go.Proofs.YtkhbemmcegmdaaaGreatDoor.frame
open Go.ChangeShapes Go.WideShapes Go.ChangeAt Go.RowKit
open Go.ChangeMaps (open_string shut_string)

theorem own : ownKnob Tryz.prog.godebug = none := by kernel_rfl
theorem laidOut : laidOutB Tryz.prog = true := by kernel_rfl

section
variable {H : Type} {enc : TypeId × Value → H} {W W' : World} {base : Nat} {t : TypeId} {v : Value} {d : DataW H} {ps : List MemPlace}
theorem keep (hr : Tryz.prog.readableRec t = true) (hrow : t < Tryz.prog.types.size) (h : DataW.Trod enc Tryz.prog W 0 (fun _ => true) true t v d ps) (bel : Below W.heap.size W W') :
    DataW.Trod enc Tryz.prog W' 0 (fun b => decide (b < W.heap.size)) true t v d ps :=
  Below.trod laidOut hr hrow h bel (by obtain ⟨m, hm⟩ := h; exact DataW.trod_lt m _ _ _ hm)

/-- a slice of strings, as it came in -/
theorem open_strs (hv : Value.okWide Tryz.prog W .any base 116 v) (h : DataW.Trod enc Tryz.prog W 0 (fun _ => true) true 116 v d ps) :
    ∃ A n c, ∃ L : List (List UInt8), v = .slice A n c ∧ Reads W W.heap.size 1 A n (L.map strv) ∧ n ≤ c ∧ c ≤ maxLen := by
  obtain ⟨A, n, c, rfl⟩ := okWide_slice Tryz.underlying116 hv
  obtain ⟨fuel, hf⟩ := h
  rcases open_strings Tryz.underlying116 Tryz.underlying9 (by kernel_rfl) hf with ⟨hcs, _⟩ | ⟨x, l, cp, ss, hcs, _, hl, hm, hz, hx, hcell, hsz⟩
  · simp [Value.cells] at hcs
    obtain ⟨rfl, rfl, rfl⟩ := hcs
    exact ⟨_, _, _, [], rfl, Reads.none_, Nat.le_refl _, by unfold maxLen; omega⟩
  · simp [Value.cells] at hcs
    obtain ⟨rfl, rfl, rfl⟩ := hcs
    have hz' : ss.length = c := by simpa using hz
    refine ⟨_, _, _, (ss.take n).map (fun s => s.data.toList), rfl, ⟨by simp; omega, fun hn => ?_⟩, hl, hm⟩
    have h0 := hcell 0 (by omega)
    have hb := World.block_lt_of_cell? W _ h0
    obtain ⟨b, o, s⟩ := x
    have hs : s = none := by simpa [Addr.add] using World.cell?_spot h0
    subst hs
    refine ⟨b, o, rfl, by simpa [Addr.add] using hb, fun j u hu => ?_⟩
    have hj : j < n := by
      have := (List.getElem?_eq_some_iff.1 hu).1
      simp at this
      omega
    have hc := hcell j (by omega)
    rw [Addr.add_lit] at hc
    rw [hc, ← hu]
    simp [List.getD, hj, show j < ss.length by omega, strv]
end

end Go.Proofs.YtkhbemmcegmdaaaGreatDoor.frame
end
