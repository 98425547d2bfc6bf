/- A MAP, RAW: its entries as a list of keys, values and stamps. Look-up, store, delete, len; a range by any order. -/
import Derived.Test.YtkhbemmcegmdaaaGreatDoorBase
import Derived.Maps.RangeRun
import Derived.WideKeyRuns
import Derived.ChangeMaps4
set_option linter.all false
set_option linter.unusedVariables false
set_option maxRecDepth 100000
namespace Go.Proofs.YtkhbemmcegmdaaaGreatDoor
open Go.RowKit
open Go.ChangeMaps (setBlock)

section
set_option linter.unusedSectionVars false
variable {α : Type} [DecidableEq α]
/-- an entry: its key, its value, when it was born -/
abbrev Ent (α : Type) := α × Value × Nat
def ent (enc : α → Value) (x : Ent α) : MapEntry := { key := enc x.1, val := x.2.1, born := x.2.2 }
def look (k : α) : List (Ent α) → Nat → Option (Nat × Value)
  | [], _ => none
  | x :: L, i => if k = x.1 then some (i, x.2.1) else look k L (i + 1)
/-- the value at a key -/
def aget (k : α) : List (Ent α) → Option Value
  | [] => none
  | x :: L => if k = x.1 then some x.2.1 else aget k L
/-- the value at a key that is there turned -/
def aset (k : α) (v : Value) : List (Ent α) → List (Ent α)
  | [] => []
  | x :: L => if k = x.1 then (k, v, x.2.2) :: L else x :: aset k v L
def adel (k : α) : List (Ent α) → List (Ent α)
  | [] => []
  | x :: L => if k = x.1 then L else x :: adel k L
theorem look_get (k : α) : ∀ (L : List (Ent α)) (i : Nat), (look k L i).map (·.2) = aget k L
  | [], _ => rfl
  | x :: L, i => by
    unfold look aget
    split
    · rfl
    · exact look_get k L (i + 1)
theorem look_some {k : α} {v : Value} : ∀ {L : List (Ent α)} {i j : Nat}, look k L i = some (j, v) → i ≤ j ∧ ∀ w : Value, (L.map (ent (fun _ : α => w))).length = L.length
  | [], i, j, h => by cases h
  | x :: L, i, j, h => by
    unfold look at h
    split at h
    · injection h with h; injection h with h1 h2; exact ⟨by omega, fun w => by simp⟩
    · exact ⟨by have := (look_some h).1; omega, fun w => by simp⟩
theorem set_modify (enc : α → Value) {k : α} {v v0 : Value} : ∀ {L : List (Ent α)} {i j : Nat}, look k L i = some (j, v0) →
    (L.map (ent enc)).modify (j - i) (fun e => { e with key := enc k, val := v }) = (aset k v L).map (ent enc)
  | [], i, j, h => by cases h
  | x :: L, i, j, h => by
    unfold look at h
    unfold aset
    split at h
    · next hk =>
      injection h with h; injection h with h1 h2
      subst h1
      rw [if_pos hk, Nat.sub_self]
      rfl
    · next hk =>
      have hj := (look_some h).1
      have ih := set_modify enc (v := v) h
      rw [if_neg hk, show j - i = (j - (i + 1)) + 1 by omega]
      rw [List.map_cons, List.modify_succ_cons, ih, List.map_cons]
theorem del_erase (enc : α → Value) {k : α} {v0 : Value} : ∀ {L : List (Ent α)} {i j : Nat}, look k L i = some (j, v0) →
    (L.map (ent enc)).eraseIdx (j - i) = (adel k L).map (ent enc)
  | [], i, j, h => by cases h
  | x :: L, i, j, h => by
    unfold look at h
    unfold adel
    split at h
    · next hk =>
      injection h with h; injection h with h1 h2
      subst h1
      rw [if_pos hk, Nat.sub_self]
      rfl
    · next hk =>
      have hj := (look_some h).1
      have ih := del_erase enc h
      rw [if_neg hk, show j - i = (j - (i + 1)) + 1 by omega]
      rw [List.map_cons, List.eraseIdx_cons_succ, ih, List.map_cons]
theorem look_none {k : α} : ∀ {L : List (Ent α)} {i : Nat}, look k L i = none → adel k L = L
  | [], _, _ => rfl
  | x :: L, i, h => by
    unfold look at h
    unfold adel
    split at h
    · cases h
    · next hk => rw [if_neg hk, look_none h]
theorem look_lt {k : α} {v : Value} : ∀ {L : List (Ent α)} {i j : Nat}, look k L i = some (j, v) → j < i + L.length
  | [], i, j, h => by cases h
  | x :: L, i, j, h => by
    unfold look at h
    split at h
    · injection h with h; injection h with h1 h2; simp; omega
    · have := look_lt h; simp; omega
theorem look_at {k : α} {v : Value} (enc : α → Value) : ∀ {L : List (Ent α)} {i j : Nat}, look k L i = some (j, v) → ((L.map (ent enc))[j - i]?).map (·.key) = some (enc k)
  | [], i, j, h => by cases h
  | x :: L, i, j, h => by
    unfold look at h
    split at h
    · next hk =>
      injection h with h; injection h with h1 h2
      subst h1
      rw [Nat.sub_self, hk]
      rfl
    · have hj := (look_some h).1
      have ih := look_at enc h
      rw [show j - i = (j - (i + 1)) + 1 by omega]
      simpa using ih
/-- how a key's type is told apart -/
structure KeyE (P : Program) (kt : TypeId) (enc : α → Value) : Prop where
  check : ∀ (k : α) (e : Bool) (w : World), (Instr.checkKey e 10000 kt (enc k)).run P w = .ok () w
  find : ∀ (k : α) (L : List (Ent α)) (w : World), (Instr.findKey kt (enc k) (L.map (ent enc))).run P w = .ok (look k L 0) w
  bits : ∀ k : α, Instr.sameBits 10000 (enc k) (enc k) = true
/-- block b is a map of just these entries, in this order -/
def MBlk (w : World) (b : Nat) (enc : α → Value) (L : List (Ent α)) (clock : Nat) : Prop := w.heap[b]? = some (.map (L.map (ent enc)).toArray clock)
section
variable {P : Program} {kt et mt : TypeId} {enc : α → Value} {w w' : World} {b clock : Nat} {L : List (Ent α)} {S : Nat → Prop}
theorem MBlk.lt (h : MBlk w b enc L clock) : b < w.heap.size := by
  rcases Nat.lt_or_ge b w.heap.size with h1 | h1
  · exact h1
  · unfold MBlk at h; rw [Array.getElem?_eq_none h1] at h; cases h
theorem MBlk.fr (h : MBlk w b enc L clock) (hf : Fr S w w') (hs : ¬ S b) : MBlk w' b enc L clock := (hf.block b h.lt hs).trans h
theorem MBlk.set (h : MBlk w b enc L clock) (M : List (Ent α)) (c : Nat) : MBlk (setBlock w b (.map (M.map (ent enc)).toArray c)) b enc M c := by
  unfold MBlk setBlock
  simp only
  rw [Array.getElem?_setIfInBounds_self_of_lt h.lt]
theorem fr_setBlock (w : World) (b : Nat) (o : Obj) : Fr (fun k => k = b) w (setBlock w b o) :=
  ⟨rfl, rfl, rfl, by simp [setBlock], fun k hk hn => by
    unfold setBlock
    simp only
    rw [Array.getElem?_setIfInBounds_ne (by omega)]⟩
theorem lookup_ok (K : KeyE P kt enc) (ht : P.underlying mt = some (.map kt et)) {z : Value} (hz : ∀ w, (zeroValue et).run P w = .ok z w) (hb : MBlk w b enc L clock) (k : α) :
    (Instr.lookup mt (.map (some b)) (enc k) true).run P w = .ok (.tuple #[(aget k L).getD z, .bool (aget k L).isSome]) w := by
  have hl := look_get k L 0
  simp only [Instr.lookup, Sem.run_bind, run_underlying ht, Result.andThen, MapKept.run_getObj_map hb, K.check, List.toList_toArray, K.find]
  cases h : look k L 0 with
  | none => rw [h] at hl; rw [← hl]; simp [K.find, h, hz]
  | some x => rw [h] at hl; rw [← hl]; simp [K.find, h]
theorem lookup_v (K : KeyE P kt enc) (ht : P.underlying mt = some (.map kt et)) {z : Value} (hz : ∀ w, (zeroValue et).run P w = .ok z w) (hb : MBlk w b enc L clock) (k : α) :
    (Instr.lookup mt (.map (some b)) (enc k) false).run P w = .ok ((aget k L).getD z) w := by
  have hl := look_get k L 0
  simp only [Instr.lookup, Sem.run_bind, run_underlying ht, Result.andThen, MapKept.run_getObj_map hb, K.check, List.toList_toArray, K.find]
  cases h : look k L 0 with
  | none => rw [h] at hl; rw [← hl]; simp [K.find, h, hz]
  | some x => rw [h] at hl; rw [← hl]; simp [K.find, h]
/-- behind a store -/
def aput (k : α) (v : Value) (L : List (Ent α)) (clock : Nat) : List (Ent α) := if (aget k L).isSome then aset k v L else L ++ [(k, v, clock)]
def aclk (k : α) (L : List (Ent α)) (clock : Nat) : Nat := if (aget k L).isSome then clock else clock + 1
theorem update_ok (K : KeyE P kt enc) (ht : P.underlying mt = some (.map kt et)) (hb : MBlk w b enc L clock) (k : α) (v : Value) :
    (Instr.mapUpdate mt (.map (some b)) (enc k) v).run P w = .ok () (setBlock w b (.map ((aput k v L clock).map (ent enc)).toArray (aclk k L clock))) := by
  have hl := look_get k L 0
  simp only [Instr.mapUpdate, Sem.run_bind, run_underlying ht, Result.andThen, MapKept.run_getObj_map hb, K.check, List.toList_toArray, K.find]
  cases h : look k L 0 with
  | none =>
    rw [h] at hl
    unfold aput aclk
    rw [← hl]
    simp only [Option.map_none, Option.isSome_none, Bool.false_eq_true, if_false]
    rw [MapKept.run_setObj_map _ hb]
    simp [setBlock, ent]
  | some x =>
    obtain ⟨j, v0⟩ := x
    rw [h] at hl
    unfold aput aclk
    rw [← hl]
    have hat := look_at enc h
    have hmd := set_modify enc (v := v) h
    rw [Nat.sub_zero] at hat hmd
    simp only [Option.map_some, Option.isSome_some, if_true, List.getElem?_toArray, hat, Option.getD_some]
    have hks : (Instr.keyThatStays (enc k) (enc k)).run P w = .ok (enc k) w := by simp [Instr.keyThatStays, K.bits]
    simp only [Sem.run_bind, hks, Result.andThen, MapKept.run_setObj_map _ hb, List.modify_toArray, hmd]
    rfl
theorem delete_ok (K : KeyE P kt enc) (ht : P.underlying mt = some (.map kt et)) (hb : MBlk w b enc L clock) (k : α) (ty : TypeId) :
    (Builtin.delete_ #[mt, kt] ty #[.map (some b), enc k]).run P w = .ok (.tuple #[]) (setBlock w b (.map ((adel k L).map (ent enc)).toArray clock)) := by
  simp only [Builtin.delete_, List.getElem?_toArray, List.getElem?_cons_zero, List.getElem?_cons_succ, Sem.run_bind, run_underlying ht, Result.andThen, MapKept.run_getObj_map hb, K.check, List.toList_toArray, K.find]
  cases h : look k L 0 with
  | none =>
    simp only [look_none h, Sem.run_bind, MapKept.run_setObj_map _ hb, Result.andThen]
    rfl
  | some x =>
    obtain ⟨j, v0⟩ := x
    have hde := del_erase enc h
    have hlt := look_lt h
    rw [Nat.sub_zero] at hde
    rw [Nat.zero_add] at hlt
    simp only [Sem.run_bind, MapKept.run_setObj_map _ hb, Result.andThen]
    have : (L.map (ent enc)).toArray.eraseIdxIfInBounds j = ((adel k L).map (ent enc)).toArray := by
      unfold Array.eraseIdxIfInBounds
      rw [dif_pos (by simpa using hlt), List.eraseIdx_toArray, hde]
    rw [this]
    rfl
theorem len_ok (ht : P.underlying mt = some (.map kt et)) (hb : MBlk w b enc L clock) (ty : TypeId) : (Builtin.len_ #[mt] ty #[.map (some b)]).run P w = .ok (.int .i64 (L.length : Int)) w := by
  simp [Builtin.len_, run_underlying ht, MapKept.run_getObj_map hb, goInt]
end
theorem key_now {P : Program} {kt : TypeId} {d : TypeDesc} {enc : α → Value} (ht : P.underlying kt = some d) (hk : ∀ k, MapKept.IsKey d (enc k)) (hi : ∀ a b, enc a = enc b → a = b) (hb : ∀ k : α, Instr.sameBits 10000 (enc k) (enc k) = true) : KeyE P kt enc where
  check k e w := MapKept.run_checkKey ht (hk k) e 9999
  find k L w := by
    refine MapKept.run_findKey ht ?_
    have : ∀ (L : List (Ent α)) (i : Nat), Instr.findNow d (enc k) (L.map (ent enc)) i = some (look k L i) := by
      intro L
      induction L with
      | nil => intro i; rfl
      | cons x L ih =>
        intro i
        obtain ⟨r, hr, hr2⟩ := MapKept.sameNow_of_keys (hk k) (hk x.1)
        rw [List.map_cons]
        unfold Instr.findNow look
        rw [show (ent enc x).key = enc x.1 from rfl, hr]
        by_cases h : k = x.1
        · rw [if_pos h, hr2.2 (by rw [h])]
          rfl
        · rw [if_neg h]
          cases hrr : r with
          | true => exact absurd (hi _ _ (hr2.1 hrr)) h
          | false => exact ih (i + 1)
    exact this L 0
  bits := hb
end
/-- a string, an int as a key -/
def strk (l : List UInt8) : Value := .string ⟨l.toArray⟩
theorem strk_inj {a b : List UInt8} (h : strk a = strk b) : a = b := by
  unfold strk at h
  injection h with h
  injection h with h
  simpa using h
theorem key_string {P : Program} {kt : TypeId} (ht : P.underlying kt = some .string) : KeyE P kt strk :=
  key_now ht (fun k => by simp [MapKept.IsKey, strk]) (fun a b h => strk_inj h) (fun k => by simp [Instr.sameBits, strk, MapKept.bytes_beq])
theorem key_int {P : Program} {kt : TypeId} {q : IntKind} (ht : P.underlying kt = some (.int q)) : KeyE P kt (fun z : Int => .int q z) :=
  key_now ht (fun k => by simp [MapKept.IsKey]) (fun a b h => by injection h) (fun k => by simp [Instr.sameBits])
end Go.Proofs.YtkhbemmcegmdaaaGreatDoor
