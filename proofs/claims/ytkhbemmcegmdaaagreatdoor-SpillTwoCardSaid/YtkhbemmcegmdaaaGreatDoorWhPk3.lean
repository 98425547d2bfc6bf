/- Parts of the proof of several laws: no conditions of their own. -/
import Derived.Test.YtkhbemmcegmdaaaGreatDoorWhPk2
import Derived.Test.YtkhbemmcegmdaaaGreatDoorWhPk1
import Derived.Shelf.SlIter.Nil
import Derived.Shelf.SortM.Plain
import Derived.Shelf.SortM.SortNone
import Derived.Ground.GgzProg
import Derived.Ground.SlgmProg
import Derived.Test.YtkhbemmcegmdaaaGreatDoorProg
import Derived.Sort.KeysCollected
section
set_option linter.all false
set_option linter.unusedVariables false
set_option maxRecDepth 100000
namespace Go.Proofs.YtkhbemmcegmdaaaGreatDoor
open Go.RowKit

def oddB (c : Nat) : Bool := decide (c ≤ 32) || decide (126 < c)
/-- is a text a name? -/
def nameB (n : Name) : Bool := (decide (n ≠ []) && decide (n.length ≤ 8)) && decide (Lib.idxFunc oddB true ⟨n.toArray⟩ < 0)
theorem odd_ok (x : Nat) (hx : x ≤ 1114111) (w : World) : Calls Tryz.prog 110 #[.int .i32 (x : Int)] w fun e w' => e = .returned (.bool (oddB x)) ∧ w = w' := by
  by_cases h : 32 < x
  · have h1 : decide (x ≤ 32) = false := by simp; omega
    have h2 : ¬ x ≤ 32 := by omega
    have e : oddB x = decide (126 < x) := by unfold oddB; rw [h1]; simp
    rw [e]
    go_enter Tryz.func110, Tryz.ntmps110
    go_wp2
    go_ret
    have a : decide ((x : Int) ≤ 32) = false := by simp; omega
    have b : decide ((126 : Int) < (x : Int)) = decide (126 < x) := decide_eq_decide.2 (by omega)
    exact ⟨by simp only [a, b, Bool.false_or, Array.getD_eq_getD_getElem?, List.getElem?_toArray, List.getElem?_cons_succ, List.getElem?_cons_zero, Option.getD_some], rfl⟩
  · have h1 : decide (x ≤ 32) = true := by simp; omega
    have e : oddB x = true := by unfold oddB; rw [h1]; simp
    rw [e]
    go_enter Tryz.func110, Tryz.ntmps110
    go_wp2
    go_ret
    exact ⟨rfl, rfl⟩
theorem fname_ok (n : Name) (hn : n.length ≤ 9223372036854775807) (w : World) : Calls Tryz.prog 63 #[.string ⟨n.toArray⟩] w fun e w' => e = .returned (.bool (nameB n)) ∧ Fr (fun _ => False) w w' := by
  have HI := hide (Tryz.strings_IndexFunc_grows 110 #[] (fun args w => by kernel_rfl) oddB ⟨n.toArray⟩ w (fun W x hx hb => (odd_ok x hx W).mono fun e w' h => ⟨h.1, by rw [← h.2]; exact Below.refl _ _⟩))
  obtain ⟨z, hz⟩ : ∃ z, Lib.idxFunc oddB true ⟨n.toArray⟩ = z := ⟨_, rfl⟩
  have e0 : nameB n = ((decide (n ≠ []) && decide (n.length ≤ 8)) && decide (z < 0)) := by unfold nameB; rw [hz]
  rw [hz] at HI
  rw [e0]
  clear hz e0
  by_cases hne : n = []
  · subst hne
    go_enter Tryz.func63, Tryz.ntmps63
    go_wp2_with fail
    go_at_call 109
    refine HI.out.mono ?_
    rintro e w1 ⟨rfl, hf⟩
    have HF := hide (Fr.of_below hf (fun _ => False))
    clear hf
    go_wp2
    go_ret
    exact ⟨by simp, HF.out⟩
  by_cases h8 : n.length ≤ 8
  · have e1 : (decide (n ≠ []) && decide (n.length ≤ 8)) = true := by simp [hne, h8]
    have e2 : n.isEmpty = false := by simp [hne]
    have h8i : ((n.length : Nat) : Int) ≤ 8 := by omega
    rw [e1]
    go_enter Tryz.func63, Tryz.ntmps63
    go_wp2_with fail
    go_at_call 109
    refine HI.out.mono ?_
    rintro e w1 ⟨rfl, hf⟩
    have HF := hide (Fr.of_below hf (fun _ => False))
    clear hf
    go_wp2
    go_ret
    exact ⟨by simp [e2], HF.out⟩
  · have e1 : (decide (n ≠ []) && decide (n.length ≤ 8)) = false := by simp [h8]
    have e2 : n.isEmpty = false := by simp [hne]
    have h8i : ¬ ((n.length : Nat) : Int) ≤ 8 := by omega
    rw [e1]
    go_enter Tryz.func63, Tryz.ntmps63
    go_wp2_with fail
    go_at_call 109
    refine HI.out.mono ?_
    rintro e w1 ⟨rfl, hf⟩
    have HF := hide (Fr.of_below hf (fun _ => False))
    clear hf
    go_wp2
    go_ret
    exact ⟨by simp [e2], HF.out⟩
theorem wpred_ok (s : List UInt8) (h : s.length = 128) (w : World) : Calls Tryz.prog 96 #[.string ⟨s.toArray⟩] w fun e w' => e = .returned (.bool false) ∧ w = w' := by
  have HP := hide (fpage_ok s (by omega) w)
  have e : decide (s.length = 128) = true := by simp [h]
  rw [e] at HP
  go_enter Tryz.func96, Tryz.ntmps96
  go_wp2_with fail
  go_at_call 64
  refine HP.out.mono ?_
  rintro e w1 ⟨rfl, rfl⟩
  go_wp2
  go_ret
  exact ⟨rfl, rfl⟩
theorem idxf_ok (A : Option Addr) (n c B : Nat) (L : List (List UInt8)) (w : World) (h : Reads w B 1 A n (L.map strv)) (hn : n ≤ 100000) (hl : ∀ s ∈ L, s.length = 128) :
    Calls Tryz.prog 137 #[.slice A n c, .func (.func 96) #[] #[]] w fun e w' => e = .returned (.int .i64 (-1)) ∧ w = w' := by
  have H := hide h
  have HL := hide hl
  have HLN := hide (show L.length = n by have := h.1; simpa using this)
  clear h hl
  go_enter Tryz.func137, Tryz.ntmps137
  go_wp2
  go_loopw [8] (fun i wr => ∃ k : Nat, k ≤ n ∧ i = .int .i64 (k : Int) ∧ wr = w) (fun i _ => n - (intOf i).toNat)
  case atStart => exact ⟨0, by omega, rfl, rfl⟩
  case round =>
    obtain ⟨k, hk, rfl, rfl⟩ := hrel
    by_cases hlt : k < n
    · have lk : k < L.length := by rw [HLN.out]; exact hlt
      obtain ⟨b, o, rfl, hb, hc⟩ := H.out.2 (by omega)
      have hcc := hc k (strv L[k]) (by rw [List.getElem?_map, List.getElem?_eq_getElem lk]; rfl)
      have hs := HL.out _ (List.getElem_mem lk)
      unfold strv at hcc
      generalize L[k]'lk = x at *
      have HP := hide (wpred_ok x hs wr)
      have b0 : (0 : Int) ≤ (k : Int) := by omega
      have b1 : (k : Int) < (n : Int) := by omega
      clear hc
      go_wp2_with fail
      go_at_call 96
      refine HP.out.mono ?_
      rintro e w1 ⟨rfl, rfl⟩
      go_wp2
      go_roundw
      case rel => exact ⟨k + 1, by omega, by go_num, by first | rfl | trivial⟩
      case measure => simp [intOf]; omega
    · obtain rfl : k = n := by omega
      go_wp2
      go_ret
      exact ⟨rfl, rfl⟩
theorem contf_ok (A : Option Addr) (n c B : Nat) (L : List (List UInt8)) (w : World) (h : Reads w B 1 A n (L.map strv)) (hn : n ≤ 100000) (hl : ∀ s ∈ L, s.length = 128) :
    Calls Tryz.prog 95 #[.slice A n c, .func (.func 96) #[] #[]] w fun e w' => e = .returned (.bool false) ∧ w = w' := by
  have HI := hide (idxf_ok A n c B L w h hn hl)
  clear h hl
  go_enter Tryz.func95, Tryz.ntmps95
  go_wp2_with fail
  go_at_call 137
  refine HI.out.mono ?_
  rintro e w1 ⟨rfl, rfl⟩
  go_wp2
  go_ret
  exact ⟨rfl, rfl⟩
end Go.Proofs.YtkhbemmcegmdaaaGreatDoor
end
section
set_option linter.all false
namespace Go.Proofs
open Go.Shelf
def Tryz.keys101_ren : Go.Shelf.Ren := ⟨fun | 7 => 101 | 10 => 140 | n => n, fun | 23 => 123 | 26 => 9 | 3 => 116 | 28 => 170 | 0 => 0 | 27 => 169 | 33 => 126 | 4 => 4 | n => n, fun | n => n⟩
theorem Tryz.keys101 : Go.Proofs.SlLaysZ.n7 Tryz.prog Tryz.keys101_ren := {
  mixed := by kernel_rfl
  f7 := ⟨Tryz.f101.name, by decide, Tryz.func101.trans (congrArg some (by kernel_rfl))⟩
  f10 := ⟨Tryz.f140.name, by decide, Tryz.func140.trans (congrArg some (by kernel_rfl))⟩
  t0 := Tryz.underlying0
  a0 := Tryz.isAgg0
  z0 := Tryz.sizeOf0
  v0 := Tryz.zeroValue0
  t4 := Tryz.underlying4
  a4 := Tryz.isAgg4
  z4 := Tryz.sizeOf4
  v4 := Tryz.zeroValue4
  t23 := Tryz.underlying123
  a23 := Tryz.isAgg123
  z23 := Tryz.sizeOf123
  v23 := Tryz.zeroValue123
  t26 := Tryz.underlying9
  a26 := Tryz.isAgg9
  z26 := Tryz.sizeOf9
  v26 := Tryz.zeroValue9
  t27 := Tryz.underlying169
  a27 := Tryz.isAgg169
  z27 := Tryz.sizeOf169
  v27 := Tryz.zeroValue169
  t28 := Tryz.underlying170
  a28 := Tryz.isAgg170
  z28 := Tryz.sizeOf170
  v28 := Tryz.zeroValue170
  t33 := Tryz.underlying126
  a33 := Tryz.isAgg126
  z33 := Tryz.sizeOf126
  v33 := Tryz.zeroValue126 }
def Tryz.sorted100_ren : Go.Shelf.Ren := ⟨fun | 6 => 100 | 8 => 138 | 9 => 139 | 11 => 161 | 13 => 163 | 12 => 162 | 23 => 187 | 24 => 188 | 14 => 178 | 15 => 179 | 16 => 180 | 17 => 181 | 18 => 182 | 19 => 183 | 20 => 184 | 21 => 185 | 22 => 186 | 25 => 203 | 26 => 204 | 27 => 205 | 28 => 206 | 29 => 207 | 30 => 208 | 31 => 217 | n => n, fun | 26 => 9 | 28 => 170 | 24 => 116 | 0 => 0 | 3 => 3 | 37 => 105 | 48 => 93 | 50 => 78 | 4 => 4 | 40 => 244 | 39 => 243 | 45 => 237 | 5 => 5 | 9 => 9 | 51 => 265 | 55 => 269 | 57 => 275 | 58 => 276 | 33 => 126 | n => n, fun | n => n⟩
theorem Tryz.sorted100 : Go.Proofs.SlLaysZ.n6 Tryz.prog Tryz.sorted100_ren := {
  mixed := by kernel_rfl
  f6 := ⟨Tryz.f100.name, by decide, Tryz.func100.trans (congrArg some (by kernel_rfl))⟩
  f8 := ⟨Tryz.f138.name, by decide, Tryz.func138.trans (congrArg some (by kernel_rfl))⟩
  f11 := ⟨Tryz.f161.name, by decide, Tryz.func161.trans (congrArg some (by kernel_rfl))⟩
  t0 := Tryz.underlying0
  a0 := Tryz.isAgg0
  z0 := Tryz.sizeOf0
  v0 := Tryz.zeroValue0
  t24 := Tryz.underlying116
  a24 := Tryz.isAgg116
  z24 := Tryz.sizeOf116
  v24 := Tryz.zeroValue116
  t26 := Tryz.underlying9
  a26 := Tryz.isAgg9
  z26 := Tryz.sizeOf9
  v26 := Tryz.zeroValue9
  t28 := Tryz.underlying170
  a28 := Tryz.isAgg170
  z28 := Tryz.sizeOf170
  v28 := Tryz.zeroValue170
  i26 := by kernel_rfl }
def Tryz.sort139_ren : Go.Shelf.Ren := ⟨fun | 6 => 139 | 8 => 163 | 9 => 162 | 19 => 187 | 20 => 188 | 21 => 178 | 22 => 179 | 23 => 180 | 24 => 181 | 25 => 182 | 26 => 183 | 27 => 184 | 28 => 185 | 29 => 186 | 36 => 203 | 31 => 204 | 32 => 205 | 37 => 206 | 38 => 207 | 39 => 208 | 41 => 217 | n => n, fun | 27 => 116 | 29 => 9 | 3 => 3 | 32 => 105 | 26 => 116 | 0 => 0 | 44 => 93 | 46 => 78 | 4 => 4 | 36 => 244 | 35 => 243 | 41 => 237 | 5 => 5 | 9 => 9 | 53 => 265 | 57 => 269 | 63 => 275 | 64 => 276 | n => n, fun | n => n⟩
theorem Tryz.sort139 : Go.Proofs.SlLaysM.n6 Tryz.prog Tryz.sort139_ren := {
  mixed := by kernel_rfl
  f6 := ⟨Tryz.f139.name, by decide, Tryz.func139.trans (congrArg some (by kernel_rfl))⟩
  f8 := Tryz.func163.trans (congrArg some (by kernel_rfl))
  f9 := ⟨Tryz.f162.name, by decide, Tryz.func162.trans (congrArg some (by kernel_rfl))⟩
  f19 := Tryz.func187.trans (congrArg some (by kernel_rfl))
  f20 := Tryz.func188.trans (congrArg some (by kernel_rfl))
  f21 := ⟨Tryz.f178.name, by decide, Tryz.func178.trans (congrArg some (by kernel_rfl))⟩
  f22 := ⟨Tryz.f179.name, by decide, Tryz.func179.trans (congrArg some (by kernel_rfl))⟩
  f23 := ⟨Tryz.f180.name, by decide, Tryz.func180.trans (congrArg some (by kernel_rfl))⟩
  f24 := ⟨Tryz.f181.name, by decide, Tryz.func181.trans (congrArg some (by kernel_rfl))⟩
  f25 := ⟨Tryz.f182.name, by decide, Tryz.func182.trans (congrArg some (by kernel_rfl))⟩
  f26 := ⟨Tryz.f183.name, by decide, Tryz.func183.trans (congrArg some (by kernel_rfl))⟩
  f27 := ⟨Tryz.f184.name, by decide, Tryz.func184.trans (congrArg some (by kernel_rfl))⟩
  f28 := ⟨Tryz.f185.name, by decide, Tryz.func185.trans (congrArg some (by kernel_rfl))⟩
  f29 := ⟨Tryz.f186.name, by decide, Tryz.func186.trans (congrArg some (by kernel_rfl))⟩
  f31 := Tryz.func204.trans (congrArg some (by kernel_rfl))
  f32 := Tryz.func205.trans (congrArg some (by kernel_rfl))
  f36 := ⟨Tryz.f203.name, by decide, Tryz.func203.trans (congrArg some (by kernel_rfl))⟩
  f37 := ⟨Tryz.f206.name, by decide, Tryz.func206.trans (congrArg some (by kernel_rfl))⟩
  f38 := ⟨Tryz.f207.name, by decide, Tryz.func207.trans (congrArg some (by kernel_rfl))⟩
  f39 := ⟨Tryz.f208.name, by decide, Tryz.func208.trans (congrArg some (by kernel_rfl))⟩
  f41 := ⟨Tryz.f217.name, by decide, Tryz.func217.trans (congrArg some (by kernel_rfl))⟩
  t0 := Tryz.underlying0
  a0 := Tryz.isAgg0
  z0 := Tryz.sizeOf0
  v0 := Tryz.zeroValue0
  t3 := Tryz.underlying3
  a3 := Tryz.isAgg3
  z3 := Tryz.sizeOf3
  v3 := Tryz.zeroValue3
  t4 := Tryz.underlying4
  a4 := Tryz.isAgg4
  z4 := Tryz.sizeOf4
  v4 := Tryz.zeroValue4
  t5 := Tryz.underlying5
  a5 := Tryz.isAgg5
  z5 := Tryz.sizeOf5
  v5 := Tryz.zeroValue5
  t9 := Tryz.underlying9
  a9 := Tryz.isAgg9
  z9 := Tryz.sizeOf9
  v9 := Tryz.zeroValue9
  t26 := Tryz.underlying116
  a26 := Tryz.isAgg116
  z26 := Tryz.sizeOf116
  v26 := Tryz.zeroValue116
  t27 := Tryz.underlying116
  a27 := Tryz.isAgg116
  z27 := Tryz.sizeOf116
  v27 := Tryz.zeroValue116
  t29 := Tryz.underlying9
  a29 := Tryz.isAgg9
  z29 := Tryz.sizeOf9
  v29 := Tryz.zeroValue9
  t32 := Tryz.underlying105
  a32 := Tryz.isAgg105
  z32 := Tryz.sizeOf105
  v32 := Tryz.zeroValue105
  t35 := Tryz.underlying243
  a35 := Tryz.isAgg243
  z35 := Tryz.sizeOf243
  v35 := Tryz.zeroValue243
  t36 := Tryz.underlying244
  a36 := Tryz.isAgg244
  z36 := Tryz.sizeOf244
  v36 := Tryz.zeroValue244
  t41 := Tryz.underlying237
  a41 := Tryz.isAgg237
  z41 := Tryz.sizeOf237
  v41 := Tryz.zeroValue237
  t44 := Tryz.underlying93
  a44 := Tryz.isAgg93
  z44 := Tryz.sizeOf93
  v44 := Tryz.zeroValue93
  t46 := Tryz.underlying78
  a46 := Tryz.isAgg78
  z46 := Tryz.sizeOf78
  v46 := Tryz.zeroValue78
  t53 := Tryz.underlying265
  a53 := Tryz.isAgg265
  z53 := Tryz.sizeOf265
  v53 := Tryz.zeroValue265
  t57 := Tryz.underlying269
  a57 := Tryz.isAgg269
  z57 := Tryz.sizeOf269
  v57 := Tryz.zeroValue269
  t63 := Tryz.underlying275
  a63 := Tryz.isAgg275
  z63 := Tryz.sizeOf275
  v63 := Tryz.zeroValue275
  t64 := Tryz.underlying276
  a64 := Tryz.isAgg276
  z64 := Tryz.sizeOf276
  v64 := Tryz.zeroValue276 }
end Go.Proofs
end
section
set_option linter.all false
set_option linter.unusedVariables false
set_option maxRecDepth 100000
namespace Go.Proofs.YtkhbemmcegmdaaaGreatDoor
open Go.RowKit Go.Maps Go.Sort Go.Shelf
open Go.WideElems (Fit)

/-- an element that is not read -/
def unread : Value → Option (DataW Nat × List MemPlace) := fun _ => some (.nil, [])
section
variable {w : World} {fb mb clock : Nat} {X : Nat → Prop} {room left : Int} {F : FileL} {L : List (Ent Name)}
theorem keys_eq (h : FSRep w fb mb X room left F L clock) : L.map (·.1) = F.map (·.1) := by
  apply List.ext_getElem?
  intro i
  rw [List.getElem?_map, List.getElem?_map]
  by_cases hi : i < L.length
  · have hi2 : i < F.length := by rw [← h.len]; exact hi
    obtain ⟨h1, _⟩ := h.row i L[i] F[i] (List.getElem?_eq_getElem hi) (List.getElem?_eq_getElem hi2)
    rw [List.getElem?_eq_getElem hi, List.getElem?_eq_getElem hi2]
    simp [h1]
  · rw [List.getElem?_eq_none (by omega), List.getElem?_eq_none (by rw [← h.len]; omega)]
    rfl
theorem FSRep.owns (h : FSRep w fb mb X room left F L clock) (hlen : L.length ≤ maxLen) (hk : ∀ p ∈ F, p.1.length ≤ maxLen) : ∃ D0 : DataW Nat, w.ownsMap Tryz.prog 9 unread mb L.length D0 ∧ (F.map (·.1)).Perm (strKeys D0) ∧ Maps.size D0 = L.length := by
  have hkey : ∀ x ∈ L, x.1.length ≤ maxLen := fun x hx => by
    have : x.1 ∈ F.map (·.1) := by rw [← keys_eq h]; exact List.mem_map_of_mem hx
    obtain ⟨p, hp, he⟩ := List.mem_map.1 this
    rw [← he]; exact hk p hp
  have hnk : (L.map (·.1)).Nodup := by rw [keys_eq h]; exact h.nd
  have hst : MapKept.Stamped (L.map (ent strk)).toArray clock := by
    refine ⟨fun x hx => ?_, ?_, ?_⟩
    · simp only [List.mem_map] at hx
      obtain ⟨y, hy, rfl⟩ := hx
      exact h.bclk y hy
    · have := h.bnd
      simp only [List.map_map]
      exact this
    · simp only [List.map_map]
      have e : ((fun x : MapEntry => x.key) ∘ ent strk) = strk ∘ (fun x : Ent Name => x.1) := rfl
      rw [e, ← List.map_map]
      exact (List.pairwise_map.2 (hnk.imp (fun hab he => hab (strk_inj he))))
  have hko : ∀ x : Ent Name, x.1.length ≤ maxLen → keyOf Tryz.prog 9 (ent strk x).key = some (.string x.1) := fun x hx => by
    simp [keyOf, str_under, mapKey, ent, strk, ByteArray.size, hx]
  have hrd : ∀ x : Ent Name, x.1.length ≤ maxLen → WideElems.rd Tryz.prog 9 unread (ent strk x) = some (.string x.1, .nil) := fun x hx => by
    unfold WideElems.rd
    rw [hko x hx]
    rfl
  have hmem : ∀ x ∈ (L.map (ent strk)).toArray.toList, ∃ y ∈ L, x = ent strk y := fun x hx => by
    simp only [List.mem_map] at hx
    obtain ⟨y, hy, rfl⟩ := hx
    exact ⟨y, hy, rfl⟩
  have hfit : Fit Tryz.prog 9 unread (L.map (ent strk)).toArray clock := ⟨by simpa using hlen, hst, fun x hx => by
    obtain ⟨y, hy, rfl⟩ := hmem x hx
    exact ⟨_, hrd y (hkey y hy)⟩⟩
  have hown : w.ownsMap Tryz.prog 9 unread mb L.length (.map (((L.map (ent strk)).toArray.toList.map (WideElems.rg Tryz.prog 9 unread)).foldr DataW.insert [])) := ⟨_, clock, h.map, hfit, by simp, rfl⟩
  refine ⟨_, hown, ?_, ?_⟩
  · obtain ⟨es, hes, hpw, _⟩ := hown.entries (string_keyed str_under)
    obtain ⟨es', hes', hko'⟩ := hown.keysOf
    obtain rfl : es = es' := by rw [hes] at hes'; simpa using hes'
    rw [hes]
    have hesl : (((L.map (ent strk)).toArray.toList.map (WideElems.rg Tryz.prog 9 unread)).foldr DataW.insert []) = es := by simpa using hes
    refine perm_strKeys hpw (fun p hp => by obtain ⟨v, hv⟩ := hko' p hp; obtain ⟨x, _, hx, _⟩ := Maps.keyOf_str str_under hv; exact ⟨x, hx⟩) h.nd (fun x => ?_)
    rw [has_eq, List.any_eq_true]
    constructor
    · intro hx
      rw [← keys_eq h] at hx
      obtain ⟨y, hy, rfl⟩ := List.mem_map.1 hx
      refine ⟨(.string y.1, .nil), ?_, by simp [Lit.sameKey]⟩
      rw [← hesl]
      refine mem_sorted.2 (List.mem_map.2 ⟨ent strk y, by simp only [List.mem_map]; exact ⟨y, hy, rfl⟩, ?_⟩)
      unfold WideElems.rg
      rw [hrd y (hkey y hy)]
      rfl
    · rintro ⟨p, hp, hs⟩
      rw [← hesl] at hp
      obtain ⟨z, hz, rfl⟩ := List.mem_map.1 (mem_sorted.1 hp)
      obtain ⟨y, hy, rfl⟩ := hmem z hz
      unfold WideElems.rg at hs
      rw [hrd y (hkey y hy)] at hs
      rw [← keys_eq h]
      refine List.mem_map.2 ⟨y, hy, ?_⟩
      simpa [Lit.sameKey] using hs
  · have h1 := hown.len mapf 3
    have h2 := len_ok (P := Tryz.prog) mapf h.map 3
    rw [h1] at h2
    injection h2 with h2
    injection h2 with _ h2
    omega
end
theorem sorts_in (m : Nat) : AnyZ.SortsIn Tryz.prog Tryz.sorted100_ren Fence.wide m :=
  ⟨fun blk off cap ss W hH hblk hsz => callsIn_wide.2 (AnyM.slices_Sort_string Tryz.sort139 blk off cap ss W hH hblk hsz),
   fun p cap W => callsIn_wide.2 (AnyM.slices_Sort_string_none Tryz.sort139 p cap W)⟩
theorem keys_ok (mb : Option Nat) (W : World) : Calls Tryz.prog 101 #[.map mb] W fun e w' => e = .returned (.func (.func 140) #[] #[.pointer (some ⟨W.heap.size, 0, none⟩)]) ∧ w' = W.alloc (.cells #[.map mb] 123) :=
  (callsIn_wide (n := 5)).1 (AnyZ.keys_in Tryz.keys101 Fence.wide 5 trivial rfl mb W)
set_option maxHeartbeats 1000000 in
theorem sorted_keys {H : Type} (b nn : Nat) (D0 : DataW H) (R : Value → Option (DataW H × List MemPlace)) (w : World) (hown : w.ownsMap Tryz.prog 9 R b nn D0) (hmax : Maps.size D0 ≤ maxLen) (hbytes : Maps.size D0 * 16 ≤ 140737488355328) :
    Calls Tryz.prog 100 #[.func (.func 140) #[] #[.pointer (some ⟨w.heap.size, 0, none⟩)]] (w.alloc (.cells #[.map (some b)] 123)) fun e w' => ∃ (v : Value) (ss : List (List UInt8)), e = .returned v ∧ ss.Perm (strKeys D0) ∧
      w'.ownsRow (w.alloc (.cells #[.map (some b)] 123)).heap.size 9 1 v ss.length ((ss.mergeSort (fun x y => decide (x ≤ y))).map encStr) ∧ (v = .slice none 0 0 ↔ ss = []) ∧ Below (w.alloc (.cells #[.map (some b)] 123)).heap.size (w.alloc (.cells #[.map (some b)] 123)) w' := by
  refine (callsIn_wide (n := 5)).1 ?_
  have hbl := hown.lt
  have hseq : SeqGives Fence.wide 2 Tryz.prog 140 #[.pointer (some ⟨w.heap.size, 0, none⟩)] encStr (fun ss => ss.Perm (strKeys D0)) (Maps.size D0) (w.alloc (.cells #[.map (some b)] 123)) :=
    AnyZ.keys_gives (ρ := Tryz.keys101_ren) { Tryz.keys101 with } Fence.wide _ trivial rfl (by omega) w.heap.size b nn D0 _ (by simp) (by simp) (by
      obtain ⟨es, clock, hb, Ft, hs, hD⟩ := hown
      exact ⟨es, clock, (Below.heap_alloc _ _ b hbl).trans hb, Ft, hs, hD⟩)
  exact AnyZ.sorted_in Tryz.sorted100 Fence.wide 5 trivial trivial trivial trivial rfl (by omega) (sorts_in _) (enters_of Tryz.func139 (by kernel_rfl) rfl) 140 #[.pointer (some ⟨w.heap.size, 0, none⟩)] trivial (enters_of Tryz.func140 (by kernel_rfl) rfl) _ _ hmax hbytes _ hseq
/-- what bounds a file system's lists -/
structure FBnd (F : FileL) : Prop where
  many : F.length ≤ 4096
  name : ∀ p ∈ F, p.1.length ≤ 4096
  pages : ∀ p ∈ F, p.2.length ≤ 4096
section
variable {w : World} {fb : Nat} {X : Nat → Prop} {room left : Int} {F : FileL}
theorem fnames_ok (h : FSAt w fb X room left F) (hB : FBnd F) : Calls Tryz.prog 58 #[.pointer (some ⟨fb, 0, none⟩)] w fun e w' => ∃ (A : Option Addr) (c : Nat) (ns : List Name), e = .returned (.slice A F.length c) ∧ ns.Perm (F.map (·.1)) ∧ Reads w' w'.heap.size 1 A F.length (ns.map strv) ∧ Fr (fun _ => False) w w' := by
  have HN := hide (fnone_ok h)
  obtain ⟨mb, L, clock, h⟩ := h
  obtain ⟨D0, hown, hperm, hsz⟩ := h.owns (by have := h.len; have := hB.many; unfold maxLen; omega) (fun p hp => by have := hB.name p hp; unfold maxLen; omega)
  have HS := hide (sorted_keys mb L.length D0 unread w hown (by have := h.len; have := hB.many; unfold maxLen; omega) (by have := h.len; have := hB.many; omega))
  have HP := hide hperm
  have HK := hide (keys_ok (some mb) w)
  have c2 := (h.blk.cell 2).trans rfl
  clear hown hperm hsz
  clear h
  go_enter Tryz.func58, Tryz.ntmps58
  go_wp2_with fail
  go_at_call 62
  refine HN.out.mono ?_
  rintro e w1 ⟨rfl, rfl⟩
  go_wp2_with fail
  go_at_call 101
  refine HK.out.mono ?_
  rintro e w1 ⟨rfl, rfl⟩
  go_wp2_with fail
  go_at_call 100
  refine HS.out.mono ?_
  rintro e w2 ⟨v, ss, rfl, hp, ho, _, hb⟩
  have hlen : ss.length = F.length := by have := (hp.trans HP.out.symm).length_eq; simpa using this
  obtain ⟨A, c, rfl⟩ := Reads.own_val ho
  have HO := hide ho
  have HPP := hide (((List.mergeSort_perm ss (fun x y => decide (x ≤ y))).trans hp).trans HP.out.symm)
  have HF := hide (((Fr.refl (fun _ => False) w).alloc (.cells #[.map (some mb)] 123)).trans (Fr.of_below hb (fun _ => False)) (fun k h => h.elim))
  clear ho hb hp
  go_wp2
  go_ret
  refine ⟨A, c, _, by rw [← hlen]; rfl, HPP.out, ?_, HF.out⟩
  rw [← hlen]
  exact Reads.of_own HO.out
/-- how many pages all files have -/
def total (F : FileL) : Nat := (F.map fun p => p.2.length).sum
theorem fpg_at : ∀ {F : FileL}, (F.map (·.1)).Nodup → ∀ p ∈ F, fpg p.1 F = p.2
  | [], _, p, hp => by cases hp
  | q :: F, hn, p, hp => by
    rw [List.map_cons, List.nodup_cons] at hn
    rcases List.mem_cons.1 hp with rfl | hp
    · simp [fpg]
    · have : ¬ p.1 = q.1 := fun e => hn.1 (by rw [← e]; exact List.mem_map_of_mem hp)
      unfold fpg
      rw [if_neg this]
      exact fpg_at hn.2 p hp
theorem total_names {F : FileL} (hn : (F.map (·.1)).Nodup) {ns : List Name} (hp : ns.Perm (F.map (·.1))) : (ns.map fun n => (fpg n F).length).sum = total F := by
  have h1 := (hp.map fun n => (fpg n F).length).sum_nat
  rw [h1]
  unfold total
  rw [List.map_map]
  congr 1
  apply List.map_congr_left
  intro p hp
  show (fpg p.1 F).length = _
  rw [fpg_at hn p hp]
theorem fpg_le {F : FileL} (hB : FBnd F) (n : Name) : (fpg n F).length ≤ 4096 := by
  have : ∀ F : FileL, (∀ p ∈ F, p.2.length ≤ 4096) → (fpg n F).length ≤ 4096 := by
    intro F
    induction F with
    | nil => intro _; simp [fpg]
    | cons q F ih =>
      intro h
      unfold fpg
      split
      · exact h q (by simp)
      · exact ih (fun p hp => h p (List.mem_cons_of_mem _ hp))
  exact this F hB.pages
theorem take_sum_le (l : List Nat) (h : ∀ x ∈ l, x ≤ 4096) : ∀ k, (l.take k).sum ≤ 4096 * k
  | 0 => by simp
  | k + 1 => by
    by_cases hk : k < l.length
    · rw [List.take_succ_eq_append_getElem hk, List.sum_append]
      have := take_sum_le l h k
      have := h _ (List.getElem_mem hk)
      simp
      omega
    · have e : l.take (k + 1) = l.take k := by rw [List.take_of_length_le (by omega), List.take_of_length_le (by omega)]
      rw [e]
      have := take_sum_le l h k
      omega
theorem fused_ok (h : FSAt w fb X room left F) (hB : FBnd F) : Calls Tryz.prog 33 #[.pointer (some ⟨fb, 0, none⟩)] w fun e w' => e = .returned (.int .i64 ((total F : Nat) : Int)) ∧ Fr (fun _ => False) w w' := by
  have HNM := hide (fnames_ok h hB)
  have HH := hide h
  have HLE := hide (fpg_le hB)
  have hmany := hB.many
  obtain ⟨mb, L, clock, h⟩ := h
  have HTN := hide (fun (ns : List Name) (hp : ns.Perm (F.map (·.1))) => total_names h.nd hp)
  have HC := hide (fun w' (hf : Fr (fun _ => False) w w') => (show w'.cell? ⟨fb, 2, none⟩ = some (.map (some mb)) ∧ ∀ n : Name, ∃ A c, (Instr.lookup 123 (.map (some mb)) (.string ⟨n.toArray⟩) false).run Tryz.prog w' = .ok (.slice A (fpg n F).length c) w' from
    ⟨((h.fr hf (fun _ _ h => h)).blk.cell 2).trans rfl, fun n => by
      obtain ⟨A, c, hl, _⟩ := h.look n
      exact ⟨A, c, hl w' (h.map.fr hf id)⟩⟩))
  clear h
  go_enter Tryz.func33, Tryz.ntmps33
  go_wp2_with fail
  go_at_call 58
  refine HNM.out.mono ?_
  rintro e w1 ⟨A, c, ns, rfl, hp, hr, hf⟩
  have HR := hide hr
  have HF1 := hide hf
  have HP := hide hp
  obtain ⟨q, hq⟩ : ∃ q, F.length = q := ⟨_, rfl⟩
  rw [hq] at HR hmany ⊢
  have hnl : ns.length = q := by have := hr.1; rw [hq] at this; simpa using this
  have HT := hide (HTN.out ns hp)
  have HSL := hide (take_sum_le (ns.map fun n => (fpg n F).length) (fun x hx => by
    obtain ⟨n, _, rfl⟩ := List.mem_map.1 hx
    exact HLE.out n))
  clear hr hf hp hq
  go_wp2_with fail
  go_loopw [3, 9] (fun sv i wr => ∃ k : Nat, k ≤ q ∧ i = .int .i64 (k : Int) ∧ sv = .int .i64 ((((ns.map fun n => (fpg n F).length).take k).sum : Nat) : Int) ∧ wr = w1) (fun _ i _ => q - (intOf i).toNat)
  case atStart => exact ⟨0, by omega, rfl, by simp, rfl⟩
  case round =>
    obtain ⟨k, hk, rfl, rfl, rfl⟩ := hrel
    have hsl := HSL.out k
    by_cases hlt : k < q
    · have lk : k < ns.length := by omega
      have lk2 : k < (ns.map fun n => (fpg n F).length).length := by simpa using lk
      have HS := hide (show ((ns.map fun n => (fpg n F).length).take (k + 1)).sum = ((ns.map fun n => (fpg n F).length).take k).sum + (fpg ns[k] F).length by
        rw [List.take_succ_eq_append_getElem lk2, List.sum_append]; simp)
      obtain ⟨b, o, rfl, hb, hc⟩ := HR.out.2 (by omega)
      have hcc := hc k (strv ns[k]) (by rw [List.getElem?_map, List.getElem?_eq_getElem lk]; rfl)
      unfold strv at hcc
      generalize ns[k]'lk = n at *
      obtain ⟨c2, hlk⟩ := HC.out wr HF1.out
      obtain ⟨A2, c2', hl2⟩ := hlk n
      have hle := HLE.out n
      generalize (fpg n F).length = m at *
      generalize ((ns.map fun n => (fpg n F).length).take k).sum = sm at *
      have b0 : (0 : Int) ≤ (k : Int) := by omega
      have b1 : (k : Int) < (q : Int) := by omega
      clear hlk hc
      go_wp2
      go_roundw
      case rel => exact ⟨k + 1, by omega, by go_num, by rw [HS.out]; go_num, by first | rfl | trivial⟩
      case measure => simp [intOf]; omega
    · obtain rfl : k = q := by omega
      have HE := hide (show ((ns.map fun n => (fpg n F).length).take k).sum = total F by
        rw [List.take_of_length_le (by simp; omega)]; exact HT.out)
      rw [HE.out]
      go_wp2
      go_ret
      exact ⟨rfl, HF1.out⟩
end
end Go.Proofs.YtkhbemmcegmdaaaGreatDoor
end
