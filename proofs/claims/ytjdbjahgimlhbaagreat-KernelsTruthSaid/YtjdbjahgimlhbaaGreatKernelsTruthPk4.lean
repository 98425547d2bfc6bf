/- Parts of the proof of KernelsTruth: no conditions of their own. -/
import Derived.Test.YtjdbjahgimlhbaaGreatKernelsTruthPk3
import Derived.Test.YtjdbjahgimlhbaaGreatKernelsTruthPk0
section
set_option linter.unusedVariables false
set_option maxRecDepth 100000
namespace Go.Proofs.YtjdbjahgimlhbaaGreat.frame
open Go.ChangeShapes Go.WideShapes Go.ChangeAt Go.RowKit Go.Deep

section
variable {H : Type} {enc : TypeId × Value → H} {W W' : World} {base : Nat} {t : TypeId} {v : Value} {d : DataW H} {ps : List MemPlace}
theorem u8s_cells {fuel : Nat} {cs : List Value} {x : DataW H × List MemPlace} (hf : DataW.trod enc Tryz.prog W 0 (fun _ => true) true fuel 28 cs = some x) :
    ∃ A n c, ∃ xs : List Nat, cs = [.slice A n c] ∧ Reads W W.heap.size 1 A n (xs.map fun x : Nat => .int .u8 (x : Int)) ∧ (∀ x ∈ xs, x < 256) ∧ n ≤ 9223372036854775807 := by
  obtain ⟨A, n, c, zs, h1, hr, hn, hm, hz⟩ := ints_cells Tryz.underlying28 Tryz.underlying5 (by kernel_rfl) hf
  have e : (zs.map Int.toNat).map (fun x : Nat => Value.int .u8 (x : Int)) = zs.map (Value.int .u8) := by
    rw [List.map_map]
    apply List.map_congr_left
    intro z hzz
    obtain ⟨k, rfl, _⟩ := u8_nat (hz z hzz)
    simp
  refine ⟨A, n, c, zs.map Int.toNat, h1, by rw [e]; exact hr, fun x hx => ?_, by unfold maxLen at hm; omega⟩
  obtain ⟨z, hzz, rfl⟩ := List.mem_map.1 hx
  obtain ⟨k, rfl, hk⟩ := u8_nat (hz z hzz)
  simpa using hk
theorem open_trip (hv : Value.okWide Tryz.prog W .any base 30 v) (h : DataW.Trod enc Tryz.prog W 0 (fun _ => true) true 30 v d ps) :
    ∃ many arg AB nB cB AM nM cM, ∃ ys zs : List Nat, v = .agg #[.int .u8 ((many : Nat) : Int), .int .u8 ((arg : Nat) : Int), .slice AB nB cB, .slice AM nM cM] ∧ many < 256 ∧ arg < 256 ∧
      Reads W W.heap.size 1 AB nB (ys.map fun x : Nat => .int .u8 (x : Int)) ∧ (∀ x ∈ ys, x < 256) ∧ nB ≤ 9223372036854775807 ∧ Reads W W.heap.size 1 AM nM (zs.map fun x : Nat => .int .u8 (x : Int)) ∧ (∀ x ∈ zs, x < 256) ∧ nM ≤ 9223372036854775807 := by
  obtain ⟨cs, rfl, hsz⟩ := okWide_struct Tryz.underlying30 hv
  rw [show Tryz.prog.cellsOf 30 = 4 by kernel_rfl] at hsz
  obtain ⟨fuel, hf⟩ := h
  obtain ⟨xs, k, hk, hxy, _, hxl, hfs⟩ := DataW.trod_struct Tryz.underlying30 hf
  obtain ⟨l⟩ := cs
  match l, hsz, xs, hxl with
  | [u0, u1, u2, u3], _, [y0, y1, y2, y3], _ =>
    have g0 : DataW.trod enc Tryz.prog W 0 (fun _ => true) true k 5 (((Value.cells (.agg ⟨[u0, u1, u2, u3]⟩)).toList.drop 0).take (Tryz.prog.cellsOf 5)) = some y0 := hfs 0 _ rfl
    have g1 : DataW.trod enc Tryz.prog W 0 (fun _ => true) true k 5 (((Value.cells (.agg ⟨[u0, u1, u2, u3]⟩)).toList.drop 1).take (Tryz.prog.cellsOf 5)) = some y1 := hfs 1 _ rfl
    have g2 : DataW.trod enc Tryz.prog W 0 (fun _ => true) true k 28 (((Value.cells (.agg ⟨[u0, u1, u2, u3]⟩)).toList.drop 2).take (Tryz.prog.cellsOf 28)) = some y2 := hfs 2 _ rfl
    have g3 : DataW.trod enc Tryz.prog W 0 (fun _ => true) true k 28 (((Value.cells (.agg ⟨[u0, u1, u2, u3]⟩)).toList.drop 3).take (Tryz.prog.cellsOf 28)) = some y3 := hfs 3 _ rfl
    rw [show Tryz.prog.cellsOf 5 = 1 by kernel_rfl] at g0 g1
    rw [show Tryz.prog.cellsOf 28 = 1 by kernel_rfl] at g2 g3
    obtain ⟨a, e0, _, w0⟩ := DataW.trod_int Tryz.underlying5 g0
    obtain ⟨b, e1, _, w1⟩ := DataW.trod_int Tryz.underlying5 g1
    obtain ⟨a, rfl, ha⟩ := u8_nat w0
    obtain ⟨b, rfl, hb⟩ := u8_nat w1
    obtain ⟨AB, nB, cB, ys, e2, r2, b2, n2⟩ := u8s_cells g2
    obtain ⟨AM, nM, cM, zs, e3, r3, b3, n3⟩ := u8s_cells g3
    simp [Value.cells] at e0 e1 e2 e3
    subst e0
    subst e1
    subst e2
    subst e3
    exact ⟨a, b, AB, nB, cB, AM, nM, cM, ys, zs, rfl, ha, hb, r2, b2, n2, r3, b3, n3⟩
end
end Go.Proofs.YtjdbjahgimlhbaaGreat.frame
end
section
set_option linter.unusedVariables false
set_option maxRecDepth 100000
namespace Go.Proofs.YtjdbjahgimlhbaaGreat.frame
open Go.ChangeShapes Go.WideShapes Go.ChangeAt Go.RowKit Go.Deep

section
variable {H : Type} {enc : TypeId × Value → H} {W W' : World} {base : Nat} {t : TypeId} {v : Value} {d : DataW H} {ps : List MemPlace}
theorem u16_nat {z : Int} (h : (Lit.int .u16 z).wf = true) : ∃ n : Nat, z = n ∧ n < 65536 := by
  simp [Lit.wf, IntKind.min, IntKind.max, IntKind.signed, IntKind.bits] at h
  exact ⟨z.toNat, by omega, by omega⟩
theorem open_ask (hv : Value.okWide Tryz.prog W .any base 27 v) (h : DataW.Trod enc Tryz.prog W 0 (fun _ => true) true 27 v d ps) :
    ∃ K a p d : Nat, v = .agg #[.int .u8 (K : Int), .int .u8 (a : Int), .int .u8 (p : Int), .int .u16 (d : Int)] ∧ K < 256 ∧ a < 256 ∧ p < 256 ∧ d < 65536 := by
  obtain ⟨cs, rfl, hsz⟩ := okWide_struct Tryz.underlying27 hv
  rw [show Tryz.prog.cellsOf 27 = 4 by kernel_rfl] at hsz
  obtain ⟨fuel, hf⟩ := h
  obtain ⟨xs, k, hk, hxy, _, hxl, hfs⟩ := DataW.trod_struct Tryz.underlying27 hf
  obtain ⟨l⟩ := cs
  match l, hsz, xs, hxl with
  | [u0, u1, u2, u3], _, [y0, y1, y2, y3], _ =>
    have g0 : DataW.trod enc Tryz.prog W 0 (fun _ => true) true k 5 (((Value.cells (.agg ⟨[u0, u1, u2, u3]⟩)).toList.drop 0).take (Tryz.prog.cellsOf 5)) = some y0 := hfs 0 _ rfl
    have g1 : DataW.trod enc Tryz.prog W 0 (fun _ => true) true k 5 (((Value.cells (.agg ⟨[u0, u1, u2, u3]⟩)).toList.drop 1).take (Tryz.prog.cellsOf 5)) = some y1 := hfs 1 _ rfl
    have g2 : DataW.trod enc Tryz.prog W 0 (fun _ => true) true k 5 (((Value.cells (.agg ⟨[u0, u1, u2, u3]⟩)).toList.drop 2).take (Tryz.prog.cellsOf 5)) = some y2 := hfs 2 _ rfl
    have g3 : DataW.trod enc Tryz.prog W 0 (fun _ => true) true k 25 (((Value.cells (.agg ⟨[u0, u1, u2, u3]⟩)).toList.drop 3).take (Tryz.prog.cellsOf 25)) = some y3 := hfs 3 _ rfl
    rw [show Tryz.prog.cellsOf 5 = 1 by kernel_rfl] at g0 g1 g2
    rw [show Tryz.prog.cellsOf 25 = 1 by kernel_rfl] at g3
    obtain ⟨z0, e0, _, w0⟩ := DataW.trod_int Tryz.underlying5 g0
    obtain ⟨z0, rfl, b0⟩ := u8_nat w0
    obtain ⟨z1, e1, _, w1⟩ := DataW.trod_int Tryz.underlying5 g1
    obtain ⟨z1, rfl, b1⟩ := u8_nat w1
    obtain ⟨z2, e2, _, w2⟩ := DataW.trod_int Tryz.underlying5 g2
    obtain ⟨z2, rfl, b2⟩ := u8_nat w2
    obtain ⟨z3, e3, _, w3⟩ := DataW.trod_int Tryz.underlying25 g3
    obtain ⟨z3, rfl, b3⟩ := u16_nat w3
    simp [Value.cells] at e0 e1 e2 e3
    subst e0
    subst e1
    subst e2
    subst e3
    exact ⟨z0, z1, z2, z3, rfl, b0, b1, b2, b3⟩
theorem open_req (hv : Value.okWide Tryz.prog W .any base 45 v) (h : DataW.Trod enc Tryz.prog W 0 (fun _ => true) true 45 v d ps) :
    ∃ a b c d : Int, v = .agg #[.int .i64 a, .int .i64 b, .int .i64 c, .int .i64 d] := by
  obtain ⟨cs, rfl, hsz⟩ := okWide_struct Tryz.underlying45 hv
  rw [show Tryz.prog.cellsOf 45 = 4 by kernel_rfl] at hsz
  obtain ⟨fuel, hf⟩ := h
  obtain ⟨xs, k, hk, hxy, _, hxl, hfs⟩ := DataW.trod_struct Tryz.underlying45 hf
  obtain ⟨l⟩ := cs
  match l, hsz, xs, hxl with
  | [u0, u1, u2, u3], _, [y0, y1, y2, y3], _ =>
    have g0 : DataW.trod enc Tryz.prog W 0 (fun _ => true) true k 3 (((Value.cells (.agg ⟨[u0, u1, u2, u3]⟩)).toList.drop 0).take (Tryz.prog.cellsOf 3)) = some y0 := hfs 0 _ rfl
    have g1 : DataW.trod enc Tryz.prog W 0 (fun _ => true) true k 3 (((Value.cells (.agg ⟨[u0, u1, u2, u3]⟩)).toList.drop 1).take (Tryz.prog.cellsOf 3)) = some y1 := hfs 1 _ rfl
    have g2 : DataW.trod enc Tryz.prog W 0 (fun _ => true) true k 3 (((Value.cells (.agg ⟨[u0, u1, u2, u3]⟩)).toList.drop 2).take (Tryz.prog.cellsOf 3)) = some y2 := hfs 2 _ rfl
    have g3 : DataW.trod enc Tryz.prog W 0 (fun _ => true) true k 3 (((Value.cells (.agg ⟨[u0, u1, u2, u3]⟩)).toList.drop 3).take (Tryz.prog.cellsOf 3)) = some y3 := hfs 3 _ rfl
    rw [show Tryz.prog.cellsOf 3 = 1 by kernel_rfl] at g0 g1 g2 g3
    obtain ⟨z0, e0, _, w0⟩ := DataW.trod_int Tryz.underlying3 g0
    obtain ⟨z1, e1, _, w1⟩ := DataW.trod_int Tryz.underlying3 g1
    obtain ⟨z2, e2, _, w2⟩ := DataW.trod_int Tryz.underlying3 g2
    obtain ⟨z3, e3, _, w3⟩ := DataW.trod_int Tryz.underlying3 g3
    simp [Value.cells] at e0 e1 e2 e3
    subst e0
    subst e1
    subst e2
    subst e3
    exact ⟨z0, z1, z2, z3, rfl⟩
end
end Go.Proofs.YtjdbjahgimlhbaaGreat.frame
end
section
set_option linter.unusedVariables false
set_option maxRecDepth 100000
namespace Go.Proofs.YtjdbjahgimlhbaaGreat
open Go.RowKit

/-- a job's kind and argument, of so many vertices, that may be asked for -/
def okK (k arg n : Nat) : Prop := (k = 1 ∧ arg < n) ∨ (k = 2 ∧ 1 ≤ arg ∧ arg ≤ 64) ∨ (k = 3 ∧ arg = 0) ∨ (k = 4 ∧ arg ≤ 4096)
/-- how many rounds at most -/
def bnd (k arg n : Nat) : Nat := if k = 2 then arg else n + 1
def reqv (k arg prio : Nat) (need : Int) : Value := .agg #[.int .i64 (k : Int), .int .i64 (arg : Int), .int .i64 (prio : Int), .int .i64 need]
def reqc (k arg prio : Nat) (need : Int) : Obj := .cells #[.int .i64 (k : Int), .int .i64 (arg : Int), .int .i64 (prio : Int), .int .i64 need] 45
set_option maxHeartbeats 1600000 in
theorem tcheck1 (arg prio n : Nat) (need : Int) (h1 : 1 ≤ n) (h2 : n ≤ 256) (hp : prio ≤ 7) (h : arg < n) (w : World) :
    Calls Tryz.prog 17 #[reqv 1 arg prio need, .int .i64 (n : Int)] w fun e w' => e = .returned (.int .i64 0) ∧ Fr (fun _ => False) w w' := by
  have F1 := hide ((Fr.refl (fun _ => False) w).alloc (reqc 1 arg prio need))
  have b1 : decide ((1 : Int) ≤ (n : Int)) = true := by simp; omega
  have b1' : decide (1 ≤ n) = true := by simp; omega
  have b2 : decide ((n : Int) ≤ 256) = true := by simp; omega
  have b2' : decide (n ≤ 256) = true := by simp; omega
  have b3 : decide ((0 : Int) ≤ (prio : Int)) = true := by simp
  have b4 : decide ((prio : Int) ≤ 7) = true := by simp; omega
  have b4' : decide (prio ≤ 7) = true := by simp; omega
  have b5 : decide ((0 : Int) ≤ (arg : Int)) = true := by simp
  have b6 : decide ((arg : Int) < (n : Int)) = true := by simp; omega
  have b6' : decide (arg < n) = true := by simp; omega
  clear h
  unfold reqv reqc at *
  clear h1 h2 hp
  go_enter Tryz.func17, Tryz.ntmps17
  go_wp2
  go_ret
  exact ⟨rfl, F1.out⟩
set_option maxHeartbeats 1600000 in
theorem tcheck2 (arg prio n : Nat) (need : Int) (h1 : 1 ≤ n) (h2 : n ≤ 256) (hp : prio ≤ 7) (h : 1 ≤ arg ∧ arg ≤ 64) (w : World) :
    Calls Tryz.prog 17 #[reqv 2 arg prio need, .int .i64 (n : Int)] w fun e w' => e = .returned (.int .i64 0) ∧ Fr (fun _ => False) w w' := by
  have F1 := hide ((Fr.refl (fun _ => False) w).alloc (reqc 2 arg prio need))
  have b1 : decide ((1 : Int) ≤ (n : Int)) = true := by simp; omega
  have b1' : decide (1 ≤ n) = true := by simp; omega
  have b2 : decide ((n : Int) ≤ 256) = true := by simp; omega
  have b2' : decide (n ≤ 256) = true := by simp; omega
  have b3 : decide ((0 : Int) ≤ (prio : Int)) = true := by simp
  have b4 : decide ((prio : Int) ≤ 7) = true := by simp; omega
  have b4' : decide (prio ≤ 7) = true := by simp; omega
  have b5 : decide ((0 : Int) ≤ (arg : Int)) = true := by simp
  have b6 : decide ((arg : Int) ≤ 64) = true := by simp; omega
  have b6' : decide (arg ≤ 64) = true := by simp; omega
  have b7 : decide ((1 : Int) ≤ (arg : Int)) = true := by simp; omega
  have b7' : decide (1 ≤ arg) = true := by simp; omega
  clear h
  unfold reqv reqc at *
  clear h1 h2 hp
  go_enter Tryz.func17, Tryz.ntmps17
  go_wp2
  go_ret
  exact ⟨rfl, F1.out⟩
set_option maxHeartbeats 1600000 in
theorem tcheck3 (arg prio n : Nat) (need : Int) (h1 : 1 ≤ n) (h2 : n ≤ 256) (hp : prio ≤ 7) (h : arg = 0) (w : World) :
    Calls Tryz.prog 17 #[reqv 3 arg prio need, .int .i64 (n : Int)] w fun e w' => e = .returned (.int .i64 0) ∧ Fr (fun _ => False) w w' := by
  have F1 := hide ((Fr.refl (fun _ => False) w).alloc (reqc 3 arg prio need))
  subst h
  have b1 : decide ((1 : Int) ≤ (n : Int)) = true := by simp; omega
  have b1' : decide (1 ≤ n) = true := by simp; omega
  have b2 : decide ((n : Int) ≤ 256) = true := by simp; omega
  have b2' : decide (n ≤ 256) = true := by simp; omega
  have b3 : decide ((0 : Int) ≤ (prio : Int)) = true := by simp
  have b4 : decide ((prio : Int) ≤ 7) = true := by simp; omega
  have b4' : decide (prio ≤ 7) = true := by simp; omega
  have b5 : decide ((0 : Int) ≤ (0 : Int)) = true := by simp
  unfold reqv reqc at *
  clear h1 h2 hp
  go_enter Tryz.func17, Tryz.ntmps17
  go_wp2
  go_ret
  exact ⟨rfl, F1.out⟩
set_option maxHeartbeats 1600000 in
theorem tcheck4 (arg prio n : Nat) (need : Int) (h1 : 1 ≤ n) (h2 : n ≤ 256) (hp : prio ≤ 7) (h : arg ≤ 4096) (w : World) :
    Calls Tryz.prog 17 #[reqv 4 arg prio need, .int .i64 (n : Int)] w fun e w' => e = .returned (.int .i64 0) ∧ Fr (fun _ => False) w w' := by
  have F1 := hide ((Fr.refl (fun _ => False) w).alloc (reqc 4 arg prio need))
  have b1 : decide ((1 : Int) ≤ (n : Int)) = true := by simp; omega
  have b1' : decide (1 ≤ n) = true := by simp; omega
  have b2 : decide ((n : Int) ≤ 256) = true := by simp; omega
  have b2' : decide (n ≤ 256) = true := by simp; omega
  have b3 : decide ((0 : Int) ≤ (prio : Int)) = true := by simp
  have b4 : decide ((prio : Int) ≤ 7) = true := by simp; omega
  have b4' : decide (prio ≤ 7) = true := by simp; omega
  have b5 : decide ((0 : Int) ≤ (arg : Int)) = true := by simp
  have b6 : decide ((arg : Int) ≤ 4096) = true := by simp; omega
  have b6' : decide (arg ≤ 4096) = true := by simp; omega
  clear h
  unfold reqv reqc at *
  clear h1 h2 hp
  go_enter Tryz.func17, Tryz.ntmps17
  go_wp2
  go_ret
  exact ⟨rfl, F1.out⟩
set_option maxHeartbeats 1600000 in
theorem tcheck_far (arg prio n : Nat) (need : Int) (h1 : 1 ≤ n) (h2 : n ≤ 256) (hp : prio ≤ 7) (h : n ≤ arg) (w : World) :
    Calls Tryz.prog 17 #[reqv 1 arg prio need, .int .i64 (n : Int)] w fun e w' => e = .returned (.int .i64 2) ∧ Fr (fun _ => False) w w' := by
  have F1 := hide ((Fr.refl (fun _ => False) w).alloc (reqc 1 arg prio need))
  have b1 : decide ((1 : Int) ≤ (n : Int)) = true := by simp; omega
  have b1' : decide (1 ≤ n) = true := by simp; omega
  have b2 : decide ((n : Int) ≤ 256) = true := by simp; omega
  have b2' : decide (n ≤ 256) = true := by simp; omega
  have b3 : decide ((0 : Int) ≤ (prio : Int)) = true := by simp
  have b4 : decide ((prio : Int) ≤ 7) = true := by simp; omega
  have b4' : decide (prio ≤ 7) = true := by simp; omega
  have b5 : decide ((0 : Int) ≤ (arg : Int)) = true := by simp
  have b6 : decide ((arg : Int) < (n : Int)) = false := by simp; omega
  have b6' : decide (arg < n) = false := by simp; omega
  unfold reqv reqc at *
  clear h1 h2 hp h
  go_enter Tryz.func17, Tryz.ntmps17
  go_wp2
  go_ret
  exact ⟨rfl, F1.out⟩
theorem tcheck_ok (k arg prio n : Nat) (need : Int) (h1 : 1 ≤ n) (h2 : n ≤ 256) (hp : prio ≤ 7) (h : okK k arg n) (w : World) :
    Calls Tryz.prog 17 #[reqv k arg prio need, .int .i64 (n : Int)] w fun e w' => e = .returned (.int .i64 0) ∧ Fr (fun _ => False) w w' := by
  rcases h with ⟨rfl, h⟩ | ⟨rfl, h⟩ | ⟨rfl, h⟩ | ⟨rfl, h⟩
  · exact tcheck1 arg prio n need h1 h2 hp h w
  · exact tcheck2 arg prio n need h1 h2 hp h w
  · exact tcheck3 arg prio n need h1 h2 hp h w
  · exact tcheck4 arg prio n need h1 h2 hp h w
theorem bound_ok (k arg prio n : Nat) (need : Int) (h1 : 1 ≤ n) (h2 : n ≤ 256) (hp : prio ≤ 7) (h : okK k arg n) (w : World) :
    Calls Tryz.prog 20 #[.int .i64 (n : Int), reqv k arg prio need] w fun e w' => e = .returned (.int .i64 ((bnd k arg n : Nat) : Int)) ∧ Fr (fun _ => False) w w' := by
  have F1 := hide ((Fr.refl (fun _ => False) w).alloc (reqc k arg prio need))
  have HC := hide (fun w => tcheck_ok k arg prio n need h1 h2 hp h w)
  have c0 : (w.alloc (reqc k arg prio need)).cell? ⟨w.heap.size, 0, none⟩ = some (.int .i64 (k : Int)) := by unfold reqc; simp
  have c1 : (w.alloc (reqc k arg prio need)).cell? ⟨w.heap.size, 1, none⟩ = some (.int .i64 (arg : Int)) := by unfold reqc; simp
  have hk : 1 ≤ k ∧ k ≤ 4 := by unfold okK at h; omega
  have hb2 : k ≠ 2 → bnd k arg n = n + 1 := fun h => by unfold bnd; rw [if_neg h]
  have hadd : IntKind.i64.wrap ((n : Int) + 1) = ((n + 1 : Nat) : Int) := by simp only [IntKind.wrap, IntKind.bits, IntKind.signed]; simp; omega
  unfold reqv reqc at *
  clear h hp
  go_enter Tryz.func20, Tryz.ntmps20
  go_wp2_with fail
  go_at_call 17
  refine (HC.out _).mono ?_
  rintro e w1 ⟨rfl, hf⟩
  have HF := hide (F1.out.then_ hf)
  have d0 := hf.cell c0 id
  have d1 := hf.cell c1 id
  clear c0 c1 hf
  by_cases h2k : k = 2
  · subst h2k
    go_wp2
    go_ret
    exact ⟨rfl, HF.out⟩
  · have e0 : ((k : Int) == 2) = false := by simp; omega
    have HB2 := hide (hb2 h2k)
    clear hb2
    go_wp2
    go_ret
    exact ⟨by rw [HB2.out]; go_num, HF.out⟩
end Go.Proofs.YtjdbjahgimlhbaaGreat
end
