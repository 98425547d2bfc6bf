/-
  No cell of these rows narrows 'for every input' (looked for: loops, veiled, ifaces, maps, wideKeys, modest, calm, conditions, laid).
  DERIVED. THE GIVEN ROWS OF THIS SEAT. 5 by the template 'for every input the law returns true; each argument reads behind the call as it read before'; 0 by the template 'total and deterministic' (their statements: YtneihcoepacadaaTotals.lean).
  GIVEN WITH THE SEED: the statements are not yours to turn. If you find one false, say at which input.
  Laid BY PROGRAM, IN A SANDBOX (cutbox-rows.mjs): the forced cells as the released guide's own fill.sh prints them over the translation ed96979a070dd220… (all of the seat's roots in one cut). By AI agents, Wed Nov 11 2026. No macro, syntax, notation, axiom, sorry.
-/
import Derived.Test.YtneihcoepacadaaChecked
import GoSem.Claim
import GoSem.ClaimJoined
import GoSem.ClaimMapViews
import Derived.JoinedTies
import Derived.KernelRfl
namespace Go.Proofs.Ytneihcoepacadaa
/- THE CELL 'sum', in the pinned program and in every row, IS THE sha256 OF THE DUMP (.gsa) THAT YtneihcoepacadaaProg.lean LOADS. Nothing in Lean hashes anything: it is a label: what it is worth is what the hold of that sum in a sandbox is worth. -/
noncomputable def Try.pinned : Pinned := { name := "ytneihcoepacadaa", sum := "ed96979a070dd22007ee404c394799735aadbeae5fb2d0cafb2a251c56c92b6e", checked := Try.checked }
namespace Rows
def none {H : Type} : Left H := { results := [], args := [] }

/-- 'carousellaw14.VectorsPlain': WHATEVER THE INPUT: true; the input reads as it did. -/
def vectorsPlainSpec : ChangeSpec := { name := "vectorsPlain", fn := fun _ => fun
  | [d1, d2] => { results := [.lit (.bool true)], args := [d1, d2] }
  | _ => none }
def vectorsPlainRow : OpenClaim := { program := "ytneihcoepacadaa", sum := "ed96979a070dd22007ee404c394799735aadbeae5fb2d0cafb2a251c56c92b6e", func := "carousel/carousellaw14.VectorsPlain", spec := "vectorsPlain", apart := false }
def VectorsPlainSaid : Prop := vectorsPlainRow.holds Try.pinned (OpenSpec.ofChange vectorsPlainSpec)

/-- ITS FALSE NEIGHBOUR: 'it returns false'. Refute it at one input. -/
def vectorsPlainWrong : ChangeSpec := { name := "vectorsPlain", fn := fun _ => fun
  | [d1, d2] => { results := [.lit (.bool false)], args := [d1, d2] }
  | _ => none }
def VectorsPlainWrongFalsely : Prop := vectorsPlainRow.holds Try.pinned (OpenSpec.ofChange vectorsPlainWrong)

/-- 'carousellaw14.VectorsNone': WHATEVER THE INPUT: true; the input reads as it did. -/
def vectorsNoneSpec : ChangeSpec := { name := "vectorsNone", fn := fun _ => fun
  | [d1, d2] => { results := [.lit (.bool true)], args := [d1, d2] }
  | _ => none }
def vectorsNoneRow : OpenClaim := { program := "ytneihcoepacadaa", sum := "ed96979a070dd22007ee404c394799735aadbeae5fb2d0cafb2a251c56c92b6e", func := "carousel/carousellaw14.VectorsNone", spec := "vectorsNone", apart := false }
def VectorsNoneSaid : Prop := vectorsNoneRow.holds Try.pinned (OpenSpec.ofChange vectorsNoneSpec)

/-- ITS FALSE NEIGHBOUR: 'it returns false'. Refute it at one input. -/
def vectorsNoneWrong : ChangeSpec := { name := "vectorsNone", fn := fun _ => fun
  | [d1, d2] => { results := [.lit (.bool false)], args := [d1, d2] }
  | _ => none }
def VectorsNoneWrongFalsely : Prop := vectorsNoneRow.holds Try.pinned (OpenSpec.ofChange vectorsNoneWrong)

/-- 'carousellaw14.VectorsTell': WHATEVER THE INPUT: true; the input reads as it did. -/
def vectorsTellSpec : ChangeSpec := { name := "vectorsTell", fn := fun _ => fun
  | [d1, d2, d3] => { results := [.lit (.bool true)], args := [d1, d2, d3] }
  | _ => none }
def vectorsTellRow : OpenClaim := { program := "ytneihcoepacadaa", sum := "ed96979a070dd22007ee404c394799735aadbeae5fb2d0cafb2a251c56c92b6e", func := "carousel/carousellaw14.VectorsTell", spec := "vectorsTell", apart := false }
def VectorsTellSaid : Prop := vectorsTellRow.holds Try.pinned (OpenSpec.ofChange vectorsTellSpec)

/-- ITS FALSE NEIGHBOUR: 'it returns false'. Refute it at one input. -/
def vectorsTellWrong : ChangeSpec := { name := "vectorsTell", fn := fun _ => fun
  | [d1, d2, d3] => { results := [.lit (.bool false)], args := [d1, d2, d3] }
  | _ => none }
def VectorsTellWrongFalsely : Prop := vectorsTellRow.holds Try.pinned (OpenSpec.ofChange vectorsTellWrong)

/-- 'carousellaw14.VectorsBack': WHATEVER THE INPUT: true; the input reads as it did. -/
def vectorsBackSpec : ChangeSpec := { name := "vectorsBack", fn := fun _ => fun
  | [d1, d2, d3] => { results := [.lit (.bool true)], args := [d1, d2, d3] }
  | _ => none }
def vectorsBackRow : OpenClaim := { program := "ytneihcoepacadaa", sum := "ed96979a070dd22007ee404c394799735aadbeae5fb2d0cafb2a251c56c92b6e", func := "carousel/carousellaw14.VectorsBack", spec := "vectorsBack", apart := false }
def VectorsBackSaid : Prop := vectorsBackRow.holds Try.pinned (OpenSpec.ofChange vectorsBackSpec)

/-- ITS FALSE NEIGHBOUR: 'it returns false'. Refute it at one input. -/
def vectorsBackWrong : ChangeSpec := { name := "vectorsBack", fn := fun _ => fun
  | [d1, d2, d3] => { results := [.lit (.bool false)], args := [d1, d2, d3] }
  | _ => none }
def VectorsBackWrongFalsely : Prop := vectorsBackRow.holds Try.pinned (OpenSpec.ofChange vectorsBackWrong)

/-- 'carousellaw14.VectorsWay': WHATEVER THE INPUT: true; the input reads as it did. -/
def vectorsWaySpec : ChangeSpec := { name := "vectorsWay", fn := fun _ => fun
  | [d] => { results := [.lit (.bool true)], args := [d] }
  | _ => none }
def vectorsWayRow : OpenClaim := { program := "ytneihcoepacadaa", sum := "ed96979a070dd22007ee404c394799735aadbeae5fb2d0cafb2a251c56c92b6e", func := "carousel/carousellaw14.VectorsWay", spec := "vectorsWay", apart := false }
def VectorsWaySaid : Prop := vectorsWayRow.holds Try.pinned (OpenSpec.ofChange vectorsWaySpec)

/-- ITS FALSE NEIGHBOUR: 'it returns false'. Refute it at one input. -/
def vectorsWayWrong : ChangeSpec := { name := "vectorsWay", fn := fun _ => fun
  | [d] => { results := [.lit (.bool false)], args := [d] }
  | _ => none }
def VectorsWayWrongFalsely : Prop := vectorsWayRow.holds Try.pinned (OpenSpec.ofChange vectorsWayWrong)

/- THE SECOND FORM. 'bulk': how many values and letters a reading holds, each counted each time it is reached (what is shared counts as often as it is met; a slice's spare places count too). A statement '..UptoSaid' is the law's where the arguments, and the package variables that the reading takes, are together of bulk at most 1048576: NARROWER than '..Said'. Prove '..Said' where nothing that the law and all that it calls make is longer than what came in: it says more and counts as full. Else prove '..UptoSaid'. A law counts once. -/
mutual
def uptoBulk {H : Type} : DataW H → Nat
  | .lit (.string bytes) => bytes.length + 1
  | .lit _ => 1
  | .nil => 1
  | .ptr d => uptoBulk d + 1
  | .slice elems spare => uptoBulkAll elems + uptoBulkAll spare + 1
  | .agg parts => uptoBulkAll parts + 1
  | .iface _ d => uptoBulk d + 1
  | .map entries => uptoBulkEntries entries + 1
  | .held _ => 1
def uptoBulkAll {H : Type} : List (DataW H) → Nat
  | [] => 0
  | d :: r => uptoBulk d + uptoBulkAll r
def uptoBulkEntries {H : Type} : List (Lit × DataW H) → Nat
  | [] => 0
  | x :: r => uptoBulkEntry x + uptoBulkEntries r
def uptoBulkEntry {H : Type} : Lit × DataW H → Nat
  | (.string bytes, d) => bytes.length + uptoBulk d + 1
  | (_, d) => uptoBulk d + 1
 end
def uptoSmall : (H : Type) → List (DataW H) → Bool := fun _ ds => decide (uptoBulkAll ds ≤ 1048576)
def OpenSpec.upto (s : _root_.Go.ChangeSpec) : _root_.Go.OpenSpec := { _root_.Go.OpenSpec.ofChange s with cond := some uptoSmall }

/-- 'carousellaw14.VectorsPlain', WHERE WHAT IT READS IS OF BULK AT MOST 1048576: true; the input reads as it did. -/
def vectorsPlainUptoRow : OpenClaim := { program := "ytneihcoepacadaa", sum := "ed96979a070dd22007ee404c394799735aadbeae5fb2d0cafb2a251c56c92b6e", func := "carousel/carousellaw14.VectorsPlain", spec := "vectorsPlain", apart := false, narrowed := true }
def VectorsPlainUptoSaid : Prop := vectorsPlainUptoRow.holds Try.pinned (OpenSpec.upto vectorsPlainSpec)

/-- 'carousellaw14.VectorsNone', WHERE WHAT IT READS IS OF BULK AT MOST 1048576: true; the input reads as it did. -/
def vectorsNoneUptoRow : OpenClaim := { program := "ytneihcoepacadaa", sum := "ed96979a070dd22007ee404c394799735aadbeae5fb2d0cafb2a251c56c92b6e", func := "carousel/carousellaw14.VectorsNone", spec := "vectorsNone", apart := false, narrowed := true }
def VectorsNoneUptoSaid : Prop := vectorsNoneUptoRow.holds Try.pinned (OpenSpec.upto vectorsNoneSpec)

/-- 'carousellaw14.VectorsTell', WHERE WHAT IT READS IS OF BULK AT MOST 1048576: true; the input reads as it did. -/
def vectorsTellUptoRow : OpenClaim := { program := "ytneihcoepacadaa", sum := "ed96979a070dd22007ee404c394799735aadbeae5fb2d0cafb2a251c56c92b6e", func := "carousel/carousellaw14.VectorsTell", spec := "vectorsTell", apart := false, narrowed := true }
def VectorsTellUptoSaid : Prop := vectorsTellUptoRow.holds Try.pinned (OpenSpec.upto vectorsTellSpec)

/-- 'carousellaw14.VectorsBack', WHERE WHAT IT READS IS OF BULK AT MOST 1048576: true; the input reads as it did. -/
def vectorsBackUptoRow : OpenClaim := { program := "ytneihcoepacadaa", sum := "ed96979a070dd22007ee404c394799735aadbeae5fb2d0cafb2a251c56c92b6e", func := "carousel/carousellaw14.VectorsBack", spec := "vectorsBack", apart := false, narrowed := true }
def VectorsBackUptoSaid : Prop := vectorsBackUptoRow.holds Try.pinned (OpenSpec.upto vectorsBackSpec)

/-- 'carousellaw14.VectorsWay', WHERE WHAT IT READS IS OF BULK AT MOST 1048576: true; the input reads as it did. -/
def vectorsWayUptoRow : OpenClaim := { program := "ytneihcoepacadaa", sum := "ed96979a070dd22007ee404c394799735aadbeae5fb2d0cafb2a251c56c92b6e", func := "carousel/carousellaw14.VectorsWay", spec := "vectorsWay", apart := false, narrowed := true }
def VectorsWayUptoSaid : Prop := vectorsWayUptoRow.holds Try.pinned (OpenSpec.upto vectorsWaySpec)

end Rows
end Go.Proofs.Ytneihcoepacadaa
