/-
  No cell of these rows narrows 'for every input' (looked for: loops, veiled, ifaces, maps, wideKeys, modest, calm, conditions, laid).
  DERIVED. THE GIVEN ROWS OF THIS SEAT. 15 by the template 'for every input the law returns true; each argument reads behind the call as it read before'; 0 by the template 'total and deterministic' (their statements: YtknmoijbnplnoaaTotals.lean).
  GIVEN WITH THE SEED: the statements are not yours to turn. If you find one false, say at which input.
  Laid BY PROGRAM, IN A SANDBOX (cutbox-rows.mjs): the forced cells as the released guide's own fill.sh prints them over the translation 188683d8d8779f96… (all of the seat's roots in one cut). By AI agents, Wed Nov 11 2026. No macro, syntax, notation, axiom, sorry.
-/
import Derived.Test.YtknmoijbnplnoaaChecked
import GoSem.Claim
import GoSem.ClaimJoined
import GoSem.ClaimMapViews
import Derived.JoinedTies
import Derived.KernelRfl
namespace Go.Proofs.Ytknmoijbnplnoaa
/- THE CELL 'sum', in the pinned program and in every row, IS THE sha256 OF THE DUMP (.gsa) THAT YtknmoijbnplnoaaProg.lean LOADS. Nothing in Lean hashes anything: it is a label: what it is worth is what the hold of that sum in a sandbox is worth. -/
noncomputable def Try.pinned : Pinned := { name := "ytknmoijbnplnoaa", sum := "188683d8d8779f966e26045fd0a105a246642e8c9b168b3ebc50597766ae086e", checked := Try.checked }
namespace Rows
def none {H : Type} : Left H := { results := [], args := [] }

/-- 'carousellaw18.RankBegin': WHATEVER THE INPUT: true; the input reads as it did. -/
def rankBeginSpec : ChangeSpec := { name := "rankBegin", fn := fun _ => fun
  | [d1, d2] => { results := [.lit (.bool true)], args := [d1, d2] }
  | _ => none }
def rankBeginRow : OpenClaim := { program := "ytknmoijbnplnoaa", sum := "188683d8d8779f966e26045fd0a105a246642e8c9b168b3ebc50597766ae086e", func := "carousel/carousellaw18.RankBegin", spec := "rankBegin", unfollowed := true, recurses := true, apart := false }
def RankBeginSaid : Prop := rankBeginRow.holds Try.pinned (OpenSpec.ofChange rankBeginSpec)

/-- ITS FALSE NEIGHBOUR: 'it returns false'. Refute it at one input. -/
def rankBeginWrong : ChangeSpec := { name := "rankBegin", fn := fun _ => fun
  | [d1, d2] => { results := [.lit (.bool false)], args := [d1, d2] }
  | _ => none }
def RankBeginWrongFalsely : Prop := rankBeginRow.holds Try.pinned (OpenSpec.ofChange rankBeginWrong)

/-- 'carousellaw18.RankShard': WHATEVER THE INPUT: true; the input reads as it did. -/
def rankShardSpec : ChangeSpec := { name := "rankShard", fn := fun _ => fun
  | [d1, d2, d3] => { results := [.lit (.bool true)], args := [d1, d2, d3] }
  | _ => none }
def rankShardRow : OpenClaim := { program := "ytknmoijbnplnoaa", sum := "188683d8d8779f966e26045fd0a105a246642e8c9b168b3ebc50597766ae086e", func := "carousel/carousellaw18.RankShard", spec := "rankShard", unfollowed := true, recurses := true, apart := false }
def RankShardSaid : Prop := rankShardRow.holds Try.pinned (OpenSpec.ofChange rankShardSpec)

/-- ITS FALSE NEIGHBOUR: 'it returns false'. Refute it at one input. -/
def rankShardWrong : ChangeSpec := { name := "rankShard", fn := fun _ => fun
  | [d1, d2, d3] => { results := [.lit (.bool false)], args := [d1, d2, d3] }
  | _ => none }
def RankShardWrongFalsely : Prop := rankShardRow.holds Try.pinned (OpenSpec.ofChange rankShardWrong)

/-- 'carousellaw18.RankNone': WHATEVER THE INPUT: true; the input reads as it did. -/
def rankNoneSpec : ChangeSpec := { name := "rankNone", fn := fun _ => fun
  | [d1, d2] => { results := [.lit (.bool true)], args := [d1, d2] }
  | _ => none }
def rankNoneRow : OpenClaim := { program := "ytknmoijbnplnoaa", sum := "188683d8d8779f966e26045fd0a105a246642e8c9b168b3ebc50597766ae086e", func := "carousel/carousellaw18.RankNone", spec := "rankNone", unfollowed := true, recurses := true, apart := false }
def RankNoneSaid : Prop := rankNoneRow.holds Try.pinned (OpenSpec.ofChange rankNoneSpec)

/-- ITS FALSE NEIGHBOUR: 'it returns false'. Refute it at one input. -/
def rankNoneWrong : ChangeSpec := { name := "rankNone", fn := fun _ => fun
  | [d1, d2] => { results := [.lit (.bool false)], args := [d1, d2] }
  | _ => none }
def RankNoneWrongFalsely : Prop := rankNoneRow.holds Try.pinned (OpenSpec.ofChange rankNoneWrong)

/-- 'carousellaw19.LabelsBegin': WHATEVER THE INPUT: true; the input reads as it did. -/
def labelsBeginSpec : ChangeSpec := { name := "labelsBegin", fn := fun _ => fun
  | [d1, d2] => { results := [.lit (.bool true)], args := [d1, d2] }
  | _ => none }
def labelsBeginRow : OpenClaim := { program := "ytknmoijbnplnoaa", sum := "188683d8d8779f966e26045fd0a105a246642e8c9b168b3ebc50597766ae086e", func := "carousel/carousellaw19.LabelsBegin", spec := "labelsBegin", unfollowed := true, recurses := true, apart := false }
def LabelsBeginSaid : Prop := labelsBeginRow.holds Try.pinned (OpenSpec.ofChange labelsBeginSpec)

/-- ITS FALSE NEIGHBOUR: 'it returns false'. Refute it at one input. -/
def labelsBeginWrong : ChangeSpec := { name := "labelsBegin", fn := fun _ => fun
  | [d1, d2] => { results := [.lit (.bool false)], args := [d1, d2] }
  | _ => none }
def LabelsBeginWrongFalsely : Prop := labelsBeginRow.holds Try.pinned (OpenSpec.ofChange labelsBeginWrong)

/-- 'carousellaw19.LabelsShard': WHATEVER THE INPUT: true; the input reads as it did. -/
def labelsShardSpec : ChangeSpec := { name := "labelsShard", fn := fun _ => fun
  | [d1, d2, d3] => { results := [.lit (.bool true)], args := [d1, d2, d3] }
  | _ => none }
def labelsShardRow : OpenClaim := { program := "ytknmoijbnplnoaa", sum := "188683d8d8779f966e26045fd0a105a246642e8c9b168b3ebc50597766ae086e", func := "carousel/carousellaw19.LabelsShard", spec := "labelsShard", unfollowed := true, recurses := true, apart := false }
def LabelsShardSaid : Prop := labelsShardRow.holds Try.pinned (OpenSpec.ofChange labelsShardSpec)

/-- ITS FALSE NEIGHBOUR: 'it returns false'. Refute it at one input. -/
def labelsShardWrong : ChangeSpec := { name := "labelsShard", fn := fun _ => fun
  | [d1, d2, d3] => { results := [.lit (.bool false)], args := [d1, d2, d3] }
  | _ => none }
def LabelsShardWrongFalsely : Prop := labelsShardRow.holds Try.pinned (OpenSpec.ofChange labelsShardWrong)

/-- 'carousellaw19.LabelsCommit': WHATEVER THE INPUT: true; the input reads as it did. -/
def labelsCommitSpec : ChangeSpec := { name := "labelsCommit", fn := fun _ => fun
  | [d1, d2, d3] => { results := [.lit (.bool true)], args := [d1, d2, d3] }
  | _ => none }
def labelsCommitRow : OpenClaim := { program := "ytknmoijbnplnoaa", sum := "188683d8d8779f966e26045fd0a105a246642e8c9b168b3ebc50597766ae086e", func := "carousel/carousellaw19.LabelsCommit", spec := "labelsCommit", unfollowed := true, recurses := true, apart := false }
def LabelsCommitSaid : Prop := labelsCommitRow.holds Try.pinned (OpenSpec.ofChange labelsCommitSpec)

/-- ITS FALSE NEIGHBOUR: 'it returns false'. Refute it at one input. -/
def labelsCommitWrong : ChangeSpec := { name := "labelsCommit", fn := fun _ => fun
  | [d1, d2, d3] => { results := [.lit (.bool false)], args := [d1, d2, d3] }
  | _ => none }
def LabelsCommitWrongFalsely : Prop := labelsCommitRow.holds Try.pinned (OpenSpec.ofChange labelsCommitWrong)

/-- 'carousellaw19.LabelsNone': WHATEVER THE INPUT: true; the input reads as it did. -/
def labelsNoneSpec : ChangeSpec := { name := "labelsNone", fn := fun _ => fun
  | [d1, d2] => { results := [.lit (.bool true)], args := [d1, d2] }
  | _ => none }
def labelsNoneRow : OpenClaim := { program := "ytknmoijbnplnoaa", sum := "188683d8d8779f966e26045fd0a105a246642e8c9b168b3ebc50597766ae086e", func := "carousel/carousellaw19.LabelsNone", spec := "labelsNone", unfollowed := true, recurses := true, apart := false }
def LabelsNoneSaid : Prop := labelsNoneRow.holds Try.pinned (OpenSpec.ofChange labelsNoneSpec)

/-- ITS FALSE NEIGHBOUR: 'it returns false'. Refute it at one input. -/
def labelsNoneWrong : ChangeSpec := { name := "labelsNone", fn := fun _ => fun
  | [d1, d2] => { results := [.lit (.bool false)], args := [d1, d2] }
  | _ => none }
def LabelsNoneWrongFalsely : Prop := labelsNoneRow.holds Try.pinned (OpenSpec.ofChange labelsNoneWrong)

/-- 'carousellaw17.BfsBegin': WHATEVER THE INPUT: true; the input reads as it did. -/
def bfsBeginSpec : ChangeSpec := { name := "bfsBegin", fn := fun _ => fun
  | [d1, d2] => { results := [.lit (.bool true)], args := [d1, d2] }
  | _ => none }
def bfsBeginRow : OpenClaim := { program := "ytknmoijbnplnoaa", sum := "188683d8d8779f966e26045fd0a105a246642e8c9b168b3ebc50597766ae086e", func := "carousel/carousellaw17.BfsBegin", spec := "bfsBegin", unfollowed := true, recurses := true, apart := false }
def BfsBeginSaid : Prop := bfsBeginRow.holds Try.pinned (OpenSpec.ofChange bfsBeginSpec)

/-- ITS FALSE NEIGHBOUR: 'it returns false'. Refute it at one input. -/
def bfsBeginWrong : ChangeSpec := { name := "bfsBegin", fn := fun _ => fun
  | [d1, d2] => { results := [.lit (.bool false)], args := [d1, d2] }
  | _ => none }
def BfsBeginWrongFalsely : Prop := bfsBeginRow.holds Try.pinned (OpenSpec.ofChange bfsBeginWrong)

/-- 'carousellaw17.BfsShard': WHATEVER THE INPUT: true; the input reads as it did. -/
def bfsShardSpec : ChangeSpec := { name := "bfsShard", fn := fun _ => fun
  | [d1, d2, d3] => { results := [.lit (.bool true)], args := [d1, d2, d3] }
  | _ => none }
def bfsShardRow : OpenClaim := { program := "ytknmoijbnplnoaa", sum := "188683d8d8779f966e26045fd0a105a246642e8c9b168b3ebc50597766ae086e", func := "carousel/carousellaw17.BfsShard", spec := "bfsShard", unfollowed := true, recurses := true, apart := false }
def BfsShardSaid : Prop := bfsShardRow.holds Try.pinned (OpenSpec.ofChange bfsShardSpec)

/-- ITS FALSE NEIGHBOUR: 'it returns false'. Refute it at one input. -/
def bfsShardWrong : ChangeSpec := { name := "bfsShard", fn := fun _ => fun
  | [d1, d2, d3] => { results := [.lit (.bool false)], args := [d1, d2, d3] }
  | _ => none }
def BfsShardWrongFalsely : Prop := bfsShardRow.holds Try.pinned (OpenSpec.ofChange bfsShardWrong)

/-- 'carousellaw17.BfsCommit': WHATEVER THE INPUT: true; the input reads as it did. -/
def bfsCommitSpec : ChangeSpec := { name := "bfsCommit", fn := fun _ => fun
  | [d1, d2, d3] => { results := [.lit (.bool true)], args := [d1, d2, d3] }
  | _ => none }
def bfsCommitRow : OpenClaim := { program := "ytknmoijbnplnoaa", sum := "188683d8d8779f966e26045fd0a105a246642e8c9b168b3ebc50597766ae086e", func := "carousel/carousellaw17.BfsCommit", spec := "bfsCommit", unfollowed := true, recurses := true, apart := false }
def BfsCommitSaid : Prop := bfsCommitRow.holds Try.pinned (OpenSpec.ofChange bfsCommitSpec)

/-- ITS FALSE NEIGHBOUR: 'it returns false'. Refute it at one input. -/
def bfsCommitWrong : ChangeSpec := { name := "bfsCommit", fn := fun _ => fun
  | [d1, d2, d3] => { results := [.lit (.bool false)], args := [d1, d2, d3] }
  | _ => none }
def BfsCommitWrongFalsely : Prop := bfsCommitRow.holds Try.pinned (OpenSpec.ofChange bfsCommitWrong)

/-- 'carousellaw17.BfsNone': WHATEVER THE INPUT: true; the input reads as it did. -/
def bfsNoneSpec : ChangeSpec := { name := "bfsNone", fn := fun _ => fun
  | [d1, d2] => { results := [.lit (.bool true)], args := [d1, d2] }
  | _ => none }
def bfsNoneRow : OpenClaim := { program := "ytknmoijbnplnoaa", sum := "188683d8d8779f966e26045fd0a105a246642e8c9b168b3ebc50597766ae086e", func := "carousel/carousellaw17.BfsNone", spec := "bfsNone", unfollowed := true, recurses := true, apart := false }
def BfsNoneSaid : Prop := bfsNoneRow.holds Try.pinned (OpenSpec.ofChange bfsNoneSpec)

/-- ITS FALSE NEIGHBOUR: 'it returns false'. Refute it at one input. -/
def bfsNoneWrong : ChangeSpec := { name := "bfsNone", fn := fun _ => fun
  | [d1, d2] => { results := [.lit (.bool false)], args := [d1, d2] }
  | _ => none }
def BfsNoneWrongFalsely : Prop := bfsNoneRow.holds Try.pinned (OpenSpec.ofChange bfsNoneWrong)

/-- 'carousellaw20.CoresBegin': WHATEVER THE INPUT: true; the input reads as it did. -/
def coresBeginSpec : ChangeSpec := { name := "coresBegin", fn := fun _ => fun
  | [d1, d2] => { results := [.lit (.bool true)], args := [d1, d2] }
  | _ => none }
def coresBeginRow : OpenClaim := { program := "ytknmoijbnplnoaa", sum := "188683d8d8779f966e26045fd0a105a246642e8c9b168b3ebc50597766ae086e", func := "carousel/carousellaw20.CoresBegin", spec := "coresBegin", unfollowed := true, recurses := true, apart := false }
def CoresBeginSaid : Prop := coresBeginRow.holds Try.pinned (OpenSpec.ofChange coresBeginSpec)

/-- ITS FALSE NEIGHBOUR: 'it returns false'. Refute it at one input. -/
def coresBeginWrong : ChangeSpec := { name := "coresBegin", fn := fun _ => fun
  | [d1, d2] => { results := [.lit (.bool false)], args := [d1, d2] }
  | _ => none }
def CoresBeginWrongFalsely : Prop := coresBeginRow.holds Try.pinned (OpenSpec.ofChange coresBeginWrong)

/-- 'carousellaw20.CoresShard': WHATEVER THE INPUT: true; the input reads as it did. -/
def coresShardSpec : ChangeSpec := { name := "coresShard", fn := fun _ => fun
  | [d1, d2, d3] => { results := [.lit (.bool true)], args := [d1, d2, d3] }
  | _ => none }
def coresShardRow : OpenClaim := { program := "ytknmoijbnplnoaa", sum := "188683d8d8779f966e26045fd0a105a246642e8c9b168b3ebc50597766ae086e", func := "carousel/carousellaw20.CoresShard", spec := "coresShard", unfollowed := true, recurses := true, apart := false }
def CoresShardSaid : Prop := coresShardRow.holds Try.pinned (OpenSpec.ofChange coresShardSpec)

/-- ITS FALSE NEIGHBOUR: 'it returns false'. Refute it at one input. -/
def coresShardWrong : ChangeSpec := { name := "coresShard", fn := fun _ => fun
  | [d1, d2, d3] => { results := [.lit (.bool false)], args := [d1, d2, d3] }
  | _ => none }
def CoresShardWrongFalsely : Prop := coresShardRow.holds Try.pinned (OpenSpec.ofChange coresShardWrong)

/-- 'carousellaw20.CoresCommit': WHATEVER THE INPUT: true; the input reads as it did. -/
def coresCommitSpec : ChangeSpec := { name := "coresCommit", fn := fun _ => fun
  | [d1, d2, d3] => { results := [.lit (.bool true)], args := [d1, d2, d3] }
  | _ => none }
def coresCommitRow : OpenClaim := { program := "ytknmoijbnplnoaa", sum := "188683d8d8779f966e26045fd0a105a246642e8c9b168b3ebc50597766ae086e", func := "carousel/carousellaw20.CoresCommit", spec := "coresCommit", unfollowed := true, recurses := true, apart := false }
def CoresCommitSaid : Prop := coresCommitRow.holds Try.pinned (OpenSpec.ofChange coresCommitSpec)

/-- ITS FALSE NEIGHBOUR: 'it returns false'. Refute it at one input. -/
def coresCommitWrong : ChangeSpec := { name := "coresCommit", fn := fun _ => fun
  | [d1, d2, d3] => { results := [.lit (.bool false)], args := [d1, d2, d3] }
  | _ => none }
def CoresCommitWrongFalsely : Prop := coresCommitRow.holds Try.pinned (OpenSpec.ofChange coresCommitWrong)

/-- 'carousellaw20.CoresNone': WHATEVER THE INPUT: true; the input reads as it did. -/
def coresNoneSpec : ChangeSpec := { name := "coresNone", fn := fun _ => fun
  | [d1, d2] => { results := [.lit (.bool true)], args := [d1, d2] }
  | _ => none }
def coresNoneRow : OpenClaim := { program := "ytknmoijbnplnoaa", sum := "188683d8d8779f966e26045fd0a105a246642e8c9b168b3ebc50597766ae086e", func := "carousel/carousellaw20.CoresNone", spec := "coresNone", unfollowed := true, recurses := true, apart := false }
def CoresNoneSaid : Prop := coresNoneRow.holds Try.pinned (OpenSpec.ofChange coresNoneSpec)

/-- ITS FALSE NEIGHBOUR: 'it returns false'. Refute it at one input. -/
def coresNoneWrong : ChangeSpec := { name := "coresNone", fn := fun _ => fun
  | [d1, d2] => { results := [.lit (.bool false)], args := [d1, d2] }
  | _ => none }
def CoresNoneWrongFalsely : Prop := coresNoneRow.holds Try.pinned (OpenSpec.ofChange coresNoneWrong)

/- THE SECOND FORM. 'bulk': how many values and letters a reading holds, each counted each time it is reached (what is shared counts as often as it is met; a slice's spare places count too). A statement '..UptoSaid' is the law's where the arguments, and the package variables that the reading takes, are together of bulk at most 1048576: NARROWER than '..Said'. Prove '..Said' where nothing that the law and all that it calls make is longer than what came in: it says more and counts as full. Else prove '..UptoSaid'. A law counts once. -/
mutual
def uptoBulk {H : Type} : DataW H → Nat
  | .lit (.string bytes) => bytes.length + 1
  | .lit _ => 1
  | .nil => 1
  | .ptr d => uptoBulk d + 1
  | .slice elems spare => uptoBulkAll elems + uptoBulkAll spare + 1
  | .agg parts => uptoBulkAll parts + 1
  | .iface _ d => uptoBulk d + 1
  | .map entries => uptoBulkEntries entries + 1
  | .held _ => 1
def uptoBulkAll {H : Type} : List (DataW H) → Nat
  | [] => 0
  | d :: r => uptoBulk d + uptoBulkAll r
def uptoBulkEntries {H : Type} : List (Lit × DataW H) → Nat
  | [] => 0
  | x :: r => uptoBulkEntry x + uptoBulkEntries r
def uptoBulkEntry {H : Type} : Lit × DataW H → Nat
  | (.string bytes, d) => bytes.length + uptoBulk d + 1
  | (_, d) => uptoBulk d + 1
 end
def uptoSmall : (H : Type) → List (DataW H) → Bool := fun _ ds => decide (uptoBulkAll ds ≤ 1048576)
def OpenSpec.upto (s : _root_.Go.ChangeSpec) : _root_.Go.OpenSpec := { _root_.Go.OpenSpec.ofChange s with cond := some uptoSmall }

/-- 'carousellaw18.RankBegin', WHERE WHAT IT READS IS OF BULK AT MOST 1048576: true; the input reads as it did. -/
def rankBeginUptoRow : OpenClaim := { program := "ytknmoijbnplnoaa", sum := "188683d8d8779f966e26045fd0a105a246642e8c9b168b3ebc50597766ae086e", func := "carousel/carousellaw18.RankBegin", spec := "rankBegin", unfollowed := true, recurses := true, apart := false, narrowed := true }
def RankBeginUptoSaid : Prop := rankBeginUptoRow.holds Try.pinned (OpenSpec.upto rankBeginSpec)

/-- 'carousellaw18.RankShard', WHERE WHAT IT READS IS OF BULK AT MOST 1048576: true; the input reads as it did. -/
def rankShardUptoRow : OpenClaim := { program := "ytknmoijbnplnoaa", sum := "188683d8d8779f966e26045fd0a105a246642e8c9b168b3ebc50597766ae086e", func := "carousel/carousellaw18.RankShard", spec := "rankShard", unfollowed := true, recurses := true, apart := false, narrowed := true }
def RankShardUptoSaid : Prop := rankShardUptoRow.holds Try.pinned (OpenSpec.upto rankShardSpec)

/-- 'carousellaw18.RankNone', WHERE WHAT IT READS IS OF BULK AT MOST 1048576: true; the input reads as it did. -/
def rankNoneUptoRow : OpenClaim := { program := "ytknmoijbnplnoaa", sum := "188683d8d8779f966e26045fd0a105a246642e8c9b168b3ebc50597766ae086e", func := "carousel/carousellaw18.RankNone", spec := "rankNone", unfollowed := true, recurses := true, apart := false, narrowed := true }
def RankNoneUptoSaid : Prop := rankNoneUptoRow.holds Try.pinned (OpenSpec.upto rankNoneSpec)

/-- 'carousellaw19.LabelsBegin', WHERE WHAT IT READS IS OF BULK AT MOST 1048576: true; the input reads as it did. -/
def labelsBeginUptoRow : OpenClaim := { program := "ytknmoijbnplnoaa", sum := "188683d8d8779f966e26045fd0a105a246642e8c9b168b3ebc50597766ae086e", func := "carousel/carousellaw19.LabelsBegin", spec := "labelsBegin", unfollowed := true, recurses := true, apart := false, narrowed := true }
def LabelsBeginUptoSaid : Prop := labelsBeginUptoRow.holds Try.pinned (OpenSpec.upto labelsBeginSpec)

/-- 'carousellaw19.LabelsShard', WHERE WHAT IT READS IS OF BULK AT MOST 1048576: true; the input reads as it did. -/
def labelsShardUptoRow : OpenClaim := { program := "ytknmoijbnplnoaa", sum := "188683d8d8779f966e26045fd0a105a246642e8c9b168b3ebc50597766ae086e", func := "carousel/carousellaw19.LabelsShard", spec := "labelsShard", unfollowed := true, recurses := true, apart := false, narrowed := true }
def LabelsShardUptoSaid : Prop := labelsShardUptoRow.holds Try.pinned (OpenSpec.upto labelsShardSpec)

/-- 'carousellaw19.LabelsCommit', WHERE WHAT IT READS IS OF BULK AT MOST 1048576: true; the input reads as it did. -/
def labelsCommitUptoRow : OpenClaim := { program := "ytknmoijbnplnoaa", sum := "188683d8d8779f966e26045fd0a105a246642e8c9b168b3ebc50597766ae086e", func := "carousel/carousellaw19.LabelsCommit", spec := "labelsCommit", unfollowed := true, recurses := true, apart := false, narrowed := true }
def LabelsCommitUptoSaid : Prop := labelsCommitUptoRow.holds Try.pinned (OpenSpec.upto labelsCommitSpec)

/-- 'carousellaw19.LabelsNone', WHERE WHAT IT READS IS OF BULK AT MOST 1048576: true; the input reads as it did. -/
def labelsNoneUptoRow : OpenClaim := { program := "ytknmoijbnplnoaa", sum := "188683d8d8779f966e26045fd0a105a246642e8c9b168b3ebc50597766ae086e", func := "carousel/carousellaw19.LabelsNone", spec := "labelsNone", unfollowed := true, recurses := true, apart := false, narrowed := true }
def LabelsNoneUptoSaid : Prop := labelsNoneUptoRow.holds Try.pinned (OpenSpec.upto labelsNoneSpec)

/-- 'carousellaw17.BfsBegin', WHERE WHAT IT READS IS OF BULK AT MOST 1048576: true; the input reads as it did. -/
def bfsBeginUptoRow : OpenClaim := { program := "ytknmoijbnplnoaa", sum := "188683d8d8779f966e26045fd0a105a246642e8c9b168b3ebc50597766ae086e", func := "carousel/carousellaw17.BfsBegin", spec := "bfsBegin", unfollowed := true, recurses := true, apart := false, narrowed := true }
def BfsBeginUptoSaid : Prop := bfsBeginUptoRow.holds Try.pinned (OpenSpec.upto bfsBeginSpec)

/-- 'carousellaw17.BfsShard', WHERE WHAT IT READS IS OF BULK AT MOST 1048576: true; the input reads as it did. -/
def bfsShardUptoRow : OpenClaim := { program := "ytknmoijbnplnoaa", sum := "188683d8d8779f966e26045fd0a105a246642e8c9b168b3ebc50597766ae086e", func := "carousel/carousellaw17.BfsShard", spec := "bfsShard", unfollowed := true, recurses := true, apart := false, narrowed := true }
def BfsShardUptoSaid : Prop := bfsShardUptoRow.holds Try.pinned (OpenSpec.upto bfsShardSpec)

/-- 'carousellaw17.BfsCommit', WHERE WHAT IT READS IS OF BULK AT MOST 1048576: true; the input reads as it did. -/
def bfsCommitUptoRow : OpenClaim := { program := "ytknmoijbnplnoaa", sum := "188683d8d8779f966e26045fd0a105a246642e8c9b168b3ebc50597766ae086e", func := "carousel/carousellaw17.BfsCommit", spec := "bfsCommit", unfollowed := true, recurses := true, apart := false, narrowed := true }
def BfsCommitUptoSaid : Prop := bfsCommitUptoRow.holds Try.pinned (OpenSpec.upto bfsCommitSpec)

/-- 'carousellaw17.BfsNone', WHERE WHAT IT READS IS OF BULK AT MOST 1048576: true; the input reads as it did. -/
def bfsNoneUptoRow : OpenClaim := { program := "ytknmoijbnplnoaa", sum := "188683d8d8779f966e26045fd0a105a246642e8c9b168b3ebc50597766ae086e", func := "carousel/carousellaw17.BfsNone", spec := "bfsNone", unfollowed := true, recurses := true, apart := false, narrowed := true }
def BfsNoneUptoSaid : Prop := bfsNoneUptoRow.holds Try.pinned (OpenSpec.upto bfsNoneSpec)

/-- 'carousellaw20.CoresBegin', WHERE WHAT IT READS IS OF BULK AT MOST 1048576: true; the input reads as it did. -/
def coresBeginUptoRow : OpenClaim := { program := "ytknmoijbnplnoaa", sum := "188683d8d8779f966e26045fd0a105a246642e8c9b168b3ebc50597766ae086e", func := "carousel/carousellaw20.CoresBegin", spec := "coresBegin", unfollowed := true, recurses := true, apart := false, narrowed := true }
def CoresBeginUptoSaid : Prop := coresBeginUptoRow.holds Try.pinned (OpenSpec.upto coresBeginSpec)

/-- 'carousellaw20.CoresShard', WHERE WHAT IT READS IS OF BULK AT MOST 1048576: true; the input reads as it did. -/
def coresShardUptoRow : OpenClaim := { program := "ytknmoijbnplnoaa", sum := "188683d8d8779f966e26045fd0a105a246642e8c9b168b3ebc50597766ae086e", func := "carousel/carousellaw20.CoresShard", spec := "coresShard", unfollowed := true, recurses := true, apart := false, narrowed := true }
def CoresShardUptoSaid : Prop := coresShardUptoRow.holds Try.pinned (OpenSpec.upto coresShardSpec)

/-- 'carousellaw20.CoresCommit', WHERE WHAT IT READS IS OF BULK AT MOST 1048576: true; the input reads as it did. -/
def coresCommitUptoRow : OpenClaim := { program := "ytknmoijbnplnoaa", sum := "188683d8d8779f966e26045fd0a105a246642e8c9b168b3ebc50597766ae086e", func := "carousel/carousellaw20.CoresCommit", spec := "coresCommit", unfollowed := true, recurses := true, apart := false, narrowed := true }
def CoresCommitUptoSaid : Prop := coresCommitUptoRow.holds Try.pinned (OpenSpec.upto coresCommitSpec)

/-- 'carousellaw20.CoresNone', WHERE WHAT IT READS IS OF BULK AT MOST 1048576: true; the input reads as it did. -/
def coresNoneUptoRow : OpenClaim := { program := "ytknmoijbnplnoaa", sum := "188683d8d8779f966e26045fd0a105a246642e8c9b168b3ebc50597766ae086e", func := "carousel/carousellaw20.CoresNone", spec := "coresNone", unfollowed := true, recurses := true, apart := false, narrowed := true }
def CoresNoneUptoSaid : Prop := coresNoneUptoRow.holds Try.pinned (OpenSpec.upto coresNoneSpec)

end Rows
end Go.Proofs.Ytknmoijbnplnoaa
