/-
  No cell of these rows narrows 'for every input' (looked for: loops, veiled, ifaces, maps, wideKeys, modest, calm, conditions, laid).
  DERIVED. THE GIVEN ROWS OF THIS SEAT. 13 by the template 'for every input the law returns true; each argument reads behind the call as it read before'; 0 by the template 'total and deterministic' (their statements: YtjdbjahgimlhbaaTotals.lean).
  GIVEN WITH THE SEED: the statements are not yours to turn. If you find one false, say at which input.
  Laid BY PROGRAM, IN A SANDBOX (cutbox-rows.mjs): the forced cells as the released guide's own fill.sh prints them over the translation b27ef8c059522d62… (all of the seat's roots in one cut). By AI agents, Wed Nov 11 2026. No macro, syntax, notation, axiom, sorry.
-/
import Derived.Test.YtjdbjahgimlhbaaChecked
import GoSem.Claim
import GoSem.ClaimJoined
import GoSem.ClaimMapViews
import Derived.JoinedTies
import Derived.KernelRfl
namespace Go.Proofs.Ytjdbjahgimlhbaa
/- THE CELL 'sum', in the pinned program and in every row, IS THE sha256 OF THE DUMP (.gsa) THAT YtjdbjahgimlhbaaProg.lean LOADS. Nothing in Lean hashes anything: it is a label: what it is worth is what the hold of that sum in a sandbox is worth. -/
noncomputable def Try.pinned : Pinned := { name := "ytjdbjahgimlhbaa", sum := "b27ef8c059522d62f5f8d98090309cda1125c0d35362f2b571fe8b40ca8cab30", checked := Try.checked }
namespace Rows
def none {H : Type} : Left H := { results := [], args := [] }

/-- 'carousellaw18.RankShare': WHATEVER THE INPUT: true; the input reads as it did. -/
def rankShareSpec : ChangeSpec := { name := "rankShare", fn := fun _ => fun
  | [d1, d2] => { results := [.lit (.bool true)], args := [d1, d2] }
  | _ => none }
def rankShareRow : OpenClaim := { program := "ytjdbjahgimlhbaa", sum := "b27ef8c059522d62f5f8d98090309cda1125c0d35362f2b571fe8b40ca8cab30", func := "carousel/carousellaw18.RankShare", spec := "rankShare", unfollowed := true, recurses := true, apart := false }
def RankShareSaid : Prop := rankShareRow.holds Try.pinned (OpenSpec.ofChange rankShareSpec)

/-- ITS FALSE NEIGHBOUR: 'it returns false'. Refute it at one input. -/
def rankShareWrong : ChangeSpec := { name := "rankShare", fn := fun _ => fun
  | [d1, d2] => { results := [.lit (.bool false)], args := [d1, d2] }
  | _ => none }
def RankShareWrongFalsely : Prop := rankShareRow.holds Try.pinned (OpenSpec.ofChange rankShareWrong)

/-- 'carousellaw18.RankTwice': WHATEVER THE INPUT: true; the input reads as it did. -/
def rankTwiceSpec : ChangeSpec := { name := "rankTwice", fn := fun _ => fun
  | [d1, d2] => { results := [.lit (.bool true)], args := [d1, d2] }
  | _ => none }
def rankTwiceRow : OpenClaim := { program := "ytjdbjahgimlhbaa", sum := "b27ef8c059522d62f5f8d98090309cda1125c0d35362f2b571fe8b40ca8cab30", func := "carousel/carousellaw18.RankTwice", spec := "rankTwice", unfollowed := true, recurses := true, apart := false }
def RankTwiceSaid : Prop := rankTwiceRow.holds Try.pinned (OpenSpec.ofChange rankTwiceSpec)

/-- ITS FALSE NEIGHBOUR: 'it returns false'. Refute it at one input. -/
def rankTwiceWrong : ChangeSpec := { name := "rankTwice", fn := fun _ => fun
  | [d1, d2] => { results := [.lit (.bool false)], args := [d1, d2] }
  | _ => none }
def RankTwiceWrongFalsely : Prop := rankTwiceRow.holds Try.pinned (OpenSpec.ofChange rankTwiceWrong)

/-- 'carousellaw19.LabelsDown': WHATEVER THE INPUT: true; the input reads as it did. -/
def labelsDownSpec : ChangeSpec := { name := "labelsDown", fn := fun _ => fun
  | [d1, d2, d3] => { results := [.lit (.bool true)], args := [d1, d2, d3] }
  | _ => none }
def labelsDownRow : OpenClaim := { program := "ytjdbjahgimlhbaa", sum := "b27ef8c059522d62f5f8d98090309cda1125c0d35362f2b571fe8b40ca8cab30", func := "carousel/carousellaw19.LabelsDown", spec := "labelsDown", unfollowed := true, recurses := true, apart := false }
def LabelsDownSaid : Prop := labelsDownRow.holds Try.pinned (OpenSpec.ofChange labelsDownSpec)

/-- ITS FALSE NEIGHBOUR: 'it returns false'. Refute it at one input. -/
def labelsDownWrong : ChangeSpec := { name := "labelsDown", fn := fun _ => fun
  | [d1, d2, d3] => { results := [.lit (.bool false)], args := [d1, d2, d3] }
  | _ => none }
def LabelsDownWrongFalsely : Prop := labelsDownRow.holds Try.pinned (OpenSpec.ofChange labelsDownWrong)

/-- 'carousellaw19.LabelsTurned': WHATEVER THE INPUT: true; the input reads as it did. -/
def labelsTurnedSpec : ChangeSpec := { name := "labelsTurned", fn := fun _ => fun
  | [d1, d2] => { results := [.lit (.bool true)], args := [d1, d2] }
  | _ => none }
def labelsTurnedRow : OpenClaim := { program := "ytjdbjahgimlhbaa", sum := "b27ef8c059522d62f5f8d98090309cda1125c0d35362f2b571fe8b40ca8cab30", func := "carousel/carousellaw19.LabelsTurned", spec := "labelsTurned", unfollowed := true, recurses := true, apart := false }
def LabelsTurnedSaid : Prop := labelsTurnedRow.holds Try.pinned (OpenSpec.ofChange labelsTurnedSpec)

/-- ITS FALSE NEIGHBOUR: 'it returns false'. Refute it at one input. -/
def labelsTurnedWrong : ChangeSpec := { name := "labelsTurned", fn := fun _ => fun
  | [d1, d2] => { results := [.lit (.bool false)], args := [d1, d2] }
  | _ => none }
def LabelsTurnedWrongFalsely : Prop := labelsTurnedRow.holds Try.pinned (OpenSpec.ofChange labelsTurnedWrong)

/-- 'carousellaw17.BfsOften': WHATEVER THE INPUT: true; the input reads as it did. -/
def bfsOftenSpec : ChangeSpec := { name := "bfsOften", fn := fun _ => fun
  | [d1, d2] => { results := [.lit (.bool true)], args := [d1, d2] }
  | _ => none }
def bfsOftenRow : OpenClaim := { program := "ytjdbjahgimlhbaa", sum := "b27ef8c059522d62f5f8d98090309cda1125c0d35362f2b571fe8b40ca8cab30", func := "carousel/carousellaw17.BfsOften", spec := "bfsOften", unfollowed := true, recurses := true, apart := false }
def BfsOftenSaid : Prop := bfsOftenRow.holds Try.pinned (OpenSpec.ofChange bfsOftenSpec)

/-- ITS FALSE NEIGHBOUR: 'it returns false'. Refute it at one input. -/
def bfsOftenWrong : ChangeSpec := { name := "bfsOften", fn := fun _ => fun
  | [d1, d2] => { results := [.lit (.bool false)], args := [d1, d2] }
  | _ => none }
def BfsOftenWrongFalsely : Prop := bfsOftenRow.holds Try.pinned (OpenSpec.ofChange bfsOftenWrong)

/-- 'carousellaw20.CoresGone': WHATEVER THE INPUT: true; the input reads as it did. -/
def coresGoneSpec : ChangeSpec := { name := "coresGone", fn := fun _ => fun
  | [d1, d2, d3] => { results := [.lit (.bool true)], args := [d1, d2, d3] }
  | _ => none }
def coresGoneRow : OpenClaim := { program := "ytjdbjahgimlhbaa", sum := "b27ef8c059522d62f5f8d98090309cda1125c0d35362f2b571fe8b40ca8cab30", func := "carousel/carousellaw20.CoresGone", spec := "coresGone", unfollowed := true, recurses := true, apart := false }
def CoresGoneSaid : Prop := coresGoneRow.holds Try.pinned (OpenSpec.ofChange coresGoneSpec)

/-- ITS FALSE NEIGHBOUR: 'it returns false'. Refute it at one input. -/
def coresGoneWrong : ChangeSpec := { name := "coresGone", fn := fun _ => fun
  | [d1, d2, d3] => { results := [.lit (.bool false)], args := [d1, d2, d3] }
  | _ => none }
def CoresGoneWrongFalsely : Prop := coresGoneRow.holds Try.pinned (OpenSpec.ofChange coresGoneWrong)

/-- 'carousellaw20.CoresCount': WHATEVER THE INPUT: true; the input reads as it did. -/
def coresCountSpec : ChangeSpec := { name := "coresCount", fn := fun _ => fun
  | [d1, d2, d3] => { results := [.lit (.bool true)], args := [d1, d2, d3] }
  | _ => none }
def coresCountRow : OpenClaim := { program := "ytjdbjahgimlhbaa", sum := "b27ef8c059522d62f5f8d98090309cda1125c0d35362f2b571fe8b40ca8cab30", func := "carousel/carousellaw20.CoresCount", spec := "coresCount", unfollowed := true, recurses := true, apart := false }
def CoresCountSaid : Prop := coresCountRow.holds Try.pinned (OpenSpec.ofChange coresCountSpec)

/-- ITS FALSE NEIGHBOUR: 'it returns false'. Refute it at one input. -/
def coresCountWrong : ChangeSpec := { name := "coresCount", fn := fun _ => fun
  | [d1, d2, d3] => { results := [.lit (.bool false)], args := [d1, d2, d3] }
  | _ => none }
def CoresCountWrongFalsely : Prop := coresCountRow.holds Try.pinned (OpenSpec.ofChange coresCountWrong)

/-- 'carousellaw21.KernelsNone': WHATEVER THE INPUT: true; the input reads as it did. -/
def kernelsNoneSpec : ChangeSpec := { name := "kernelsNone", fn := fun _ => fun
  | [d] => { results := [.lit (.bool true)], args := [d] }
  | _ => none }
def kernelsNoneRow : OpenClaim := { program := "ytjdbjahgimlhbaa", sum := "b27ef8c059522d62f5f8d98090309cda1125c0d35362f2b571fe8b40ca8cab30", func := "carousel/carousellaw21.KernelsNone", spec := "kernelsNone", unfollowed := true, recurses := true, apart := false }
def KernelsNoneSaid : Prop := kernelsNoneRow.holds Try.pinned (OpenSpec.ofChange kernelsNoneSpec)

/-- ITS FALSE NEIGHBOUR: 'it returns false'. Refute it at one input. -/
def kernelsNoneWrong : ChangeSpec := { name := "kernelsNone", fn := fun _ => fun
  | [d] => { results := [.lit (.bool false)], args := [d] }
  | _ => none }
def KernelsNoneWrongFalsely : Prop := kernelsNoneRow.holds Try.pinned (OpenSpec.ofChange kernelsNoneWrong)

/-- 'carousellaw21.KernelsParts': WHATEVER THE INPUT: true; the input reads as it did. -/
def kernelsPartsSpec : ChangeSpec := { name := "kernelsParts", fn := fun _ => fun
  | [d1, d2, d3] => { results := [.lit (.bool true)], args := [d1, d2, d3] }
  | _ => none }
def kernelsPartsRow : OpenClaim := { program := "ytjdbjahgimlhbaa", sum := "b27ef8c059522d62f5f8d98090309cda1125c0d35362f2b571fe8b40ca8cab30", func := "carousel/carousellaw21.KernelsParts", spec := "kernelsParts", unfollowed := true, recurses := true, apart := false }
def KernelsPartsSaid : Prop := kernelsPartsRow.holds Try.pinned (OpenSpec.ofChange kernelsPartsSpec)

/-- ITS FALSE NEIGHBOUR: 'it returns false'. Refute it at one input. -/
def kernelsPartsWrong : ChangeSpec := { name := "kernelsParts", fn := fun _ => fun
  | [d1, d2, d3] => { results := [.lit (.bool false)], args := [d1, d2, d3] }
  | _ => none }
def KernelsPartsWrongFalsely : Prop := kernelsPartsRow.holds Try.pinned (OpenSpec.ofChange kernelsPartsWrong)

/-- 'carousellaw18.RankWhole': WHATEVER THE INPUT: true; the input reads as it did. -/
def rankWholeSpec : ChangeSpec := { name := "rankWhole", fn := fun _ => fun
  | [d1, d2] => { results := [.lit (.bool true)], args := [d1, d2] }
  | _ => none }
def rankWholeRow : OpenClaim := { program := "ytjdbjahgimlhbaa", sum := "b27ef8c059522d62f5f8d98090309cda1125c0d35362f2b571fe8b40ca8cab30", func := "carousel/carousellaw18.RankWhole", spec := "rankWhole", unfollowed := true, recurses := true, apart := false }
def RankWholeSaid : Prop := rankWholeRow.holds Try.pinned (OpenSpec.ofChange rankWholeSpec)

/-- ITS FALSE NEIGHBOUR: 'it returns false'. Refute it at one input. -/
def rankWholeWrong : ChangeSpec := { name := "rankWhole", fn := fun _ => fun
  | [d1, d2] => { results := [.lit (.bool false)], args := [d1, d2] }
  | _ => none }
def RankWholeWrongFalsely : Prop := rankWholeRow.holds Try.pinned (OpenSpec.ofChange rankWholeWrong)

/-- 'carousellaw19.LabelsWhole': WHATEVER THE INPUT: true; the input reads as it did. -/
def labelsWholeSpec : ChangeSpec := { name := "labelsWhole", fn := fun _ => fun
  | [d1, d2] => { results := [.lit (.bool true)], args := [d1, d2] }
  | _ => none }
def labelsWholeRow : OpenClaim := { program := "ytjdbjahgimlhbaa", sum := "b27ef8c059522d62f5f8d98090309cda1125c0d35362f2b571fe8b40ca8cab30", func := "carousel/carousellaw19.LabelsWhole", spec := "labelsWhole", unfollowed := true, recurses := true, apart := false }
def LabelsWholeSaid : Prop := labelsWholeRow.holds Try.pinned (OpenSpec.ofChange labelsWholeSpec)

/-- ITS FALSE NEIGHBOUR: 'it returns false'. Refute it at one input. -/
def labelsWholeWrong : ChangeSpec := { name := "labelsWhole", fn := fun _ => fun
  | [d1, d2] => { results := [.lit (.bool false)], args := [d1, d2] }
  | _ => none }
def LabelsWholeWrongFalsely : Prop := labelsWholeRow.holds Try.pinned (OpenSpec.ofChange labelsWholeWrong)

/-- 'carousellaw17.BfsWhole': WHATEVER THE INPUT: true; the input reads as it did. -/
def bfsWholeSpec : ChangeSpec := { name := "bfsWhole", fn := fun _ => fun
  | [d1, d2] => { results := [.lit (.bool true)], args := [d1, d2] }
  | _ => none }
def bfsWholeRow : OpenClaim := { program := "ytjdbjahgimlhbaa", sum := "b27ef8c059522d62f5f8d98090309cda1125c0d35362f2b571fe8b40ca8cab30", func := "carousel/carousellaw17.BfsWhole", spec := "bfsWhole", unfollowed := true, recurses := true, apart := false }
def BfsWholeSaid : Prop := bfsWholeRow.holds Try.pinned (OpenSpec.ofChange bfsWholeSpec)

/-- ITS FALSE NEIGHBOUR: 'it returns false'. Refute it at one input. -/
def bfsWholeWrong : ChangeSpec := { name := "bfsWhole", fn := fun _ => fun
  | [d1, d2] => { results := [.lit (.bool false)], args := [d1, d2] }
  | _ => none }
def BfsWholeWrongFalsely : Prop := bfsWholeRow.holds Try.pinned (OpenSpec.ofChange bfsWholeWrong)

/-- 'carousellaw20.CoresWhole': WHATEVER THE INPUT: true; the input reads as it did. -/
def coresWholeSpec : ChangeSpec := { name := "coresWhole", fn := fun _ => fun
  | [d1, d2] => { results := [.lit (.bool true)], args := [d1, d2] }
  | _ => none }
def coresWholeRow : OpenClaim := { program := "ytjdbjahgimlhbaa", sum := "b27ef8c059522d62f5f8d98090309cda1125c0d35362f2b571fe8b40ca8cab30", func := "carousel/carousellaw20.CoresWhole", spec := "coresWhole", unfollowed := true, recurses := true, apart := false }
def CoresWholeSaid : Prop := coresWholeRow.holds Try.pinned (OpenSpec.ofChange coresWholeSpec)

/-- ITS FALSE NEIGHBOUR: 'it returns false'. Refute it at one input. -/
def coresWholeWrong : ChangeSpec := { name := "coresWhole", fn := fun _ => fun
  | [d1, d2] => { results := [.lit (.bool false)], args := [d1, d2] }
  | _ => none }
def CoresWholeWrongFalsely : Prop := coresWholeRow.holds Try.pinned (OpenSpec.ofChange coresWholeWrong)

/- THE SECOND FORM. 'bulk': how many values and letters a reading holds, each counted each time it is reached (what is shared counts as often as it is met; a slice's spare places count too). A statement '..UptoSaid' is the law's where the arguments, and the package variables that the reading takes, are together of bulk at most 1048576: NARROWER than '..Said'. Prove '..Said' where nothing that the law and all that it calls make is longer than what came in: it says more and counts as full. Else prove '..UptoSaid'. A law counts once. -/
mutual
def uptoBulk {H : Type} : DataW H → Nat
  | .lit (.string bytes) => bytes.length + 1
  | .lit _ => 1
  | .nil => 1
  | .ptr d => uptoBulk d + 1
  | .slice elems spare => uptoBulkAll elems + uptoBulkAll spare + 1
  | .agg parts => uptoBulkAll parts + 1
  | .iface _ d => uptoBulk d + 1
  | .map entries => uptoBulkEntries entries + 1
  | .held _ => 1
def uptoBulkAll {H : Type} : List (DataW H) → Nat
  | [] => 0
  | d :: r => uptoBulk d + uptoBulkAll r
def uptoBulkEntries {H : Type} : List (Lit × DataW H) → Nat
  | [] => 0
  | x :: r => uptoBulkEntry x + uptoBulkEntries r
def uptoBulkEntry {H : Type} : Lit × DataW H → Nat
  | (.string bytes, d) => bytes.length + uptoBulk d + 1
  | (_, d) => uptoBulk d + 1
 end
def uptoSmall : (H : Type) → List (DataW H) → Bool := fun _ ds => decide (uptoBulkAll ds ≤ 1048576)
def OpenSpec.upto (s : _root_.Go.ChangeSpec) : _root_.Go.OpenSpec := { _root_.Go.OpenSpec.ofChange s with cond := some uptoSmall }

/-- 'carousellaw18.RankShare', WHERE WHAT IT READS IS OF BULK AT MOST 1048576: true; the input reads as it did. -/
def rankShareUptoRow : OpenClaim := { program := "ytjdbjahgimlhbaa", sum := "b27ef8c059522d62f5f8d98090309cda1125c0d35362f2b571fe8b40ca8cab30", func := "carousel/carousellaw18.RankShare", spec := "rankShare", unfollowed := true, recurses := true, apart := false, narrowed := true }
def RankShareUptoSaid : Prop := rankShareUptoRow.holds Try.pinned (OpenSpec.upto rankShareSpec)

/-- 'carousellaw18.RankTwice', WHERE WHAT IT READS IS OF BULK AT MOST 1048576: true; the input reads as it did. -/
def rankTwiceUptoRow : OpenClaim := { program := "ytjdbjahgimlhbaa", sum := "b27ef8c059522d62f5f8d98090309cda1125c0d35362f2b571fe8b40ca8cab30", func := "carousel/carousellaw18.RankTwice", spec := "rankTwice", unfollowed := true, recurses := true, apart := false, narrowed := true }
def RankTwiceUptoSaid : Prop := rankTwiceUptoRow.holds Try.pinned (OpenSpec.upto rankTwiceSpec)

/-- 'carousellaw19.LabelsDown', WHERE WHAT IT READS IS OF BULK AT MOST 1048576: true; the input reads as it did. -/
def labelsDownUptoRow : OpenClaim := { program := "ytjdbjahgimlhbaa", sum := "b27ef8c059522d62f5f8d98090309cda1125c0d35362f2b571fe8b40ca8cab30", func := "carousel/carousellaw19.LabelsDown", spec := "labelsDown", unfollowed := true, recurses := true, apart := false, narrowed := true }
def LabelsDownUptoSaid : Prop := labelsDownUptoRow.holds Try.pinned (OpenSpec.upto labelsDownSpec)

/-- 'carousellaw19.LabelsTurned', WHERE WHAT IT READS IS OF BULK AT MOST 1048576: true; the input reads as it did. -/
def labelsTurnedUptoRow : OpenClaim := { program := "ytjdbjahgimlhbaa", sum := "b27ef8c059522d62f5f8d98090309cda1125c0d35362f2b571fe8b40ca8cab30", func := "carousel/carousellaw19.LabelsTurned", spec := "labelsTurned", unfollowed := true, recurses := true, apart := false, narrowed := true }
def LabelsTurnedUptoSaid : Prop := labelsTurnedUptoRow.holds Try.pinned (OpenSpec.upto labelsTurnedSpec)

/-- 'carousellaw17.BfsOften', WHERE WHAT IT READS IS OF BULK AT MOST 1048576: true; the input reads as it did. -/
def bfsOftenUptoRow : OpenClaim := { program := "ytjdbjahgimlhbaa", sum := "b27ef8c059522d62f5f8d98090309cda1125c0d35362f2b571fe8b40ca8cab30", func := "carousel/carousellaw17.BfsOften", spec := "bfsOften", unfollowed := true, recurses := true, apart := false, narrowed := true }
def BfsOftenUptoSaid : Prop := bfsOftenUptoRow.holds Try.pinned (OpenSpec.upto bfsOftenSpec)

/-- 'carousellaw20.CoresGone', WHERE WHAT IT READS IS OF BULK AT MOST 1048576: true; the input reads as it did. -/
def coresGoneUptoRow : OpenClaim := { program := "ytjdbjahgimlhbaa", sum := "b27ef8c059522d62f5f8d98090309cda1125c0d35362f2b571fe8b40ca8cab30", func := "carousel/carousellaw20.CoresGone", spec := "coresGone", unfollowed := true, recurses := true, apart := false, narrowed := true }
def CoresGoneUptoSaid : Prop := coresGoneUptoRow.holds Try.pinned (OpenSpec.upto coresGoneSpec)

/-- 'carousellaw20.CoresCount', WHERE WHAT IT READS IS OF BULK AT MOST 1048576: true; the input reads as it did. -/
def coresCountUptoRow : OpenClaim := { program := "ytjdbjahgimlhbaa", sum := "b27ef8c059522d62f5f8d98090309cda1125c0d35362f2b571fe8b40ca8cab30", func := "carousel/carousellaw20.CoresCount", spec := "coresCount", unfollowed := true, recurses := true, apart := false, narrowed := true }
def CoresCountUptoSaid : Prop := coresCountUptoRow.holds Try.pinned (OpenSpec.upto coresCountSpec)

/-- 'carousellaw21.KernelsNone', WHERE WHAT IT READS IS OF BULK AT MOST 1048576: true; the input reads as it did. -/
def kernelsNoneUptoRow : OpenClaim := { program := "ytjdbjahgimlhbaa", sum := "b27ef8c059522d62f5f8d98090309cda1125c0d35362f2b571fe8b40ca8cab30", func := "carousel/carousellaw21.KernelsNone", spec := "kernelsNone", unfollowed := true, recurses := true, apart := false, narrowed := true }
def KernelsNoneUptoSaid : Prop := kernelsNoneUptoRow.holds Try.pinned (OpenSpec.upto kernelsNoneSpec)

/-- 'carousellaw21.KernelsParts', WHERE WHAT IT READS IS OF BULK AT MOST 1048576: true; the input reads as it did. -/
def kernelsPartsUptoRow : OpenClaim := { program := "ytjdbjahgimlhbaa", sum := "b27ef8c059522d62f5f8d98090309cda1125c0d35362f2b571fe8b40ca8cab30", func := "carousel/carousellaw21.KernelsParts", spec := "kernelsParts", unfollowed := true, recurses := true, apart := false, narrowed := true }
def KernelsPartsUptoSaid : Prop := kernelsPartsUptoRow.holds Try.pinned (OpenSpec.upto kernelsPartsSpec)

/-- 'carousellaw18.RankWhole', WHERE WHAT IT READS IS OF BULK AT MOST 1048576: true; the input reads as it did. -/
def rankWholeUptoRow : OpenClaim := { program := "ytjdbjahgimlhbaa", sum := "b27ef8c059522d62f5f8d98090309cda1125c0d35362f2b571fe8b40ca8cab30", func := "carousel/carousellaw18.RankWhole", spec := "rankWhole", unfollowed := true, recurses := true, apart := false, narrowed := true }
def RankWholeUptoSaid : Prop := rankWholeUptoRow.holds Try.pinned (OpenSpec.upto rankWholeSpec)

/-- 'carousellaw19.LabelsWhole', WHERE WHAT IT READS IS OF BULK AT MOST 1048576: true; the input reads as it did. -/
def labelsWholeUptoRow : OpenClaim := { program := "ytjdbjahgimlhbaa", sum := "b27ef8c059522d62f5f8d98090309cda1125c0d35362f2b571fe8b40ca8cab30", func := "carousel/carousellaw19.LabelsWhole", spec := "labelsWhole", unfollowed := true, recurses := true, apart := false, narrowed := true }
def LabelsWholeUptoSaid : Prop := labelsWholeUptoRow.holds Try.pinned (OpenSpec.upto labelsWholeSpec)

/-- 'carousellaw17.BfsWhole', WHERE WHAT IT READS IS OF BULK AT MOST 1048576: true; the input reads as it did. -/
def bfsWholeUptoRow : OpenClaim := { program := "ytjdbjahgimlhbaa", sum := "b27ef8c059522d62f5f8d98090309cda1125c0d35362f2b571fe8b40ca8cab30", func := "carousel/carousellaw17.BfsWhole", spec := "bfsWhole", unfollowed := true, recurses := true, apart := false, narrowed := true }
def BfsWholeUptoSaid : Prop := bfsWholeUptoRow.holds Try.pinned (OpenSpec.upto bfsWholeSpec)

/-- 'carousellaw20.CoresWhole', WHERE WHAT IT READS IS OF BULK AT MOST 1048576: true; the input reads as it did. -/
def coresWholeUptoRow : OpenClaim := { program := "ytjdbjahgimlhbaa", sum := "b27ef8c059522d62f5f8d98090309cda1125c0d35362f2b571fe8b40ca8cab30", func := "carousel/carousellaw20.CoresWhole", spec := "coresWhole", unfollowed := true, recurses := true, apart := false, narrowed := true }
def CoresWholeUptoSaid : Prop := coresWholeUptoRow.holds Try.pinned (OpenSpec.upto coresWholeSpec)

end Rows
end Go.Proofs.Ytjdbjahgimlhbaa
