/-
  NARROWER THAN 'FOR EVERY INPUT', by the rows' own cells (each row's printed sentence says how): PagesEncode: laid · PagesDecode: laid · PagesBack: laid · PagesWay: laid · PagesBurst: laid · PagesSpoilt: laid.
  DERIVED. THE GIVEN ROWS OF THIS SEAT. 6 by the template 'for every input the law returns true; each argument reads behind the call as it read before'; 0 by the template 'total and deterministic' (their statements: YtghnjmgjokbopaaDoorTotals.lean).
  GIVEN WITH THE SEED: the statements are not yours to turn. If you find one false, say at which input.
  Laid BY PROGRAM, IN A SANDBOX (cutbox-rows.mjs): the forced cells as the released guide's own fill.sh prints them over the translation 8df4deefd69f0d89… (all of the seat's roots in one cut). By AI agents, Wed Nov 11 2026. No macro, syntax, notation, axiom, sorry.
-/
import Derived.Test.YtghnjmgjokbopaaDoorChecked
import GoSem.PinnedTables
import GoSem.Claim
import GoSem.ClaimJoined
import GoSem.ClaimMapViews
import Derived.JoinedTies
import Derived.KernelRfl
namespace Go.Proofs.YtghnjmgjokbopaaDoor
/- THE CELL 'sum', in the pinned program and in every row, IS THE sha256 OF THE DUMP (.gsa) THAT YtghnjmgjokbopaaDoorProg.lean LOADS. Nothing in Lean hashes anything: it is a label: what it is worth is what the hold of that sum in a sandbox is worth. -/
noncomputable def Tryd.pinned : Pinned := { name := "ytghnjmgjokbopaadoor", sum := "8df4deefd69f0d89d8533c5f8d700e793a19dea114f76a596f6b7ffc45a55b1e", checked := Tryd.checked }
namespace Rows
def none {H : Type} : Left H := { results := [], args := [] }

/- WHAT THE LISTED PACKAGE-LEVEL VARIABLES READ AS WHEN THE CALL BEGINS. Each datum BY PROGRAM (the guide's laid-datum.mjs) off the statement by which the dump's own 'gosem.cut.vars' lays the variable. In a bare row this is a premise. The card (YtghnjmgjokbopaaDoorCards.lean) ties it to the program's text. -/
def laid_unicode_utf8_acceptRanges {H : Type} : DataW H := .agg [.agg [.lit (.int .u8 128), .lit (.int .u8 191)], .agg [.lit (.int .u8 160), .lit (.int .u8 191)], .agg [.lit (.int .u8 128), .lit (.int .u8 159)], .agg [.lit (.int .u8 144), .lit (.int .u8 191)], .agg [.lit (.int .u8 128), .lit (.int .u8 143)], .agg [.lit (.int .u8 0), .lit (.int .u8 0)], .agg [.lit (.int .u8 0), .lit (.int .u8 0)], .agg [.lit (.int .u8 0), .lit (.int .u8 0)], .agg [.lit (.int .u8 0), .lit (.int .u8 0)], .agg [.lit (.int .u8 0), .lit (.int .u8 0)], .agg [.lit (.int .u8 0), .lit (.int .u8 0)], .agg [.lit (.int .u8 0), .lit (.int .u8 0)], .agg [.lit (.int .u8 0), .lit (.int .u8 0)], .agg [.lit (.int .u8 0), .lit (.int .u8 0)], .agg [.lit (.int .u8 0), .lit (.int .u8 0)], .agg [.lit (.int .u8 0), .lit (.int .u8 0)]]
/-- One of Go's own tables, pinned by name: the form's constant. -/
def laid_unicode_utf8_first : DataW Unit := Go.Pinned.utf8First

/-- 'carousellaw05.PagesEncode': WHATEVER THE INPUT: true; the input reads as it did. -/
def pagesEncodeSpec : ChangeSpec := { name := "pagesEncode", fn := fun _ => fun
  | [d] => { results := [.lit (.bool true)], args := [d] }
  | _ => none }
def pagesEncodeRow : OpenClaim := { program := "ytghnjmgjokbopaadoor", sum := "8df4deefd69f0d89d8533c5f8d700e793a19dea114f76a596f6b7ffc45a55b1e", func := "carousel/carousellaw05.PagesEncode", spec := "pagesEncode", inPlace := ["internal/abi.NoEscape", "internal/bytealg.MakeNoZero", "internal/bytealg.IndexByteString", "internal/bytealg.IndexString"], unfollowed := true, recurses := true, named := ["unicode/utf8.first", "unicode/utf8.acceptRanges", "internal/bytealg.MaxLen"], apart := false, laid := [("unicode/utf8.acceptRanges", laid_unicode_utf8_acceptRanges), ("unicode/utf8.first", laid_unicode_utf8_first)] }
def PagesEncodeSaid : Prop := pagesEncodeRow.holds Tryd.pinned (OpenSpec.ofChange pagesEncodeSpec)

/-- ITS FALSE NEIGHBOUR: 'it returns false'. Refute it at one input. -/
def pagesEncodeWrong : ChangeSpec := { name := "pagesEncode", fn := fun _ => fun
  | [d] => { results := [.lit (.bool false)], args := [d] }
  | _ => none }
def PagesEncodeWrongFalsely : Prop := pagesEncodeRow.holds Tryd.pinned (OpenSpec.ofChange pagesEncodeWrong)

/-- 'carousellaw05.PagesDecode': WHATEVER THE INPUT: true; the input reads as it did. -/
def pagesDecodeSpec : ChangeSpec := { name := "pagesDecode", fn := fun _ => fun
  | [d1, d2] => { results := [.lit (.bool true)], args := [d1, d2] }
  | _ => none }
def pagesDecodeRow : OpenClaim := { program := "ytghnjmgjokbopaadoor", sum := "8df4deefd69f0d89d8533c5f8d700e793a19dea114f76a596f6b7ffc45a55b1e", func := "carousel/carousellaw05.PagesDecode", spec := "pagesDecode", inPlace := ["internal/bytealg.IndexByteString", "internal/bytealg.IndexString", "internal/abi.NoEscape", "internal/bytealg.MakeNoZero"], unfollowed := true, recurses := true, named := ["unicode/utf8.first", "unicode/utf8.acceptRanges", "internal/bytealg.MaxLen"], apart := false, laid := [("unicode/utf8.acceptRanges", laid_unicode_utf8_acceptRanges), ("unicode/utf8.first", laid_unicode_utf8_first)] }
def PagesDecodeSaid : Prop := pagesDecodeRow.holds Tryd.pinned (OpenSpec.ofChange pagesDecodeSpec)

/-- ITS FALSE NEIGHBOUR: 'it returns false'. Refute it at one input. -/
def pagesDecodeWrong : ChangeSpec := { name := "pagesDecode", fn := fun _ => fun
  | [d1, d2] => { results := [.lit (.bool false)], args := [d1, d2] }
  | _ => none }
def PagesDecodeWrongFalsely : Prop := pagesDecodeRow.holds Tryd.pinned (OpenSpec.ofChange pagesDecodeWrong)

/-- 'carousellaw05.PagesBack': WHATEVER THE INPUT: true; the input reads as it did. -/
def pagesBackSpec : ChangeSpec := { name := "pagesBack", fn := fun _ => fun
  | [d] => { results := [.lit (.bool true)], args := [d] }
  | _ => none }
def pagesBackRow : OpenClaim := { program := "ytghnjmgjokbopaadoor", sum := "8df4deefd69f0d89d8533c5f8d700e793a19dea114f76a596f6b7ffc45a55b1e", func := "carousel/carousellaw05.PagesBack", spec := "pagesBack", inPlace := ["internal/abi.NoEscape", "internal/bytealg.MakeNoZero", "internal/bytealg.IndexByteString", "internal/bytealg.IndexString"], unfollowed := true, recurses := true, named := ["unicode/utf8.first", "unicode/utf8.acceptRanges", "internal/bytealg.MaxLen"], apart := false, laid := [("unicode/utf8.acceptRanges", laid_unicode_utf8_acceptRanges), ("unicode/utf8.first", laid_unicode_utf8_first)] }
def PagesBackSaid : Prop := pagesBackRow.holds Tryd.pinned (OpenSpec.ofChange pagesBackSpec)

/-- ITS FALSE NEIGHBOUR: 'it returns false'. Refute it at one input. -/
def pagesBackWrong : ChangeSpec := { name := "pagesBack", fn := fun _ => fun
  | [d] => { results := [.lit (.bool false)], args := [d] }
  | _ => none }
def PagesBackWrongFalsely : Prop := pagesBackRow.holds Tryd.pinned (OpenSpec.ofChange pagesBackWrong)

/-- 'carousellaw05.PagesWay': WHATEVER THE INPUT: true; the input reads as it did. -/
def pagesWaySpec : ChangeSpec := { name := "pagesWay", fn := fun _ => fun
  | [d1, d2] => { results := [.lit (.bool true)], args := [d1, d2] }
  | _ => none }
def pagesWayRow : OpenClaim := { program := "ytghnjmgjokbopaadoor", sum := "8df4deefd69f0d89d8533c5f8d700e793a19dea114f76a596f6b7ffc45a55b1e", func := "carousel/carousellaw05.PagesWay", spec := "pagesWay", inPlace := ["internal/bytealg.IndexByteString", "internal/bytealg.IndexString", "internal/abi.NoEscape", "internal/bytealg.MakeNoZero"], unfollowed := true, recurses := true, named := ["unicode/utf8.first", "unicode/utf8.acceptRanges", "internal/bytealg.MaxLen"], apart := false, laid := [("unicode/utf8.acceptRanges", laid_unicode_utf8_acceptRanges), ("unicode/utf8.first", laid_unicode_utf8_first)] }
def PagesWaySaid : Prop := pagesWayRow.holds Tryd.pinned (OpenSpec.ofChange pagesWaySpec)

/-- ITS FALSE NEIGHBOUR: 'it returns false'. Refute it at one input. -/
def pagesWayWrong : ChangeSpec := { name := "pagesWay", fn := fun _ => fun
  | [d1, d2] => { results := [.lit (.bool false)], args := [d1, d2] }
  | _ => none }
def PagesWayWrongFalsely : Prop := pagesWayRow.holds Tryd.pinned (OpenSpec.ofChange pagesWayWrong)

/-- 'carousellaw05.PagesBurst': WHATEVER THE INPUT: true; the input reads as it did. -/
def pagesBurstSpec : ChangeSpec := { name := "pagesBurst", fn := fun _ => fun
  | [d1, d2, d3] => { results := [.lit (.bool true)], args := [d1, d2, d3] }
  | _ => none }
def pagesBurstRow : OpenClaim := { program := "ytghnjmgjokbopaadoor", sum := "8df4deefd69f0d89d8533c5f8d700e793a19dea114f76a596f6b7ffc45a55b1e", func := "carousel/carousellaw05.PagesBurst", spec := "pagesBurst", inPlace := ["internal/abi.NoEscape", "internal/bytealg.MakeNoZero", "internal/bytealg.IndexByteString", "internal/bytealg.IndexString"], unfollowed := true, recurses := true, named := ["unicode/utf8.first", "unicode/utf8.acceptRanges", "internal/bytealg.MaxLen"], apart := false, laid := [("unicode/utf8.acceptRanges", laid_unicode_utf8_acceptRanges), ("unicode/utf8.first", laid_unicode_utf8_first)] }
def PagesBurstSaid : Prop := pagesBurstRow.holds Tryd.pinned (OpenSpec.ofChange pagesBurstSpec)

/-- ITS FALSE NEIGHBOUR: 'it returns false'. Refute it at one input. -/
def pagesBurstWrong : ChangeSpec := { name := "pagesBurst", fn := fun _ => fun
  | [d1, d2, d3] => { results := [.lit (.bool false)], args := [d1, d2, d3] }
  | _ => none }
def PagesBurstWrongFalsely : Prop := pagesBurstRow.holds Tryd.pinned (OpenSpec.ofChange pagesBurstWrong)

/-- 'carousellaw05.PagesSpoilt': WHATEVER THE INPUT: true; the input reads as it did. -/
def pagesSpoiltSpec : ChangeSpec := { name := "pagesSpoilt", fn := fun _ => fun
  | [d1, d2, d3] => { results := [.lit (.bool true)], args := [d1, d2, d3] }
  | _ => none }
def pagesSpoiltRow : OpenClaim := { program := "ytghnjmgjokbopaadoor", sum := "8df4deefd69f0d89d8533c5f8d700e793a19dea114f76a596f6b7ffc45a55b1e", func := "carousel/carousellaw05.PagesSpoilt", spec := "pagesSpoilt", inPlace := ["internal/abi.NoEscape", "internal/bytealg.MakeNoZero", "internal/bytealg.IndexByteString", "internal/bytealg.IndexString"], unfollowed := true, recurses := true, named := ["unicode/utf8.first", "unicode/utf8.acceptRanges", "internal/bytealg.MaxLen"], apart := false, laid := [("unicode/utf8.acceptRanges", laid_unicode_utf8_acceptRanges), ("unicode/utf8.first", laid_unicode_utf8_first)] }
def PagesSpoiltSaid : Prop := pagesSpoiltRow.holds Tryd.pinned (OpenSpec.ofChange pagesSpoiltSpec)

/-- ITS FALSE NEIGHBOUR: 'it returns false'. Refute it at one input. -/
def pagesSpoiltWrong : ChangeSpec := { name := "pagesSpoilt", fn := fun _ => fun
  | [d1, d2, d3] => { results := [.lit (.bool false)], args := [d1, d2, d3] }
  | _ => none }
def PagesSpoiltWrongFalsely : Prop := pagesSpoiltRow.holds Tryd.pinned (OpenSpec.ofChange pagesSpoiltWrong)

/- THE SECOND FORM. 'bulk': how many values and letters a reading holds, each counted each time it is reached (what is shared counts as often as it is met; a slice's spare places count too). A statement '..UptoSaid' is the law's where the arguments, and the package variables that the reading takes, are together of bulk at most 1048576: NARROWER than '..Said'. Prove '..Said' where nothing that the law and all that it calls make is longer than what came in: it says more and counts as full. Else prove '..UptoSaid'. A law counts once. -/
mutual
def uptoBulk {H : Type} : DataW H → Nat
  | .lit (.string bytes) => bytes.length + 1
  | .lit _ => 1
  | .nil => 1
  | .ptr d => uptoBulk d + 1
  | .slice elems spare => uptoBulkAll elems + uptoBulkAll spare + 1
  | .agg parts => uptoBulkAll parts + 1
  | .iface _ d => uptoBulk d + 1
  | .map entries => uptoBulkEntries entries + 1
  | .held _ => 1
def uptoBulkAll {H : Type} : List (DataW H) → Nat
  | [] => 0
  | d :: r => uptoBulk d + uptoBulkAll r
def uptoBulkEntries {H : Type} : List (Lit × DataW H) → Nat
  | [] => 0
  | x :: r => uptoBulkEntry x + uptoBulkEntries r
def uptoBulkEntry {H : Type} : Lit × DataW H → Nat
  | (.string bytes, d) => bytes.length + uptoBulk d + 1
  | (_, d) => uptoBulk d + 1
 end
def uptoSmall : (H : Type) → List (DataW H) → Bool := fun _ ds => decide (uptoBulkAll ds ≤ 1048576)
def OpenSpec.upto (s : _root_.Go.ChangeSpec) : _root_.Go.OpenSpec := { _root_.Go.OpenSpec.ofChange s with cond := some uptoSmall }

/-- 'carousellaw05.PagesEncode', WHERE WHAT IT READS IS OF BULK AT MOST 1048576: true; the input reads as it did. -/
def pagesEncodeUptoRow : OpenClaim := { program := "ytghnjmgjokbopaadoor", sum := "8df4deefd69f0d89d8533c5f8d700e793a19dea114f76a596f6b7ffc45a55b1e", func := "carousel/carousellaw05.PagesEncode", spec := "pagesEncode", inPlace := ["internal/abi.NoEscape", "internal/bytealg.MakeNoZero", "internal/bytealg.IndexByteString", "internal/bytealg.IndexString"], unfollowed := true, recurses := true, named := ["unicode/utf8.first", "unicode/utf8.acceptRanges", "internal/bytealg.MaxLen"], apart := false, laid := [("unicode/utf8.acceptRanges", laid_unicode_utf8_acceptRanges), ("unicode/utf8.first", laid_unicode_utf8_first)], narrowed := true }
def PagesEncodeUptoSaid : Prop := pagesEncodeUptoRow.holds Tryd.pinned (OpenSpec.upto pagesEncodeSpec)

/-- 'carousellaw05.PagesDecode', WHERE WHAT IT READS IS OF BULK AT MOST 1048576: true; the input reads as it did. -/
def pagesDecodeUptoRow : OpenClaim := { program := "ytghnjmgjokbopaadoor", sum := "8df4deefd69f0d89d8533c5f8d700e793a19dea114f76a596f6b7ffc45a55b1e", func := "carousel/carousellaw05.PagesDecode", spec := "pagesDecode", inPlace := ["internal/bytealg.IndexByteString", "internal/bytealg.IndexString", "internal/abi.NoEscape", "internal/bytealg.MakeNoZero"], unfollowed := true, recurses := true, named := ["unicode/utf8.first", "unicode/utf8.acceptRanges", "internal/bytealg.MaxLen"], apart := false, laid := [("unicode/utf8.acceptRanges", laid_unicode_utf8_acceptRanges), ("unicode/utf8.first", laid_unicode_utf8_first)], narrowed := true }
def PagesDecodeUptoSaid : Prop := pagesDecodeUptoRow.holds Tryd.pinned (OpenSpec.upto pagesDecodeSpec)

/-- 'carousellaw05.PagesBack', WHERE WHAT IT READS IS OF BULK AT MOST 1048576: true; the input reads as it did. -/
def pagesBackUptoRow : OpenClaim := { program := "ytghnjmgjokbopaadoor", sum := "8df4deefd69f0d89d8533c5f8d700e793a19dea114f76a596f6b7ffc45a55b1e", func := "carousel/carousellaw05.PagesBack", spec := "pagesBack", inPlace := ["internal/abi.NoEscape", "internal/bytealg.MakeNoZero", "internal/bytealg.IndexByteString", "internal/bytealg.IndexString"], unfollowed := true, recurses := true, named := ["unicode/utf8.first", "unicode/utf8.acceptRanges", "internal/bytealg.MaxLen"], apart := false, laid := [("unicode/utf8.acceptRanges", laid_unicode_utf8_acceptRanges), ("unicode/utf8.first", laid_unicode_utf8_first)], narrowed := true }
def PagesBackUptoSaid : Prop := pagesBackUptoRow.holds Tryd.pinned (OpenSpec.upto pagesBackSpec)

/-- 'carousellaw05.PagesWay', WHERE WHAT IT READS IS OF BULK AT MOST 1048576: true; the input reads as it did. -/
def pagesWayUptoRow : OpenClaim := { program := "ytghnjmgjokbopaadoor", sum := "8df4deefd69f0d89d8533c5f8d700e793a19dea114f76a596f6b7ffc45a55b1e", func := "carousel/carousellaw05.PagesWay", spec := "pagesWay", inPlace := ["internal/bytealg.IndexByteString", "internal/bytealg.IndexString", "internal/abi.NoEscape", "internal/bytealg.MakeNoZero"], unfollowed := true, recurses := true, named := ["unicode/utf8.first", "unicode/utf8.acceptRanges", "internal/bytealg.MaxLen"], apart := false, laid := [("unicode/utf8.acceptRanges", laid_unicode_utf8_acceptRanges), ("unicode/utf8.first", laid_unicode_utf8_first)], narrowed := true }
def PagesWayUptoSaid : Prop := pagesWayUptoRow.holds Tryd.pinned (OpenSpec.upto pagesWaySpec)

/-- 'carousellaw05.PagesBurst', WHERE WHAT IT READS IS OF BULK AT MOST 1048576: true; the input reads as it did. -/
def pagesBurstUptoRow : OpenClaim := { program := "ytghnjmgjokbopaadoor", sum := "8df4deefd69f0d89d8533c5f8d700e793a19dea114f76a596f6b7ffc45a55b1e", func := "carousel/carousellaw05.PagesBurst", spec := "pagesBurst", inPlace := ["internal/abi.NoEscape", "internal/bytealg.MakeNoZero", "internal/bytealg.IndexByteString", "internal/bytealg.IndexString"], unfollowed := true, recurses := true, named := ["unicode/utf8.first", "unicode/utf8.acceptRanges", "internal/bytealg.MaxLen"], apart := false, laid := [("unicode/utf8.acceptRanges", laid_unicode_utf8_acceptRanges), ("unicode/utf8.first", laid_unicode_utf8_first)], narrowed := true }
def PagesBurstUptoSaid : Prop := pagesBurstUptoRow.holds Tryd.pinned (OpenSpec.upto pagesBurstSpec)

/-- 'carousellaw05.PagesSpoilt', WHERE WHAT IT READS IS OF BULK AT MOST 1048576: true; the input reads as it did. -/
def pagesSpoiltUptoRow : OpenClaim := { program := "ytghnjmgjokbopaadoor", sum := "8df4deefd69f0d89d8533c5f8d700e793a19dea114f76a596f6b7ffc45a55b1e", func := "carousel/carousellaw05.PagesSpoilt", spec := "pagesSpoilt", inPlace := ["internal/abi.NoEscape", "internal/bytealg.MakeNoZero", "internal/bytealg.IndexByteString", "internal/bytealg.IndexString"], unfollowed := true, recurses := true, named := ["unicode/utf8.first", "unicode/utf8.acceptRanges", "internal/bytealg.MaxLen"], apart := false, laid := [("unicode/utf8.acceptRanges", laid_unicode_utf8_acceptRanges), ("unicode/utf8.first", laid_unicode_utf8_first)], narrowed := true }
def PagesSpoiltUptoSaid : Prop := pagesSpoiltUptoRow.holds Tryd.pinned (OpenSpec.upto pagesSpoiltSpec)

end Rows
end Go.Proofs.YtghnjmgjokbopaaDoor
