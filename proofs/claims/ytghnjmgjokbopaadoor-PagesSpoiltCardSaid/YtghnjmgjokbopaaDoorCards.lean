/-
  DERIVED. GIVEN WITH THE SEED: THE CARDS: each row of YtghnjmgjokbopaaDoorRows.lean that lists a variable, with what it lists TIED to the program's text (the seventh form; the later family's looks); each row that meets fmt, with fmt's text TOLD by the authors' own Lean function (tested against real Go, not proved from fmt's source: count such statements apart). THE CARD IS WHAT COUNTS. Prove the row's statement (the work); the ties are given (YtghnjmgjokbopaaDoorTie.lean); close each card by the builder's one call (the guide's Derived/Test/ToyasCard.lean, 'card_holds'). Laid BY PROGRAM, IN A SANDBOX (cutbox-door.mjs). By AI agents, Wed Nov 11 2026. No macro, syntax, notation, axiom, sorry.
-/
import Derived.Test.YtghnjmgjokbopaaDoorRows
import GoSem.ClaimSeven
namespace Go.Proofs.YtghnjmgjokbopaaDoor
namespace Rows

/-- THE TIED CARD OF 'carousellaw05.PagesEncode'. -/
def pagesEncodeCard : Claim7 := { stood := { row := pagesEncodeRow, standIns := [], harness := (true, "4a09b597dca95e07f3515522907098435f81d877c98522babcd12fd897741751"), looks := false }, kinds := [], alts := [], laidByText := true, laidKinds := [.data, .pinned], laidTests := true, laidLooks := .later }
def PagesEncodeCardSaid : Prop := Claim7.holds Tryd.pinned (.plain (OpenSpec.ofChange pagesEncodeSpec)) pagesEncodeCard

/-- THE TIED CARD OF 'carousellaw05.PagesDecode'. -/
def pagesDecodeCard : Claim7 := { stood := { row := pagesDecodeRow, standIns := [], harness := (true, "4a09b597dca95e07f3515522907098435f81d877c98522babcd12fd897741751"), looks := false }, kinds := [], alts := [], laidByText := true, laidKinds := [.data, .pinned], laidTests := true, laidLooks := .later }
def PagesDecodeCardSaid : Prop := Claim7.holds Tryd.pinned (.plain (OpenSpec.ofChange pagesDecodeSpec)) pagesDecodeCard

/-- THE TIED CARD OF 'carousellaw05.PagesBack'. -/
def pagesBackCard : Claim7 := { stood := { row := pagesBackRow, standIns := [], harness := (true, "4a09b597dca95e07f3515522907098435f81d877c98522babcd12fd897741751"), looks := false }, kinds := [], alts := [], laidByText := true, laidKinds := [.data, .pinned], laidTests := true, laidLooks := .later }
def PagesBackCardSaid : Prop := Claim7.holds Tryd.pinned (.plain (OpenSpec.ofChange pagesBackSpec)) pagesBackCard

/-- THE TIED CARD OF 'carousellaw05.PagesWay'. -/
def pagesWayCard : Claim7 := { stood := { row := pagesWayRow, standIns := [], harness := (true, "4a09b597dca95e07f3515522907098435f81d877c98522babcd12fd897741751"), looks := false }, kinds := [], alts := [], laidByText := true, laidKinds := [.data, .pinned], laidTests := true, laidLooks := .later }
def PagesWayCardSaid : Prop := Claim7.holds Tryd.pinned (.plain (OpenSpec.ofChange pagesWaySpec)) pagesWayCard

/-- THE TIED CARD OF 'carousellaw05.PagesBurst'. -/
def pagesBurstCard : Claim7 := { stood := { row := pagesBurstRow, standIns := [], harness := (true, "4a09b597dca95e07f3515522907098435f81d877c98522babcd12fd897741751"), looks := false }, kinds := [], alts := [], laidByText := true, laidKinds := [.data, .pinned], laidTests := true, laidLooks := .later }
def PagesBurstCardSaid : Prop := Claim7.holds Tryd.pinned (.plain (OpenSpec.ofChange pagesBurstSpec)) pagesBurstCard

/-- THE TIED CARD OF 'carousellaw05.PagesSpoilt'. -/
def pagesSpoiltCard : Claim7 := { stood := { row := pagesSpoiltRow, standIns := [], harness := (true, "4a09b597dca95e07f3515522907098435f81d877c98522babcd12fd897741751"), looks := false }, kinds := [], alts := [], laidByText := true, laidKinds := [.data, .pinned], laidTests := true, laidLooks := .later }
def PagesSpoiltCardSaid : Prop := Claim7.holds Tryd.pinned (.plain (OpenSpec.ofChange pagesSpoiltSpec)) pagesSpoiltCard

/-- THE SECOND FORM's CARD OF 'carousellaw05.PagesEncode'. -/
def pagesEncodeUptoCard : Claim7 := { stood := { row := pagesEncodeUptoRow, standIns := [], harness := (true, "4a09b597dca95e07f3515522907098435f81d877c98522babcd12fd897741751"), looks := false }, kinds := [], alts := [], laidByText := true, laidKinds := [.data, .pinned], laidTests := true, laidLooks := .later }
def PagesEncodeUptoCardSaid : Prop := Claim7.holds Tryd.pinned (.plain (OpenSpec.upto pagesEncodeSpec)) pagesEncodeUptoCard

/-- THE SECOND FORM's CARD OF 'carousellaw05.PagesDecode'. -/
def pagesDecodeUptoCard : Claim7 := { stood := { row := pagesDecodeUptoRow, standIns := [], harness := (true, "4a09b597dca95e07f3515522907098435f81d877c98522babcd12fd897741751"), looks := false }, kinds := [], alts := [], laidByText := true, laidKinds := [.data, .pinned], laidTests := true, laidLooks := .later }
def PagesDecodeUptoCardSaid : Prop := Claim7.holds Tryd.pinned (.plain (OpenSpec.upto pagesDecodeSpec)) pagesDecodeUptoCard

/-- THE SECOND FORM's CARD OF 'carousellaw05.PagesBack'. -/
def pagesBackUptoCard : Claim7 := { stood := { row := pagesBackUptoRow, standIns := [], harness := (true, "4a09b597dca95e07f3515522907098435f81d877c98522babcd12fd897741751"), looks := false }, kinds := [], alts := [], laidByText := true, laidKinds := [.data, .pinned], laidTests := true, laidLooks := .later }
def PagesBackUptoCardSaid : Prop := Claim7.holds Tryd.pinned (.plain (OpenSpec.upto pagesBackSpec)) pagesBackUptoCard

/-- THE SECOND FORM's CARD OF 'carousellaw05.PagesWay'. -/
def pagesWayUptoCard : Claim7 := { stood := { row := pagesWayUptoRow, standIns := [], harness := (true, "4a09b597dca95e07f3515522907098435f81d877c98522babcd12fd897741751"), looks := false }, kinds := [], alts := [], laidByText := true, laidKinds := [.data, .pinned], laidTests := true, laidLooks := .later }
def PagesWayUptoCardSaid : Prop := Claim7.holds Tryd.pinned (.plain (OpenSpec.upto pagesWaySpec)) pagesWayUptoCard

/-- THE SECOND FORM's CARD OF 'carousellaw05.PagesBurst'. -/
def pagesBurstUptoCard : Claim7 := { stood := { row := pagesBurstUptoRow, standIns := [], harness := (true, "4a09b597dca95e07f3515522907098435f81d877c98522babcd12fd897741751"), looks := false }, kinds := [], alts := [], laidByText := true, laidKinds := [.data, .pinned], laidTests := true, laidLooks := .later }
def PagesBurstUptoCardSaid : Prop := Claim7.holds Tryd.pinned (.plain (OpenSpec.upto pagesBurstSpec)) pagesBurstUptoCard

/-- THE SECOND FORM's CARD OF 'carousellaw05.PagesSpoilt'. -/
def pagesSpoiltUptoCard : Claim7 := { stood := { row := pagesSpoiltUptoRow, standIns := [], harness := (true, "4a09b597dca95e07f3515522907098435f81d877c98522babcd12fd897741751"), looks := false }, kinds := [], alts := [], laidByText := true, laidKinds := [.data, .pinned], laidTests := true, laidLooks := .later }
def PagesSpoiltUptoCardSaid : Prop := Claim7.holds Tryd.pinned (.plain (OpenSpec.upto pagesSpoiltSpec)) pagesSpoiltUptoCard
end Rows
end Go.Proofs.YtghnjmgjokbopaaDoor
