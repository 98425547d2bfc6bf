/-
  DERIVED. GIVEN WITH THE SEED: THE CARDS: each row of YtkhbemmcegmdaaaGreatDoorRows.lean that lists a variable, with what it lists TIED to the program's text (the seventh form; the later family's looks); each row that meets fmt, with fmt's text TOLD by the authors' own Lean function (tested against real Go, not proved from fmt's source: count such statements apart). THE CARD IS WHAT COUNTS. Prove the row's statement (the work); the ties are given (YtkhbemmcegmdaaaGreatDoorTie.lean); close each card by the builder's one call (the guide's Derived/Test/ToyasCard.lean, 'card_holds'). Laid BY PROGRAM, IN A SANDBOX (cutbox-door.mjs). By AI agents, Wed Nov 11 2026. No macro, syntax, notation, axiom, sorry.
-/
import Derived.Test.YtkhbemmcegmdaaaGreatDoorRows
import GoSem.ClaimSeven
namespace Go.Proofs.YtkhbemmcegmdaaaGreatDoor
namespace Rows

/-- THE TIED CARD OF 'carousellaw07.CacheOldest'. -/
def cacheOldestCard : Claim7 := { stood := { row := cacheOldestRow, standIns := [], harness := (true, "b23b387701c56147577ea9f78c367987d96565d28f61feafb7f0f880ff21aab5"), looks := false }, kinds := [], alts := [], laidByText := true, laidKinds := [.data, .pinned], laidTests := true, laidLooks := .later }
def CacheOldestCardSaid : Prop := Claim7.holds Tryz.pinned (.plain (OpenSpec.ofChange cacheOldestSpec)) cacheOldestCard

/-- THE TIED CARD OF 'carousellaw07.CachePlay'. -/
def cachePlayCard : Claim7 := { stood := { row := cachePlayRow, standIns := [], harness := (true, "b23b387701c56147577ea9f78c367987d96565d28f61feafb7f0f880ff21aab5"), looks := false }, kinds := [], alts := [], laidByText := true, laidKinds := [.data, .pinned], laidTests := true, laidLooks := .later }
def CachePlayCardSaid : Prop := Claim7.holds Tryz.pinned (.plain (OpenSpec.ofChange cachePlaySpec)) cachePlayCard

/-- THE TIED CARD OF 'carousellaw07.CacheNone'. -/
def cacheNoneCard : Claim7 := { stood := { row := cacheNoneRow, standIns := [], harness := (true, "b23b387701c56147577ea9f78c367987d96565d28f61feafb7f0f880ff21aab5"), looks := false }, kinds := [], alts := [], laidByText := true, laidKinds := [.data, .pinned], laidTests := true, laidLooks := .later }
def CacheNoneCardSaid : Prop := Claim7.holds Tryz.pinned (.plain (OpenSpec.ofChange cacheNoneSpec)) cacheNoneCard

/-- THE TIED CARD OF 'carousellaw07.CacheSame'. -/
def cacheSameCard : Claim7 := { stood := { row := cacheSameRow, standIns := [], harness := (true, "b23b387701c56147577ea9f78c367987d96565d28f61feafb7f0f880ff21aab5"), looks := false }, kinds := [], alts := [], laidByText := true, laidKinds := [.data, .pinned], laidTests := true, laidLooks := .later }
def CacheSameCardSaid : Prop := Claim7.holds Tryz.pinned (.plain (OpenSpec.ofChange cacheSameSpec)) cacheSameCard

/-- THE TIED CARD OF 'carousellaw07.CacheStays'. -/
def cacheStaysCard : Claim7 := { stood := { row := cacheStaysRow, standIns := [], harness := (true, "b23b387701c56147577ea9f78c367987d96565d28f61feafb7f0f880ff21aab5"), looks := false }, kinds := [], alts := [], laidByText := true, laidKinds := [.data, .pinned], laidTests := true, laidLooks := .later }
def CacheStaysCardSaid : Prop := Claim7.holds Tryz.pinned (.plain (OpenSpec.ofChange cacheStaysSpec)) cacheStaysCard

/-- THE TIED CARD OF 'carousellaw07.CacheMost'. -/
def cacheMostCard : Claim7 := { stood := { row := cacheMostRow, standIns := [], harness := (true, "b23b387701c56147577ea9f78c367987d96565d28f61feafb7f0f880ff21aab5"), looks := false }, kinds := [], alts := [], laidByText := true, laidKinds := [.data, .pinned], laidTests := true, laidLooks := .later }
def CacheMostCardSaid : Prop := Claim7.holds Tryz.pinned (.plain (OpenSpec.ofChange cacheMostSpec)) cacheMostCard

/-- THE TIED CARD OF 'carousellaw07.CacheDrop'. -/
def cacheDropCard : Claim7 := { stood := { row := cacheDropRow, standIns := [], harness := (true, "b23b387701c56147577ea9f78c367987d96565d28f61feafb7f0f880ff21aab5"), looks := false }, kinds := [], alts := [], laidByText := true, laidKinds := [.data, .pinned], laidTests := true, laidLooks := .later }
def CacheDropCardSaid : Prop := Claim7.holds Tryz.pinned (.plain (OpenSpec.ofChange cacheDropSpec)) cacheDropCard

/-- THE TIED CARD OF 'carousellaw15.SpillPages'. -/
def spillPagesCard : Claim7 := { stood := { row := spillPagesRow, standIns := [], harness := (true, "b23b387701c56147577ea9f78c367987d96565d28f61feafb7f0f880ff21aab5"), looks := false }, kinds := [], alts := [], laidByText := true, laidKinds := [.data, .pinned], laidTests := true, laidLooks := .later }
def SpillPagesCardSaid : Prop := Claim7.holds Tryz.pinned (.plain (OpenSpec.ofChange spillPagesSpec)) spillPagesCard

/-- THE TIED CARD OF 'carousellaw15.SpillNone'. -/
def spillNoneCard : Claim7 := { stood := { row := spillNoneRow, standIns := [], harness := (true, "b23b387701c56147577ea9f78c367987d96565d28f61feafb7f0f880ff21aab5"), looks := false }, kinds := [], alts := [], laidByText := true, laidKinds := [.data, .pinned], laidTests := true, laidLooks := .later }
def SpillNoneCardSaid : Prop := Claim7.holds Tryz.pinned (.plain (OpenSpec.ofChange spillNoneSpec)) spillNoneCard

/-- THE TIED CARD OF 'carousellaw15.SpillOver'. -/
def spillOverCard : Claim7 := { stood := { row := spillOverRow, standIns := [], harness := (true, "b23b387701c56147577ea9f78c367987d96565d28f61feafb7f0f880ff21aab5"), looks := false }, kinds := [], alts := [], laidByText := true, laidKinds := [.data, .pinned], laidTests := true, laidLooks := .later }
def SpillOverCardSaid : Prop := Claim7.holds Tryz.pinned (.plain (OpenSpec.ofChange spillOverSpec)) spillOverCard

/-- THE TIED CARD OF 'carousellaw15.SpillPlain'. -/
def spillPlainCard : Claim7 := { stood := { row := spillPlainRow, standIns := [], harness := (true, "b23b387701c56147577ea9f78c367987d96565d28f61feafb7f0f880ff21aab5"), looks := false }, kinds := [], alts := [], laidByText := true, laidKinds := [.data, .pinned], laidTests := true, laidLooks := .later }
def SpillPlainCardSaid : Prop := Claim7.holds Tryz.pinned (.plain (OpenSpec.ofChange spillPlainSpec)) spillPlainCard

/-- THE TIED CARD OF 'carousellaw15.SpillTwo'. -/
def spillTwoCard : Claim7 := { stood := { row := spillTwoRow, standIns := [], harness := (true, "b23b387701c56147577ea9f78c367987d96565d28f61feafb7f0f880ff21aab5"), looks := false }, kinds := [], alts := [], laidByText := true, laidKinds := [.data, .pinned], laidTests := true, laidLooks := .later }
def SpillTwoCardSaid : Prop := Claim7.holds Tryz.pinned (.plain (OpenSpec.ofChange spillTwoSpec)) spillTwoCard

/-- THE SECOND FORM's CARD OF 'carousellaw07.CacheOldest'. -/
def cacheOldestUptoCard : Claim7 := { stood := { row := cacheOldestUptoRow, standIns := [], harness := (true, "b23b387701c56147577ea9f78c367987d96565d28f61feafb7f0f880ff21aab5"), looks := false }, kinds := [], alts := [], laidByText := true, laidKinds := [.data, .pinned], laidTests := true, laidLooks := .later }
def CacheOldestUptoCardSaid : Prop := Claim7.holds Tryz.pinned (.plain (OpenSpec.upto cacheOldestSpec)) cacheOldestUptoCard

/-- THE SECOND FORM's CARD OF 'carousellaw07.CachePlay'. -/
def cachePlayUptoCard : Claim7 := { stood := { row := cachePlayUptoRow, standIns := [], harness := (true, "b23b387701c56147577ea9f78c367987d96565d28f61feafb7f0f880ff21aab5"), looks := false }, kinds := [], alts := [], laidByText := true, laidKinds := [.data, .pinned], laidTests := true, laidLooks := .later }
def CachePlayUptoCardSaid : Prop := Claim7.holds Tryz.pinned (.plain (OpenSpec.upto cachePlaySpec)) cachePlayUptoCard

/-- THE SECOND FORM's CARD OF 'carousellaw07.CacheNone'. -/
def cacheNoneUptoCard : Claim7 := { stood := { row := cacheNoneUptoRow, standIns := [], harness := (true, "b23b387701c56147577ea9f78c367987d96565d28f61feafb7f0f880ff21aab5"), looks := false }, kinds := [], alts := [], laidByText := true, laidKinds := [.data, .pinned], laidTests := true, laidLooks := .later }
def CacheNoneUptoCardSaid : Prop := Claim7.holds Tryz.pinned (.plain (OpenSpec.upto cacheNoneSpec)) cacheNoneUptoCard

/-- THE SECOND FORM's CARD OF 'carousellaw07.CacheSame'. -/
def cacheSameUptoCard : Claim7 := { stood := { row := cacheSameUptoRow, standIns := [], harness := (true, "b23b387701c56147577ea9f78c367987d96565d28f61feafb7f0f880ff21aab5"), looks := false }, kinds := [], alts := [], laidByText := true, laidKinds := [.data, .pinned], laidTests := true, laidLooks := .later }
def CacheSameUptoCardSaid : Prop := Claim7.holds Tryz.pinned (.plain (OpenSpec.upto cacheSameSpec)) cacheSameUptoCard

/-- THE SECOND FORM's CARD OF 'carousellaw07.CacheStays'. -/
def cacheStaysUptoCard : Claim7 := { stood := { row := cacheStaysUptoRow, standIns := [], harness := (true, "b23b387701c56147577ea9f78c367987d96565d28f61feafb7f0f880ff21aab5"), looks := false }, kinds := [], alts := [], laidByText := true, laidKinds := [.data, .pinned], laidTests := true, laidLooks := .later }
def CacheStaysUptoCardSaid : Prop := Claim7.holds Tryz.pinned (.plain (OpenSpec.upto cacheStaysSpec)) cacheStaysUptoCard

/-- THE SECOND FORM's CARD OF 'carousellaw07.CacheMost'. -/
def cacheMostUptoCard : Claim7 := { stood := { row := cacheMostUptoRow, standIns := [], harness := (true, "b23b387701c56147577ea9f78c367987d96565d28f61feafb7f0f880ff21aab5"), looks := false }, kinds := [], alts := [], laidByText := true, laidKinds := [.data, .pinned], laidTests := true, laidLooks := .later }
def CacheMostUptoCardSaid : Prop := Claim7.holds Tryz.pinned (.plain (OpenSpec.upto cacheMostSpec)) cacheMostUptoCard

/-- THE SECOND FORM's CARD OF 'carousellaw07.CacheDrop'. -/
def cacheDropUptoCard : Claim7 := { stood := { row := cacheDropUptoRow, standIns := [], harness := (true, "b23b387701c56147577ea9f78c367987d96565d28f61feafb7f0f880ff21aab5"), looks := false }, kinds := [], alts := [], laidByText := true, laidKinds := [.data, .pinned], laidTests := true, laidLooks := .later }
def CacheDropUptoCardSaid : Prop := Claim7.holds Tryz.pinned (.plain (OpenSpec.upto cacheDropSpec)) cacheDropUptoCard

/-- THE SECOND FORM's CARD OF 'carousellaw15.SpillPages'. -/
def spillPagesUptoCard : Claim7 := { stood := { row := spillPagesUptoRow, standIns := [], harness := (true, "b23b387701c56147577ea9f78c367987d96565d28f61feafb7f0f880ff21aab5"), looks := false }, kinds := [], alts := [], laidByText := true, laidKinds := [.data, .pinned], laidTests := true, laidLooks := .later }
def SpillPagesUptoCardSaid : Prop := Claim7.holds Tryz.pinned (.plain (OpenSpec.upto spillPagesSpec)) spillPagesUptoCard

/-- THE SECOND FORM's CARD OF 'carousellaw15.SpillNone'. -/
def spillNoneUptoCard : Claim7 := { stood := { row := spillNoneUptoRow, standIns := [], harness := (true, "b23b387701c56147577ea9f78c367987d96565d28f61feafb7f0f880ff21aab5"), looks := false }, kinds := [], alts := [], laidByText := true, laidKinds := [.data, .pinned], laidTests := true, laidLooks := .later }
def SpillNoneUptoCardSaid : Prop := Claim7.holds Tryz.pinned (.plain (OpenSpec.upto spillNoneSpec)) spillNoneUptoCard

/-- THE SECOND FORM's CARD OF 'carousellaw15.SpillOver'. -/
def spillOverUptoCard : Claim7 := { stood := { row := spillOverUptoRow, standIns := [], harness := (true, "b23b387701c56147577ea9f78c367987d96565d28f61feafb7f0f880ff21aab5"), looks := false }, kinds := [], alts := [], laidByText := true, laidKinds := [.data, .pinned], laidTests := true, laidLooks := .later }
def SpillOverUptoCardSaid : Prop := Claim7.holds Tryz.pinned (.plain (OpenSpec.upto spillOverSpec)) spillOverUptoCard

/-- THE SECOND FORM's CARD OF 'carousellaw15.SpillPlain'. -/
def spillPlainUptoCard : Claim7 := { stood := { row := spillPlainUptoRow, standIns := [], harness := (true, "b23b387701c56147577ea9f78c367987d96565d28f61feafb7f0f880ff21aab5"), looks := false }, kinds := [], alts := [], laidByText := true, laidKinds := [.data, .pinned], laidTests := true, laidLooks := .later }
def SpillPlainUptoCardSaid : Prop := Claim7.holds Tryz.pinned (.plain (OpenSpec.upto spillPlainSpec)) spillPlainUptoCard

/-- THE SECOND FORM's CARD OF 'carousellaw15.SpillTwo'. -/
def spillTwoUptoCard : Claim7 := { stood := { row := spillTwoUptoRow, standIns := [], harness := (true, "b23b387701c56147577ea9f78c367987d96565d28f61feafb7f0f880ff21aab5"), looks := false }, kinds := [], alts := [], laidByText := true, laidKinds := [.data, .pinned], laidTests := true, laidLooks := .later }
def SpillTwoUptoCardSaid : Prop := Claim7.holds Tryz.pinned (.plain (OpenSpec.upto spillTwoSpec)) spillTwoUptoCard
end Rows
end Go.Proofs.YtkhbemmcegmdaaaGreatDoor
