/-
  DERIVED. GIVEN WITH THE SEED: THE CARDS: each row of YtmgchjddpmmglaaGreatDoorRows.lean that lists a variable, with what it lists TIED to the program's text (the seventh form; the later family's looks); each row that meets fmt, with fmt's text TOLD by the authors' own Lean function (tested against real Go, not proved from fmt's source: count such statements apart). THE CARD IS WHAT COUNTS. Prove the row's statement (the work); the ties are given (YtmgchjddpmmglaaGreatDoorTie.lean); close each card by the builder's one call (the guide's Derived/Test/ToyasCard.lean, 'card_holds'). Laid BY PROGRAM, IN A SANDBOX (cutbox-door.mjs). By AI agents, Wed Nov 11 2026. No macro, syntax, notation, axiom, sorry.
-/
import Derived.Test.YtmgchjddpmmglaaGreatDoorRows
import GoSem.ClaimSeven
namespace Go.Proofs.YtmgchjddpmmglaaGreatDoor
namespace Rows

/-- THE TIED CARD OF 'deemsterlaw12.ShowParses'. -/
def showParsesCard : Claim7 := { stood := { row := showParsesRow, standIns := [], harness := (true, "88f186c5991f8706195d5984e044f47f778ee8eb0998729e5623bdde48ab2e9c"), looks := true }, kinds := [], alts := [], laidByText := true, laidKinds := [.data, .data, .pinned], laidTests := true, laidLooks := .later }
def ShowParsesCardSaid : Prop := Claim7.holds Tryz.pinned (.plain (OpenSpec.ofChange showParsesSpec)) showParsesCard

/-- THE TIED CARD OF 'deemsterlaw14.EraseOf'. -/
def eraseOfCard : Claim7 := { stood := { row := eraseOfRow, standIns := [], harness := (true, "88f186c5991f8706195d5984e044f47f778ee8eb0998729e5623bdde48ab2e9c"), looks := true }, kinds := [], alts := [], laidByText := true, laidKinds := [.data, .data, .pinned], laidTests := true, laidLooks := .later }
def EraseOfCardSaid : Prop := Claim7.holds Tryz.pinned (.plain (OpenSpec.ofChange eraseOfSpec)) eraseOfCard

/-- THE TIED CARD OF 'deemsterlaw14.ErasePlace'. -/
def erasePlaceCard : Claim7 := { stood := { row := erasePlaceRow, standIns := [], harness := (true, "88f186c5991f8706195d5984e044f47f778ee8eb0998729e5623bdde48ab2e9c"), looks := true }, kinds := [], alts := [], laidByText := true, laidKinds := [.data, .data, .pinned], laidTests := true, laidLooks := .later }
def ErasePlaceCardSaid : Prop := Claim7.holds Tryz.pinned (.plain (OpenSpec.ofChange erasePlaceSpec)) erasePlaceCard

/-- THE TIED CARD OF 'deemsterlaw14.EraseStays'. -/
def eraseStaysCard : Claim7 := { stood := { row := eraseStaysRow, standIns := [], harness := (true, "88f186c5991f8706195d5984e044f47f778ee8eb0998729e5623bdde48ab2e9c"), looks := true }, kinds := [], alts := [], laidByText := true, laidKinds := [.data, .data, .pinned], laidTests := true, laidLooks := .later }
def EraseStaysCardSaid : Prop := Claim7.holds Tryz.pinned (.plain (OpenSpec.ofChange eraseStaysSpec)) eraseStaysCard

/-- THE TIED CARD OF 'deemsterlaw13.InnerLeaves'. -/
def innerLeavesCard : Claim7 := { stood := { row := innerLeavesRow, standIns := [], harness := (true, "88f186c5991f8706195d5984e044f47f778ee8eb0998729e5623bdde48ab2e9c"), looks := true }, kinds := [], alts := [], laidByText := true, laidKinds := [.data, .data, .pinned], laidTests := true, laidLooks := .later }
def InnerLeavesCardSaid : Prop := Claim7.holds Tryz.pinned (.plain (OpenSpec.ofChange innerLeavesSpec)) innerLeavesCard

/-- THE TIED CARD OF 'deemsterlaw13.InnerTells'. -/
def innerTellsCard : Claim7 := { stood := { row := innerTellsRow, standIns := [], harness := (true, "88f186c5991f8706195d5984e044f47f778ee8eb0998729e5623bdde48ab2e9c"), looks := true }, kinds := [], alts := [], laidByText := true, laidKinds := [.data, .data, .pinned], laidTests := true, laidLooks := .later }
def InnerTellsCardSaid : Prop := Claim7.holds Tryz.pinned (.plain (OpenSpec.ofChange innerTellsSpec)) innerTellsCard

/-- THE TIED CARD OF 'deemsterlaw13.InnerAgrees'. -/
def innerAgreesCard : Claim7 := { stood := { row := innerAgreesRow, standIns := [], harness := (true, "88f186c5991f8706195d5984e044f47f778ee8eb0998729e5623bdde48ab2e9c"), looks := true }, kinds := [], alts := [], laidByText := true, laidKinds := [.data, .data, .pinned], laidTests := true, laidLooks := .later }
def InnerAgreesCardSaid : Prop := Claim7.holds Tryz.pinned (.plain (OpenSpec.ofChange innerAgreesSpec)) innerAgreesCard

/-- THE TIED CARD OF 'deemsterlaw17.WholeMakes'. -/
def wholeMakesCard : Claim7 := { stood := { row := wholeMakesRow, standIns := [], harness := (true, "88f186c5991f8706195d5984e044f47f778ee8eb0998729e5623bdde48ab2e9c"), looks := true }, kinds := [], alts := [], laidByText := true, laidKinds := [.data, .data, .pinned], laidTests := true, laidLooks := .later }
def WholeMakesCardSaid : Prop := Claim7.holds Tryz.pinned (.plain (OpenSpec.ofChange wholeMakesSpec)) wholeMakesCard

/-- THE TIED CARD OF 'deemsterlaw17.WholeWorlds'. -/
def wholeWorldsCard : Claim7 := { stood := { row := wholeWorldsRow, standIns := [], harness := (true, "88f186c5991f8706195d5984e044f47f778ee8eb0998729e5623bdde48ab2e9c"), looks := true }, kinds := [], alts := [], laidByText := true, laidKinds := [.data, .data, .pinned], laidTests := true, laidLooks := .later }
def WholeWorldsCardSaid : Prop := Claim7.holds Tryz.pinned (.plain (OpenSpec.ofChange wholeWorldsSpec)) wholeWorldsCard

/-- THE TIED CARD OF 'deemsterlaw17.WholeBack'. -/
def wholeBackCard : Claim7 := { stood := { row := wholeBackRow, standIns := [], harness := (true, "88f186c5991f8706195d5984e044f47f778ee8eb0998729e5623bdde48ab2e9c"), looks := true }, kinds := [], alts := [], laidByText := true, laidKinds := [.data, .data, .pinned], laidTests := true, laidLooks := .later }
def WholeBackCardSaid : Prop := Claim7.holds Tryz.pinned (.plain (OpenSpec.ofChange wholeBackSpec)) wholeBackCard

/-- THE TIED CARD OF 'deemsterlaw16.WorldNext'. -/
def worldNextCard : Claim7 := { stood := { row := worldNextRow, standIns := [], harness := (true, "88f186c5991f8706195d5984e044f47f778ee8eb0998729e5623bdde48ab2e9c"), looks := true }, kinds := [], alts := [], laidByText := true, laidKinds := [.data, .data, .pinned], laidTests := true, laidLooks := .later }
def WorldNextCardSaid : Prop := Claim7.holds Tryz.pinned (.plain (OpenSpec.ofChange worldNextSpec)) worldNextCard

/-- THE TIED CARD OF 'deemsterlaw16.WorldAll'. -/
def worldAllCard : Claim7 := { stood := { row := worldAllRow, standIns := [], harness := (true, "88f186c5991f8706195d5984e044f47f778ee8eb0998729e5623bdde48ab2e9c"), looks := true }, kinds := [], alts := [], laidByText := true, laidKinds := [.data, .data, .pinned], laidTests := true, laidLooks := .later }
def WorldAllCardSaid : Prop := Claim7.holds Tryz.pinned (.plain (OpenSpec.ofChange worldAllSpec)) worldAllCard

/-- THE TIED CARD OF 'deemsterlaw16.WorldTells'. -/
def worldTellsCard : Claim7 := { stood := { row := worldTellsRow, standIns := [], harness := (true, "88f186c5991f8706195d5984e044f47f778ee8eb0998729e5623bdde48ab2e9c"), looks := true }, kinds := [], alts := [], laidByText := true, laidKinds := [.data, .data, .pinned], laidTests := true, laidLooks := .later }
def WorldTellsCardSaid : Prop := Claim7.holds Tryz.pinned (.plain (OpenSpec.ofChange worldTellsSpec)) worldTellsCard

/-- THE SECOND FORM's CARD OF 'deemsterlaw12.ShowParses'. -/
def showParsesUptoCard : Claim7 := { stood := { row := showParsesUptoRow, standIns := [], harness := (true, "88f186c5991f8706195d5984e044f47f778ee8eb0998729e5623bdde48ab2e9c"), looks := true }, kinds := [], alts := [], laidByText := true, laidKinds := [.data, .data, .pinned], laidTests := true, laidLooks := .later }
def ShowParsesUptoCardSaid : Prop := Claim7.holds Tryz.pinned (.plain (OpenSpec.upto showParsesSpec)) showParsesUptoCard

/-- THE SECOND FORM's CARD OF 'deemsterlaw14.EraseOf'. -/
def eraseOfUptoCard : Claim7 := { stood := { row := eraseOfUptoRow, standIns := [], harness := (true, "88f186c5991f8706195d5984e044f47f778ee8eb0998729e5623bdde48ab2e9c"), looks := true }, kinds := [], alts := [], laidByText := true, laidKinds := [.data, .data, .pinned], laidTests := true, laidLooks := .later }
def EraseOfUptoCardSaid : Prop := Claim7.holds Tryz.pinned (.plain (OpenSpec.upto eraseOfSpec)) eraseOfUptoCard

/-- THE SECOND FORM's CARD OF 'deemsterlaw14.ErasePlace'. -/
def erasePlaceUptoCard : Claim7 := { stood := { row := erasePlaceUptoRow, standIns := [], harness := (true, "88f186c5991f8706195d5984e044f47f778ee8eb0998729e5623bdde48ab2e9c"), looks := true }, kinds := [], alts := [], laidByText := true, laidKinds := [.data, .data, .pinned], laidTests := true, laidLooks := .later }
def ErasePlaceUptoCardSaid : Prop := Claim7.holds Tryz.pinned (.plain (OpenSpec.upto erasePlaceSpec)) erasePlaceUptoCard

/-- THE SECOND FORM's CARD OF 'deemsterlaw14.EraseStays'. -/
def eraseStaysUptoCard : Claim7 := { stood := { row := eraseStaysUptoRow, standIns := [], harness := (true, "88f186c5991f8706195d5984e044f47f778ee8eb0998729e5623bdde48ab2e9c"), looks := true }, kinds := [], alts := [], laidByText := true, laidKinds := [.data, .data, .pinned], laidTests := true, laidLooks := .later }
def EraseStaysUptoCardSaid : Prop := Claim7.holds Tryz.pinned (.plain (OpenSpec.upto eraseStaysSpec)) eraseStaysUptoCard

/-- THE SECOND FORM's CARD OF 'deemsterlaw13.InnerLeaves'. -/
def innerLeavesUptoCard : Claim7 := { stood := { row := innerLeavesUptoRow, standIns := [], harness := (true, "88f186c5991f8706195d5984e044f47f778ee8eb0998729e5623bdde48ab2e9c"), looks := true }, kinds := [], alts := [], laidByText := true, laidKinds := [.data, .data, .pinned], laidTests := true, laidLooks := .later }
def InnerLeavesUptoCardSaid : Prop := Claim7.holds Tryz.pinned (.plain (OpenSpec.upto innerLeavesSpec)) innerLeavesUptoCard

/-- THE SECOND FORM's CARD OF 'deemsterlaw13.InnerTells'. -/
def innerTellsUptoCard : Claim7 := { stood := { row := innerTellsUptoRow, standIns := [], harness := (true, "88f186c5991f8706195d5984e044f47f778ee8eb0998729e5623bdde48ab2e9c"), looks := true }, kinds := [], alts := [], laidByText := true, laidKinds := [.data, .data, .pinned], laidTests := true, laidLooks := .later }
def InnerTellsUptoCardSaid : Prop := Claim7.holds Tryz.pinned (.plain (OpenSpec.upto innerTellsSpec)) innerTellsUptoCard

/-- THE SECOND FORM's CARD OF 'deemsterlaw13.InnerAgrees'. -/
def innerAgreesUptoCard : Claim7 := { stood := { row := innerAgreesUptoRow, standIns := [], harness := (true, "88f186c5991f8706195d5984e044f47f778ee8eb0998729e5623bdde48ab2e9c"), looks := true }, kinds := [], alts := [], laidByText := true, laidKinds := [.data, .data, .pinned], laidTests := true, laidLooks := .later }
def InnerAgreesUptoCardSaid : Prop := Claim7.holds Tryz.pinned (.plain (OpenSpec.upto innerAgreesSpec)) innerAgreesUptoCard

/-- THE SECOND FORM's CARD OF 'deemsterlaw17.WholeMakes'. -/
def wholeMakesUptoCard : Claim7 := { stood := { row := wholeMakesUptoRow, standIns := [], harness := (true, "88f186c5991f8706195d5984e044f47f778ee8eb0998729e5623bdde48ab2e9c"), looks := true }, kinds := [], alts := [], laidByText := true, laidKinds := [.data, .data, .pinned], laidTests := true, laidLooks := .later }
def WholeMakesUptoCardSaid : Prop := Claim7.holds Tryz.pinned (.plain (OpenSpec.upto wholeMakesSpec)) wholeMakesUptoCard

/-- THE SECOND FORM's CARD OF 'deemsterlaw17.WholeWorlds'. -/
def wholeWorldsUptoCard : Claim7 := { stood := { row := wholeWorldsUptoRow, standIns := [], harness := (true, "88f186c5991f8706195d5984e044f47f778ee8eb0998729e5623bdde48ab2e9c"), looks := true }, kinds := [], alts := [], laidByText := true, laidKinds := [.data, .data, .pinned], laidTests := true, laidLooks := .later }
def WholeWorldsUptoCardSaid : Prop := Claim7.holds Tryz.pinned (.plain (OpenSpec.upto wholeWorldsSpec)) wholeWorldsUptoCard

/-- THE SECOND FORM's CARD OF 'deemsterlaw17.WholeBack'. -/
def wholeBackUptoCard : Claim7 := { stood := { row := wholeBackUptoRow, standIns := [], harness := (true, "88f186c5991f8706195d5984e044f47f778ee8eb0998729e5623bdde48ab2e9c"), looks := true }, kinds := [], alts := [], laidByText := true, laidKinds := [.data, .data, .pinned], laidTests := true, laidLooks := .later }
def WholeBackUptoCardSaid : Prop := Claim7.holds Tryz.pinned (.plain (OpenSpec.upto wholeBackSpec)) wholeBackUptoCard

/-- THE SECOND FORM's CARD OF 'deemsterlaw16.WorldNext'. -/
def worldNextUptoCard : Claim7 := { stood := { row := worldNextUptoRow, standIns := [], harness := (true, "88f186c5991f8706195d5984e044f47f778ee8eb0998729e5623bdde48ab2e9c"), looks := true }, kinds := [], alts := [], laidByText := true, laidKinds := [.data, .data, .pinned], laidTests := true, laidLooks := .later }
def WorldNextUptoCardSaid : Prop := Claim7.holds Tryz.pinned (.plain (OpenSpec.upto worldNextSpec)) worldNextUptoCard

/-- THE SECOND FORM's CARD OF 'deemsterlaw16.WorldAll'. -/
def worldAllUptoCard : Claim7 := { stood := { row := worldAllUptoRow, standIns := [], harness := (true, "88f186c5991f8706195d5984e044f47f778ee8eb0998729e5623bdde48ab2e9c"), looks := true }, kinds := [], alts := [], laidByText := true, laidKinds := [.data, .data, .pinned], laidTests := true, laidLooks := .later }
def WorldAllUptoCardSaid : Prop := Claim7.holds Tryz.pinned (.plain (OpenSpec.upto worldAllSpec)) worldAllUptoCard

/-- THE SECOND FORM's CARD OF 'deemsterlaw16.WorldTells'. -/
def worldTellsUptoCard : Claim7 := { stood := { row := worldTellsUptoRow, standIns := [], harness := (true, "88f186c5991f8706195d5984e044f47f778ee8eb0998729e5623bdde48ab2e9c"), looks := true }, kinds := [], alts := [], laidByText := true, laidKinds := [.data, .data, .pinned], laidTests := true, laidLooks := .later }
def WorldTellsUptoCardSaid : Prop := Claim7.holds Tryz.pinned (.plain (OpenSpec.upto worldTellsSpec)) worldTellsUptoCard
end Rows
end Go.Proofs.YtmgchjddpmmglaaGreatDoor
