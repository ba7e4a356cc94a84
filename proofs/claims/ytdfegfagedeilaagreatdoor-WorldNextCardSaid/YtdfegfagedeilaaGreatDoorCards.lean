/-
  DERIVED. GIVEN WITH THE SEED: THE CARDS: each row of YtdfegfagedeilaaGreatDoorRows.lean that lists a variable, with what it lists TIED to the program's text (the seventh form; the later family's looks); each row that meets fmt, with fmt's text TOLD by the authors' own Lean function (tested against real Go, not proved from fmt's source: count such statements apart). THE CARD IS WHAT COUNTS. Prove the row's statement (the work); the ties are given (YtdfegfagedeilaaGreatDoorTie.lean); close each card by the builder's one call (the guide's Derived/Test/ToyasCard.lean, 'card_holds'). Laid BY PROGRAM, IN A SANDBOX (cutbox-door.mjs). By AI agents, Wed Nov 11 2026. No macro, syntax, notation, axiom, sorry.
-/
import Derived.Test.YtdfegfagedeilaaGreatDoorRows
import GoSem.ClaimSeven
namespace Go.Proofs.YtdfegfagedeilaaGreatDoor
namespace Rows

/-- THE TIED CARD OF 'deemsterlaw16.WorldNext'. -/
def worldNextCard : Claim7 := { stood := { row := worldNextRow, standIns := [], harness := (true, "d2a902ca40defd07582ccaa342ff1dbe8604cdec9047c7ea1ddb57274e70c896"), looks := true }, kinds := [], alts := [], laidByText := true, laidKinds := [.data, .data, .pinned], laidTests := true, laidLooks := .later }
def WorldNextCardSaid : Prop := Claim7.holds Tryz.pinned (.plain (OpenSpec.ofChange worldNextSpec)) worldNextCard

/-- THE TIED CARD OF 'deemsterlaw16.WorldAll'. -/
def worldAllCard : Claim7 := { stood := { row := worldAllRow, standIns := [], harness := (true, "d2a902ca40defd07582ccaa342ff1dbe8604cdec9047c7ea1ddb57274e70c896"), looks := true }, kinds := [], alts := [], laidByText := true, laidKinds := [.data, .data, .pinned], laidTests := true, laidLooks := .later }
def WorldAllCardSaid : Prop := Claim7.holds Tryz.pinned (.plain (OpenSpec.ofChange worldAllSpec)) worldAllCard

/-- THE TIED CARD OF 'deemsterlaw16.WorldTells'. -/
def worldTellsCard : Claim7 := { stood := { row := worldTellsRow, standIns := [], harness := (true, "d2a902ca40defd07582ccaa342ff1dbe8604cdec9047c7ea1ddb57274e70c896"), looks := true }, kinds := [], alts := [], laidByText := true, laidKinds := [.data, .data, .pinned], laidTests := true, laidLooks := .later }
def WorldTellsCardSaid : Prop := Claim7.holds Tryz.pinned (.plain (OpenSpec.ofChange worldTellsSpec)) worldTellsCard

/-- THE SECOND FORM's CARD OF 'deemsterlaw16.WorldNext'. -/
def worldNextUptoCard : Claim7 := { stood := { row := worldNextUptoRow, standIns := [], harness := (true, "d2a902ca40defd07582ccaa342ff1dbe8604cdec9047c7ea1ddb57274e70c896"), looks := true }, kinds := [], alts := [], laidByText := true, laidKinds := [.data, .data, .pinned], laidTests := true, laidLooks := .later }
def WorldNextUptoCardSaid : Prop := Claim7.holds Tryz.pinned (.plain (OpenSpec.upto worldNextSpec)) worldNextUptoCard

/-- THE SECOND FORM's CARD OF 'deemsterlaw16.WorldAll'. -/
def worldAllUptoCard : Claim7 := { stood := { row := worldAllUptoRow, standIns := [], harness := (true, "d2a902ca40defd07582ccaa342ff1dbe8604cdec9047c7ea1ddb57274e70c896"), looks := true }, kinds := [], alts := [], laidByText := true, laidKinds := [.data, .data, .pinned], laidTests := true, laidLooks := .later }
def WorldAllUptoCardSaid : Prop := Claim7.holds Tryz.pinned (.plain (OpenSpec.upto worldAllSpec)) worldAllUptoCard

/-- THE SECOND FORM's CARD OF 'deemsterlaw16.WorldTells'. -/
def worldTellsUptoCard : Claim7 := { stood := { row := worldTellsUptoRow, standIns := [], harness := (true, "d2a902ca40defd07582ccaa342ff1dbe8604cdec9047c7ea1ddb57274e70c896"), looks := true }, kinds := [], alts := [], laidByText := true, laidKinds := [.data, .data, .pinned], laidTests := true, laidLooks := .later }
def WorldTellsUptoCardSaid : Prop := Claim7.holds Tryz.pinned (.plain (OpenSpec.upto worldTellsSpec)) worldTellsUptoCard
end Rows
end Go.Proofs.YtdfegfagedeilaaGreatDoor
