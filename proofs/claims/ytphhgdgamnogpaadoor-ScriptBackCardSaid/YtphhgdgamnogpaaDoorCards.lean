/-
  DERIVED. GIVEN WITH THE SEED: THE CARDS: each row of YtphhgdgamnogpaaDoorRows.lean that lists a variable, with what it lists TIED to the program's text (the seventh form; the later family's looks); each row that meets fmt, with fmt's text TOLD by the authors' own Lean function (tested against real Go, not proved from fmt's source: count such statements apart). THE CARD IS WHAT COUNTS. Prove the row's statement (the work); the ties are given (YtphhgdgamnogpaaDoorTie.lean); close each card by the builder's one call (the guide's Derived/Test/ToyasCard.lean, 'card_holds'). Laid BY PROGRAM, IN A SANDBOX (cutbox-door.mjs). By AI agents, Wed Nov 11 2026. No macro, syntax, notation, axiom, sorry.
-/
import Derived.Test.YtphhgdgamnogpaaDoorRows
import GoSem.ClaimSeven
namespace Go.Proofs.YtphhgdgamnogpaaDoor
namespace Rows

/-- THE TIED CARD OF 'deemsterlaw43.ScriptParses'. -/
def scriptParsesCard : Claim7 := { stood := { row := scriptParsesRow, standIns := [], harness := (true, "a35aaef6f0238ea179fa0b7688ea107a1de6000739223017b6345b2694a68680"), looks := true }, kinds := [], alts := [], laidByText := true, laidKinds := [.data, .data, .data, .data, .pinned], laidTests := true, laidLooks := .later }
def ScriptParsesCardSaid : Prop := Claim7.holds Tryd.pinned (.plain (OpenSpec.ofChange scriptParsesSpec)) scriptParsesCard

/-- THE TIED CARD OF 'deemsterlaw07.EventPrints'. -/
def eventPrintsCard : Claim7 := { stood := { row := eventPrintsRow, standIns := [], harness := (true, "a35aaef6f0238ea179fa0b7688ea107a1de6000739223017b6345b2694a68680"), looks := true }, kinds := [], alts := [], laidByText := true, laidKinds := [.data, .data, .pinned], laidTests := true, laidLooks := .later }
def EventPrintsCardSaid : Prop := Claim7.holds Tryd.pinned (.plain (OpenSpec.ofChange eventPrintsSpec)) eventPrintsCard

/-- THE TIED CARD OF 'deemsterlaw07.EventBack'. -/
def eventBackCard : Claim7 := { stood := { row := eventBackRow, standIns := [], harness := (true, "a35aaef6f0238ea179fa0b7688ea107a1de6000739223017b6345b2694a68680"), looks := true }, kinds := [], alts := [], laidByText := true, laidKinds := [.data, .data, .pinned], laidTests := true, laidLooks := .later }
def EventBackCardSaid : Prop := Claim7.holds Tryd.pinned (.plain (OpenSpec.ofChange eventBackSpec)) eventBackCard

/-- THE TIED CARD OF 'deemsterlaw08.LogParses'. -/
def logParsesCard : Claim7 := { stood := { row := logParsesRow, standIns := [], harness := (true, "a35aaef6f0238ea179fa0b7688ea107a1de6000739223017b6345b2694a68680"), looks := true }, kinds := [], alts := [], laidByText := true, laidKinds := [.data, .data, .pinned], laidTests := true, laidLooks := .later }
def LogParsesCardSaid : Prop := Claim7.holds Tryd.pinned (.plain (OpenSpec.ofChange logParsesSpec)) logParsesCard

/-- THE TIED CARD OF 'deemsterlaw43.ScriptBack'. -/
def scriptBackCard : Claim7 := { stood := { row := scriptBackRow, standIns := [], harness := (true, "a35aaef6f0238ea179fa0b7688ea107a1de6000739223017b6345b2694a68680"), looks := true }, kinds := [], alts := [], laidByText := true, laidKinds := [.data, .data, .data, .data, .pinned], laidTests := true, laidLooks := .later }
def ScriptBackCardSaid : Prop := Claim7.holds Tryd.pinned (.plain (OpenSpec.ofChange scriptBackSpec)) scriptBackCard

/-- THE TIED CARD OF 'deemsterlaw43.ScriptPrints'. -/
def scriptPrintsCard : Claim7 := { stood := { row := scriptPrintsRow, standIns := [], harness := (true, "a35aaef6f0238ea179fa0b7688ea107a1de6000739223017b6345b2694a68680"), looks := true }, kinds := [], alts := [], laidByText := true, laidKinds := [.data, .data, .data, .data, .pinned], laidTests := true, laidLooks := .later }
def ScriptPrintsCardSaid : Prop := Claim7.holds Tryd.pinned (.plain (OpenSpec.ofChange scriptPrintsSpec)) scriptPrintsCard

/-- THE TIED CARD OF 'deemsterlaw10.PairMany'. -/
def pairManyCard : Claim7 := { stood := { row := pairManyRow, standIns := [], harness := (true, "a35aaef6f0238ea179fa0b7688ea107a1de6000739223017b6345b2694a68680"), looks := true }, kinds := [], alts := [], laidByText := true, laidKinds := [.data, .pinned], laidTests := true, laidLooks := .later }
def PairManyCardSaid : Prop := Claim7.holds Tryd.pinned (.plain (OpenSpec.ofChange pairManySpec)) pairManyCard

/-- THE TIED CARD OF 'deemsterlaw10.PairMakes'. -/
def pairMakesCard : Claim7 := { stood := { row := pairMakesRow, standIns := [], harness := (true, "a35aaef6f0238ea179fa0b7688ea107a1de6000739223017b6345b2694a68680"), looks := true }, kinds := [], alts := [], laidByText := true, laidKinds := [.data, .pinned], laidTests := true, laidLooks := .later }
def PairMakesCardSaid : Prop := Claim7.holds Tryd.pinned (.plain (OpenSpec.ofChange pairMakesSpec)) pairMakesCard

/-- THE TIED CARD OF 'deemsterlaw10.PairCounts'. -/
def pairCountsCard : Claim7 := { stood := { row := pairCountsRow, standIns := [], harness := (true, "a35aaef6f0238ea179fa0b7688ea107a1de6000739223017b6345b2694a68680"), looks := true }, kinds := [], alts := [], laidByText := true, laidKinds := [.data, .pinned], laidTests := true, laidLooks := .later }
def PairCountsCardSaid : Prop := Claim7.holds Tryd.pinned (.plain (OpenSpec.ofChange pairCountsSpec)) pairCountsCard

/-- THE TIED CARD OF 'deemsterlaw08.LogBack'. -/
def logBackCard : Claim7 := { stood := { row := logBackRow, standIns := [], harness := (true, "a35aaef6f0238ea179fa0b7688ea107a1de6000739223017b6345b2694a68680"), looks := true }, kinds := [], alts := [], laidByText := true, laidKinds := [.data, .data, .pinned], laidTests := true, laidLooks := .later }
def LogBackCardSaid : Prop := Claim7.holds Tryd.pinned (.plain (OpenSpec.ofChange logBackSpec)) logBackCard

/-- THE TIED CARD OF 'deemsterlaw08.LogPrints'. -/
def logPrintsCard : Claim7 := { stood := { row := logPrintsRow, standIns := [], harness := (true, "a35aaef6f0238ea179fa0b7688ea107a1de6000739223017b6345b2694a68680"), looks := true }, kinds := [], alts := [], laidByText := true, laidKinds := [.data, .data, .pinned], laidTests := true, laidLooks := .later }
def LogPrintsCardSaid : Prop := Claim7.holds Tryd.pinned (.plain (OpenSpec.ofChange logPrintsSpec)) logPrintsCard

/-- THE SECOND FORM's CARD OF 'deemsterlaw43.ScriptParses'. -/
def scriptParsesUptoCard : Claim7 := { stood := { row := scriptParsesUptoRow, standIns := [], harness := (true, "a35aaef6f0238ea179fa0b7688ea107a1de6000739223017b6345b2694a68680"), looks := true }, kinds := [], alts := [], laidByText := true, laidKinds := [.data, .data, .data, .data, .pinned], laidTests := true, laidLooks := .later }
def ScriptParsesUptoCardSaid : Prop := Claim7.holds Tryd.pinned (.plain (OpenSpec.upto scriptParsesSpec)) scriptParsesUptoCard

/-- THE SECOND FORM's CARD OF 'deemsterlaw07.EventPrints'. -/
def eventPrintsUptoCard : Claim7 := { stood := { row := eventPrintsUptoRow, standIns := [], harness := (true, "a35aaef6f0238ea179fa0b7688ea107a1de6000739223017b6345b2694a68680"), looks := true }, kinds := [], alts := [], laidByText := true, laidKinds := [.data, .data, .pinned], laidTests := true, laidLooks := .later }
def EventPrintsUptoCardSaid : Prop := Claim7.holds Tryd.pinned (.plain (OpenSpec.upto eventPrintsSpec)) eventPrintsUptoCard

/-- THE SECOND FORM's CARD OF 'deemsterlaw07.EventBack'. -/
def eventBackUptoCard : Claim7 := { stood := { row := eventBackUptoRow, standIns := [], harness := (true, "a35aaef6f0238ea179fa0b7688ea107a1de6000739223017b6345b2694a68680"), looks := true }, kinds := [], alts := [], laidByText := true, laidKinds := [.data, .data, .pinned], laidTests := true, laidLooks := .later }
def EventBackUptoCardSaid : Prop := Claim7.holds Tryd.pinned (.plain (OpenSpec.upto eventBackSpec)) eventBackUptoCard

/-- THE SECOND FORM's CARD OF 'deemsterlaw08.LogParses'. -/
def logParsesUptoCard : Claim7 := { stood := { row := logParsesUptoRow, standIns := [], harness := (true, "a35aaef6f0238ea179fa0b7688ea107a1de6000739223017b6345b2694a68680"), looks := true }, kinds := [], alts := [], laidByText := true, laidKinds := [.data, .data, .pinned], laidTests := true, laidLooks := .later }
def LogParsesUptoCardSaid : Prop := Claim7.holds Tryd.pinned (.plain (OpenSpec.upto logParsesSpec)) logParsesUptoCard

/-- THE SECOND FORM's CARD OF 'deemsterlaw43.ScriptBack'. -/
def scriptBackUptoCard : Claim7 := { stood := { row := scriptBackUptoRow, standIns := [], harness := (true, "a35aaef6f0238ea179fa0b7688ea107a1de6000739223017b6345b2694a68680"), looks := true }, kinds := [], alts := [], laidByText := true, laidKinds := [.data, .data, .data, .data, .pinned], laidTests := true, laidLooks := .later }
def ScriptBackUptoCardSaid : Prop := Claim7.holds Tryd.pinned (.plain (OpenSpec.upto scriptBackSpec)) scriptBackUptoCard

/-- THE SECOND FORM's CARD OF 'deemsterlaw43.ScriptPrints'. -/
def scriptPrintsUptoCard : Claim7 := { stood := { row := scriptPrintsUptoRow, standIns := [], harness := (true, "a35aaef6f0238ea179fa0b7688ea107a1de6000739223017b6345b2694a68680"), looks := true }, kinds := [], alts := [], laidByText := true, laidKinds := [.data, .data, .data, .data, .pinned], laidTests := true, laidLooks := .later }
def ScriptPrintsUptoCardSaid : Prop := Claim7.holds Tryd.pinned (.plain (OpenSpec.upto scriptPrintsSpec)) scriptPrintsUptoCard

/-- THE SECOND FORM's CARD OF 'deemsterlaw10.PairMany'. -/
def pairManyUptoCard : Claim7 := { stood := { row := pairManyUptoRow, standIns := [], harness := (true, "a35aaef6f0238ea179fa0b7688ea107a1de6000739223017b6345b2694a68680"), looks := true }, kinds := [], alts := [], laidByText := true, laidKinds := [.data, .pinned], laidTests := true, laidLooks := .later }
def PairManyUptoCardSaid : Prop := Claim7.holds Tryd.pinned (.plain (OpenSpec.upto pairManySpec)) pairManyUptoCard

/-- THE SECOND FORM's CARD OF 'deemsterlaw10.PairMakes'. -/
def pairMakesUptoCard : Claim7 := { stood := { row := pairMakesUptoRow, standIns := [], harness := (true, "a35aaef6f0238ea179fa0b7688ea107a1de6000739223017b6345b2694a68680"), looks := true }, kinds := [], alts := [], laidByText := true, laidKinds := [.data, .pinned], laidTests := true, laidLooks := .later }
def PairMakesUptoCardSaid : Prop := Claim7.holds Tryd.pinned (.plain (OpenSpec.upto pairMakesSpec)) pairMakesUptoCard

/-- THE SECOND FORM's CARD OF 'deemsterlaw10.PairCounts'. -/
def pairCountsUptoCard : Claim7 := { stood := { row := pairCountsUptoRow, standIns := [], harness := (true, "a35aaef6f0238ea179fa0b7688ea107a1de6000739223017b6345b2694a68680"), looks := true }, kinds := [], alts := [], laidByText := true, laidKinds := [.data, .pinned], laidTests := true, laidLooks := .later }
def PairCountsUptoCardSaid : Prop := Claim7.holds Tryd.pinned (.plain (OpenSpec.upto pairCountsSpec)) pairCountsUptoCard

/-- THE SECOND FORM's CARD OF 'deemsterlaw08.LogBack'. -/
def logBackUptoCard : Claim7 := { stood := { row := logBackUptoRow, standIns := [], harness := (true, "a35aaef6f0238ea179fa0b7688ea107a1de6000739223017b6345b2694a68680"), looks := true }, kinds := [], alts := [], laidByText := true, laidKinds := [.data, .data, .pinned], laidTests := true, laidLooks := .later }
def LogBackUptoCardSaid : Prop := Claim7.holds Tryd.pinned (.plain (OpenSpec.upto logBackSpec)) logBackUptoCard

/-- THE SECOND FORM's CARD OF 'deemsterlaw08.LogPrints'. -/
def logPrintsUptoCard : Claim7 := { stood := { row := logPrintsUptoRow, standIns := [], harness := (true, "a35aaef6f0238ea179fa0b7688ea107a1de6000739223017b6345b2694a68680"), looks := true }, kinds := [], alts := [], laidByText := true, laidKinds := [.data, .data, .pinned], laidTests := true, laidLooks := .later }
def LogPrintsUptoCardSaid : Prop := Claim7.holds Tryd.pinned (.plain (OpenSpec.upto logPrintsSpec)) logPrintsUptoCard
end Rows
end Go.Proofs.YtphhgdgamnogpaaDoor
