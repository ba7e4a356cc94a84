/-
  DERIVED. GIVEN WITH THE SEED: THE CARDS: each row of YthalbcmlehpfaaaDoorRows.lean that lists a variable, with what it lists TIED to the program's text (the seventh form; the later family's looks); each row that meets fmt, with fmt's text TOLD by the authors' own Lean function (tested against real Go, not proved from fmt's source: count such statements apart). THE CARD IS WHAT COUNTS. Prove the row's statement (the work); the ties are given (YthalbcmlehpfaaaDoorTie.lean); close each card by the builder's one call (the guide's Derived/Test/ToyasCard.lean, 'card_holds'). Laid BY PROGRAM, IN A SANDBOX (cutbox-door.mjs). By AI agents, Wed Nov 11 2026. No macro, syntax, notation, axiom, sorry.
-/
import Derived.Test.YthalbcmlehpfaaaDoorRows
import GoSem.ClaimSeven
namespace Go.Proofs.YthalbcmlehpfaaaDoor
namespace Rows

/-- THE TIED CARD OF 'deemsterlaw11.HistTells'. -/
def histTellsCard : Claim7 := { stood := { row := histTellsRow, standIns := [], harness := (true, "060e5744d1b40f7da977fa29573e841f04e131ea6687701e0d7bda4ab577c32a"), looks := true }, kinds := [], alts := [], laidByText := true, laidKinds := [.data, .pinned], laidTests := true, laidLooks := .later }
def HistTellsCardSaid : Prop := Claim7.holds Tryd.pinned (.plain (OpenSpec.ofChange histTellsSpec)) histTellsCard

/-- THE TIED CARD OF 'deemsterlaw11.HistMays'. -/
def histMaysCard : Claim7 := { stood := { row := histMaysRow, standIns := [], harness := (true, "060e5744d1b40f7da977fa29573e841f04e131ea6687701e0d7bda4ab577c32a"), looks := true }, kinds := [], alts := [], laidByText := true, laidKinds := [.data, .pinned], laidTests := true, laidLooks := .later }
def HistMaysCardSaid : Prop := Claim7.holds Tryd.pinned (.plain (OpenSpec.ofChange histMaysSpec)) histMaysCard

/-- THE TIED CARD OF 'deemsterlaw11.HistGoes'. -/
def histGoesCard : Claim7 := { stood := { row := histGoesRow, standIns := [], harness := (true, "060e5744d1b40f7da977fa29573e841f04e131ea6687701e0d7bda4ab577c32a"), looks := true }, kinds := [], alts := [], laidByText := true, laidKinds := [.data, .pinned], laidTests := true, laidLooks := .later }
def HistGoesCardSaid : Prop := Claim7.holds Tryd.pinned (.plain (OpenSpec.ofChange histGoesSpec)) histGoesCard

/-- THE TIED CARD OF 'deemsterlaw11.HistOrders'. -/
def histOrdersCard : Claim7 := { stood := { row := histOrdersRow, standIns := [], harness := (true, "060e5744d1b40f7da977fa29573e841f04e131ea6687701e0d7bda4ab577c32a"), looks := true }, kinds := [], alts := [], laidByText := true, laidKinds := [.data, .pinned], laidTests := true, laidLooks := .later }
def HistOrdersCardSaid : Prop := Claim7.holds Tryd.pinned (.plain (OpenSpec.ofChange histOrdersSpec)) histOrdersCard

/-- THE TIED CARD OF 'deemsterlaw09.TableMakes'. -/
def tableMakesCard : Claim7 := { stood := { row := tableMakesRow, standIns := [], harness := (true, "060e5744d1b40f7da977fa29573e841f04e131ea6687701e0d7bda4ab577c32a"), looks := true }, kinds := [], alts := [], laidByText := true, laidKinds := [.data, .pinned], laidTests := true, laidLooks := .later }
def TableMakesCardSaid : Prop := Claim7.holds Tryd.pinned (.plain (OpenSpec.ofChange tableMakesSpec)) tableMakesCard

/-- THE TIED CARD OF 'deemsterlaw09.TableHas'. -/
def tableHasCard : Claim7 := { stood := { row := tableHasRow, standIns := [], harness := (true, "060e5744d1b40f7da977fa29573e841f04e131ea6687701e0d7bda4ab577c32a"), looks := true }, kinds := [], alts := [], laidByText := true, laidKinds := [.data, .pinned], laidTests := true, laidLooks := .later }
def TableHasCardSaid : Prop := Claim7.holds Tryd.pinned (.plain (OpenSpec.ofChange tableHasSpec)) tableHasCard

/-- THE TIED CARD OF 'deemsterlaw09.TableFinds'. -/
def tableFindsCard : Claim7 := { stood := { row := tableFindsRow, standIns := [], harness := (true, "060e5744d1b40f7da977fa29573e841f04e131ea6687701e0d7bda4ab577c32a"), looks := true }, kinds := [], alts := [], laidByText := true, laidKinds := [.data, .pinned], laidTests := true, laidLooks := .later }
def TableFindsCardSaid : Prop := Claim7.holds Tryd.pinned (.plain (OpenSpec.ofChange tableFindsSpec)) tableFindsCard

/-- THE SECOND FORM's CARD OF 'deemsterlaw11.HistTells'. -/
def histTellsUptoCard : Claim7 := { stood := { row := histTellsUptoRow, standIns := [], harness := (true, "060e5744d1b40f7da977fa29573e841f04e131ea6687701e0d7bda4ab577c32a"), looks := true }, kinds := [], alts := [], laidByText := true, laidKinds := [.data, .pinned], laidTests := true, laidLooks := .later }
def HistTellsUptoCardSaid : Prop := Claim7.holds Tryd.pinned (.plain (OpenSpec.upto histTellsSpec)) histTellsUptoCard

/-- THE SECOND FORM's CARD OF 'deemsterlaw11.HistMays'. -/
def histMaysUptoCard : Claim7 := { stood := { row := histMaysUptoRow, standIns := [], harness := (true, "060e5744d1b40f7da977fa29573e841f04e131ea6687701e0d7bda4ab577c32a"), looks := true }, kinds := [], alts := [], laidByText := true, laidKinds := [.data, .pinned], laidTests := true, laidLooks := .later }
def HistMaysUptoCardSaid : Prop := Claim7.holds Tryd.pinned (.plain (OpenSpec.upto histMaysSpec)) histMaysUptoCard

/-- THE SECOND FORM's CARD OF 'deemsterlaw11.HistGoes'. -/
def histGoesUptoCard : Claim7 := { stood := { row := histGoesUptoRow, standIns := [], harness := (true, "060e5744d1b40f7da977fa29573e841f04e131ea6687701e0d7bda4ab577c32a"), looks := true }, kinds := [], alts := [], laidByText := true, laidKinds := [.data, .pinned], laidTests := true, laidLooks := .later }
def HistGoesUptoCardSaid : Prop := Claim7.holds Tryd.pinned (.plain (OpenSpec.upto histGoesSpec)) histGoesUptoCard

/-- THE SECOND FORM's CARD OF 'deemsterlaw11.HistOrders'. -/
def histOrdersUptoCard : Claim7 := { stood := { row := histOrdersUptoRow, standIns := [], harness := (true, "060e5744d1b40f7da977fa29573e841f04e131ea6687701e0d7bda4ab577c32a"), looks := true }, kinds := [], alts := [], laidByText := true, laidKinds := [.data, .pinned], laidTests := true, laidLooks := .later }
def HistOrdersUptoCardSaid : Prop := Claim7.holds Tryd.pinned (.plain (OpenSpec.upto histOrdersSpec)) histOrdersUptoCard

/-- THE SECOND FORM's CARD OF 'deemsterlaw09.TableMakes'. -/
def tableMakesUptoCard : Claim7 := { stood := { row := tableMakesUptoRow, standIns := [], harness := (true, "060e5744d1b40f7da977fa29573e841f04e131ea6687701e0d7bda4ab577c32a"), looks := true }, kinds := [], alts := [], laidByText := true, laidKinds := [.data, .pinned], laidTests := true, laidLooks := .later }
def TableMakesUptoCardSaid : Prop := Claim7.holds Tryd.pinned (.plain (OpenSpec.upto tableMakesSpec)) tableMakesUptoCard

/-- THE SECOND FORM's CARD OF 'deemsterlaw09.TableHas'. -/
def tableHasUptoCard : Claim7 := { stood := { row := tableHasUptoRow, standIns := [], harness := (true, "060e5744d1b40f7da977fa29573e841f04e131ea6687701e0d7bda4ab577c32a"), looks := true }, kinds := [], alts := [], laidByText := true, laidKinds := [.data, .pinned], laidTests := true, laidLooks := .later }
def TableHasUptoCardSaid : Prop := Claim7.holds Tryd.pinned (.plain (OpenSpec.upto tableHasSpec)) tableHasUptoCard

/-- THE SECOND FORM's CARD OF 'deemsterlaw09.TableFinds'. -/
def tableFindsUptoCard : Claim7 := { stood := { row := tableFindsUptoRow, standIns := [], harness := (true, "060e5744d1b40f7da977fa29573e841f04e131ea6687701e0d7bda4ab577c32a"), looks := true }, kinds := [], alts := [], laidByText := true, laidKinds := [.data, .pinned], laidTests := true, laidLooks := .later }
def TableFindsUptoCardSaid : Prop := Claim7.holds Tryd.pinned (.plain (OpenSpec.upto tableFindsSpec)) tableFindsUptoCard
end Rows
end Go.Proofs.YthalbcmlehpfaaaDoor
