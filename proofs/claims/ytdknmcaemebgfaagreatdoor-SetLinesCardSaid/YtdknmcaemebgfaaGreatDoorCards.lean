/-
  DERIVED. GIVEN WITH THE SEED: THE CARDS: each row of YtdknmcaemebgfaaGreatDoorRows.lean that lists a variable, with what it lists TIED to the program's text (the seventh form; the later family's looks); each row that meets fmt, with fmt's text TOLD by the authors' own Lean function (tested against real Go, not proved from fmt's source: count such statements apart). THE CARD IS WHAT COUNTS. Prove the row's statement (the work); the ties are given (YtdknmcaemebgfaaGreatDoorTie.lean); close each card by the builder's one call (the guide's Derived/Test/ToyasCard.lean, 'card_holds'). Laid BY PROGRAM, IN A SANDBOX (cutbox-door.mjs). By AI agents, Wed Nov 11 2026. No macro, syntax, notation, axiom, sorry.
-/
import Derived.Test.YtdknmcaemebgfaaGreatDoorRows
import GoSem.ClaimSeven
namespace Go.Proofs.YtdknmcaemebgfaaGreatDoor
namespace Rows

/-- THE TIED CARD OF 'klaxonlaw13.SetRights'. -/
def setRightsCard : Claim7 := { stood := { row := setRightsRow, standIns := [], harness := (true, "edcc968d0c138d5e9ab7697d3977bc0490529bebd8073c354ce3bca9625a6416"), looks := true }, kinds := [], alts := [], laidByText := true, laidKinds := [.data, .data, .data, .data, .sentinel, .sentinel, .pinned], laidTests := true, laidLooks := .later }
def SetRightsCardSaid : Prop := Claim7.holds Tryz.pinned (.plain (OpenSpec.ofChange setRightsSpec)) setRightsCard

/-- THE TIED CARD OF 'klaxonlaw13.SetReads'. -/
def setReadsCard : Claim7 := { stood := { row := setReadsRow, standIns := [], harness := (true, "edcc968d0c138d5e9ab7697d3977bc0490529bebd8073c354ce3bca9625a6416"), looks := true }, kinds := [], alts := [], laidByText := true, laidKinds := [.data, .data, .data, .data, .sentinel, .sentinel, .pinned], laidTests := true, laidLooks := .later }
def SetReadsCardSaid : Prop := Claim7.holds Tryz.pinned (.plain (OpenSpec.ofChange setReadsSpec)) setReadsCard

/-- THE TIED CARD OF 'klaxonlaw13.SetOrders'. -/
def setOrdersCard : Claim7 := { stood := { row := setOrdersRow, standIns := [], harness := (true, "edcc968d0c138d5e9ab7697d3977bc0490529bebd8073c354ce3bca9625a6416"), looks := true }, kinds := [], alts := [], laidByText := true, laidKinds := [.data, .data, .data, .data, .sentinel, .sentinel, .pinned], laidTests := true, laidLooks := .later }
def SetOrdersCardSaid : Prop := Claim7.holds Tryz.pinned (.plain (OpenSpec.ofChange setOrdersSpec)) setOrdersCard

/-- THE TIED CARD OF 'klaxonlaw13.SetSigns'. -/
def setSignsCard : Claim7 := { stood := { row := setSignsRow, standIns := [], harness := (true, "edcc968d0c138d5e9ab7697d3977bc0490529bebd8073c354ce3bca9625a6416"), looks := true }, kinds := [], alts := [], laidByText := true, laidKinds := [.data, .data, .data, .data, .sentinel, .sentinel, .pinned], laidTests := true, laidLooks := .later }
def SetSignsCardSaid : Prop := Claim7.holds Tryz.pinned (.plain (OpenSpec.ofChange setSignsSpec)) setSignsCard

/-- THE TIED CARD OF 'klaxonlaw13.SetLines'. -/
def setLinesCard : Claim7 := { stood := { row := setLinesRow, standIns := [], harness := (true, "edcc968d0c138d5e9ab7697d3977bc0490529bebd8073c354ce3bca9625a6416"), looks := true }, kinds := [], alts := [], laidByText := true, laidKinds := [.data, .data, .data, .data, .sentinel, .sentinel, .pinned], laidTests := true, laidLooks := .later }
def SetLinesCardSaid : Prop := Claim7.holds Tryz.pinned (.plain (OpenSpec.ofChange setLinesSpec)) setLinesCard

/-- THE SECOND FORM's CARD OF 'klaxonlaw13.SetRights'. -/
def setRightsUptoCard : Claim7 := { stood := { row := setRightsUptoRow, standIns := [], harness := (true, "edcc968d0c138d5e9ab7697d3977bc0490529bebd8073c354ce3bca9625a6416"), looks := true }, kinds := [], alts := [], laidByText := true, laidKinds := [.data, .data, .data, .data, .sentinel, .sentinel, .pinned], laidTests := true, laidLooks := .later }
def SetRightsUptoCardSaid : Prop := Claim7.holds Tryz.pinned (.plain (OpenSpec.upto setRightsSpec)) setRightsUptoCard

/-- THE SECOND FORM's CARD OF 'klaxonlaw13.SetReads'. -/
def setReadsUptoCard : Claim7 := { stood := { row := setReadsUptoRow, standIns := [], harness := (true, "edcc968d0c138d5e9ab7697d3977bc0490529bebd8073c354ce3bca9625a6416"), looks := true }, kinds := [], alts := [], laidByText := true, laidKinds := [.data, .data, .data, .data, .sentinel, .sentinel, .pinned], laidTests := true, laidLooks := .later }
def SetReadsUptoCardSaid : Prop := Claim7.holds Tryz.pinned (.plain (OpenSpec.upto setReadsSpec)) setReadsUptoCard

/-- THE SECOND FORM's CARD OF 'klaxonlaw13.SetOrders'. -/
def setOrdersUptoCard : Claim7 := { stood := { row := setOrdersUptoRow, standIns := [], harness := (true, "edcc968d0c138d5e9ab7697d3977bc0490529bebd8073c354ce3bca9625a6416"), looks := true }, kinds := [], alts := [], laidByText := true, laidKinds := [.data, .data, .data, .data, .sentinel, .sentinel, .pinned], laidTests := true, laidLooks := .later }
def SetOrdersUptoCardSaid : Prop := Claim7.holds Tryz.pinned (.plain (OpenSpec.upto setOrdersSpec)) setOrdersUptoCard

/-- THE SECOND FORM's CARD OF 'klaxonlaw13.SetSigns'. -/
def setSignsUptoCard : Claim7 := { stood := { row := setSignsUptoRow, standIns := [], harness := (true, "edcc968d0c138d5e9ab7697d3977bc0490529bebd8073c354ce3bca9625a6416"), looks := true }, kinds := [], alts := [], laidByText := true, laidKinds := [.data, .data, .data, .data, .sentinel, .sentinel, .pinned], laidTests := true, laidLooks := .later }
def SetSignsUptoCardSaid : Prop := Claim7.holds Tryz.pinned (.plain (OpenSpec.upto setSignsSpec)) setSignsUptoCard

/-- THE SECOND FORM's CARD OF 'klaxonlaw13.SetLines'. -/
def setLinesUptoCard : Claim7 := { stood := { row := setLinesUptoRow, standIns := [], harness := (true, "edcc968d0c138d5e9ab7697d3977bc0490529bebd8073c354ce3bca9625a6416"), looks := true }, kinds := [], alts := [], laidByText := true, laidKinds := [.data, .data, .data, .data, .sentinel, .sentinel, .pinned], laidTests := true, laidLooks := .later }
def SetLinesUptoCardSaid : Prop := Claim7.holds Tryz.pinned (.plain (OpenSpec.upto setLinesSpec)) setLinesUptoCard
end Rows
end Go.Proofs.YtdknmcaemebgfaaGreatDoor
