/-
  DERIVED. GIVEN WITH THE SEED: THE CARDS: each row of YtfchdibbjaeocaaGreatDoorRows.lean that lists a variable, with what it lists TIED to the program's text (the seventh form; the later family's looks); each row that meets fmt, with fmt's text TOLD by the authors' own Lean function (tested against real Go, not proved from fmt's source: count such statements apart). THE CARD IS WHAT COUNTS. Prove the row's statement (the work); the ties are given (YtfchdibbjaeocaaGreatDoorTie.lean); close each card by the builder's one call (the guide's Derived/Test/ToyasCard.lean, 'card_holds'). Laid BY PROGRAM, IN A SANDBOX (cutbox-door.mjs). By AI agents, Wed Nov 11 2026. No macro, syntax, notation, axiom, sorry.
-/
import Derived.Test.YtfchdibbjaeocaaGreatDoorRows
import GoSem.ClaimSeven
namespace Go.Proofs.YtfchdibbjaeocaaGreatDoor
namespace Rows

/-- THE TIED CARD OF 'klaxonlaw13.SetRights'. -/
def setRightsCard : Claim7 := { stood := { row := setRightsRow, standIns := [], harness := (true, "f13b97b84cdc3754a716503188d89966f67a35ff2fe0f07f6bab0a3a6b74aa9f"), looks := true }, kinds := [], alts := [], laidByText := true, laidKinds := [.data, .data, .data, .data, .sentinel, .sentinel, .pinned], laidTests := true, laidLooks := .later }
def SetRightsCardSaid : Prop := Claim7.holds Tryz.pinned (.plain (OpenSpec.ofChange setRightsSpec)) setRightsCard

/-- THE TIED CARD OF 'klaxonlaw13.SetReads'. -/
def setReadsCard : Claim7 := { stood := { row := setReadsRow, standIns := [], harness := (true, "f13b97b84cdc3754a716503188d89966f67a35ff2fe0f07f6bab0a3a6b74aa9f"), looks := true }, kinds := [], alts := [], laidByText := true, laidKinds := [.data, .data, .data, .data, .sentinel, .sentinel, .pinned], laidTests := true, laidLooks := .later }
def SetReadsCardSaid : Prop := Claim7.holds Tryz.pinned (.plain (OpenSpec.ofChange setReadsSpec)) setReadsCard

/-- THE TIED CARD OF 'klaxonlaw13.SetOrders'. -/
def setOrdersCard : Claim7 := { stood := { row := setOrdersRow, standIns := [], harness := (true, "f13b97b84cdc3754a716503188d89966f67a35ff2fe0f07f6bab0a3a6b74aa9f"), looks := true }, kinds := [], alts := [], laidByText := true, laidKinds := [.data, .data, .data, .data, .sentinel, .sentinel, .pinned], laidTests := true, laidLooks := .later }
def SetOrdersCardSaid : Prop := Claim7.holds Tryz.pinned (.plain (OpenSpec.ofChange setOrdersSpec)) setOrdersCard

/-- THE TIED CARD OF 'klaxonlaw13.SetSigns'. -/
def setSignsCard : Claim7 := { stood := { row := setSignsRow, standIns := [], harness := (true, "f13b97b84cdc3754a716503188d89966f67a35ff2fe0f07f6bab0a3a6b74aa9f"), looks := true }, kinds := [], alts := [], laidByText := true, laidKinds := [.data, .data, .data, .data, .sentinel, .sentinel, .pinned], laidTests := true, laidLooks := .later }
def SetSignsCardSaid : Prop := Claim7.holds Tryz.pinned (.plain (OpenSpec.ofChange setSignsSpec)) setSignsCard

/-- THE TIED CARD OF 'klaxonlaw13.SetTokens'. -/
def setTokensCard : Claim7 := { stood := { row := setTokensRow, standIns := [], harness := (true, "f13b97b84cdc3754a716503188d89966f67a35ff2fe0f07f6bab0a3a6b74aa9f"), looks := true }, kinds := [], alts := [], laidByText := true, laidKinds := [.data, .data, .data, .data, .sentinel, .sentinel, .pinned], laidTests := true, laidLooks := .later }
def SetTokensCardSaid : Prop := Claim7.holds Tryz.pinned (.plain (OpenSpec.ofChange setTokensSpec)) setTokensCard

/-- THE TIED CARD OF 'klaxonlaw13.SetNames'. -/
def setNamesCard : Claim7 := { stood := { row := setNamesRow, standIns := [], harness := (true, "f13b97b84cdc3754a716503188d89966f67a35ff2fe0f07f6bab0a3a6b74aa9f"), looks := true }, kinds := [], alts := [], laidByText := true, laidKinds := [.data, .data, .data, .data, .sentinel, .sentinel, .pinned], laidTests := true, laidLooks := .later }
def SetNamesCardSaid : Prop := Claim7.holds Tryz.pinned (.plain (OpenSpec.ofChange setNamesSpec)) setNamesCard

/-- THE TIED CARD OF 'klaxonlaw13.SetLines'. -/
def setLinesCard : Claim7 := { stood := { row := setLinesRow, standIns := [], harness := (true, "f13b97b84cdc3754a716503188d89966f67a35ff2fe0f07f6bab0a3a6b74aa9f"), looks := true }, kinds := [], alts := [], laidByText := true, laidKinds := [.data, .data, .data, .data, .sentinel, .sentinel, .pinned], laidTests := true, laidLooks := .later }
def SetLinesCardSaid : Prop := Claim7.holds Tryz.pinned (.plain (OpenSpec.ofChange setLinesSpec)) setLinesCard

/-- THE TIED CARD OF 'klaxonlaw14.RingReads'. -/
def ringReadsCard : Claim7 := { stood := { row := ringReadsRow, standIns := [], harness := (true, "f13b97b84cdc3754a716503188d89966f67a35ff2fe0f07f6bab0a3a6b74aa9f"), looks := true }, kinds := [], alts := [], laidByText := true, laidKinds := [.data, .data, .data, .data, .sentinel, .sentinel, .pinned], laidTests := true, laidLooks := .later }
def RingReadsCardSaid : Prop := Claim7.holds Tryz.pinned (.plain (OpenSpec.ofChange ringReadsSpec)) ringReadsCard

/-- THE TIED CARD OF 'klaxonlaw14.RingSigns'. -/
def ringSignsCard : Claim7 := { stood := { row := ringSignsRow, standIns := [], harness := (true, "f13b97b84cdc3754a716503188d89966f67a35ff2fe0f07f6bab0a3a6b74aa9f"), looks := true }, kinds := [], alts := [], laidByText := true, laidKinds := [.data, .data, .data, .data, .sentinel, .sentinel, .pinned], laidTests := true, laidLooks := .later }
def RingSignsCardSaid : Prop := Claim7.holds Tryz.pinned (.plain (OpenSpec.ofChange ringSignsSpec)) ringSignsCard

/-- THE SECOND FORM's CARD OF 'klaxonlaw13.SetRights'. -/
def setRightsUptoCard : Claim7 := { stood := { row := setRightsUptoRow, standIns := [], harness := (true, "f13b97b84cdc3754a716503188d89966f67a35ff2fe0f07f6bab0a3a6b74aa9f"), looks := true }, kinds := [], alts := [], laidByText := true, laidKinds := [.data, .data, .data, .data, .sentinel, .sentinel, .pinned], laidTests := true, laidLooks := .later }
def SetRightsUptoCardSaid : Prop := Claim7.holds Tryz.pinned (.plain (OpenSpec.upto setRightsSpec)) setRightsUptoCard

/-- THE SECOND FORM's CARD OF 'klaxonlaw13.SetReads'. -/
def setReadsUptoCard : Claim7 := { stood := { row := setReadsUptoRow, standIns := [], harness := (true, "f13b97b84cdc3754a716503188d89966f67a35ff2fe0f07f6bab0a3a6b74aa9f"), looks := true }, kinds := [], alts := [], laidByText := true, laidKinds := [.data, .data, .data, .data, .sentinel, .sentinel, .pinned], laidTests := true, laidLooks := .later }
def SetReadsUptoCardSaid : Prop := Claim7.holds Tryz.pinned (.plain (OpenSpec.upto setReadsSpec)) setReadsUptoCard

/-- THE SECOND FORM's CARD OF 'klaxonlaw13.SetOrders'. -/
def setOrdersUptoCard : Claim7 := { stood := { row := setOrdersUptoRow, standIns := [], harness := (true, "f13b97b84cdc3754a716503188d89966f67a35ff2fe0f07f6bab0a3a6b74aa9f"), looks := true }, kinds := [], alts := [], laidByText := true, laidKinds := [.data, .data, .data, .data, .sentinel, .sentinel, .pinned], laidTests := true, laidLooks := .later }
def SetOrdersUptoCardSaid : Prop := Claim7.holds Tryz.pinned (.plain (OpenSpec.upto setOrdersSpec)) setOrdersUptoCard

/-- THE SECOND FORM's CARD OF 'klaxonlaw13.SetSigns'. -/
def setSignsUptoCard : Claim7 := { stood := { row := setSignsUptoRow, standIns := [], harness := (true, "f13b97b84cdc3754a716503188d89966f67a35ff2fe0f07f6bab0a3a6b74aa9f"), looks := true }, kinds := [], alts := [], laidByText := true, laidKinds := [.data, .data, .data, .data, .sentinel, .sentinel, .pinned], laidTests := true, laidLooks := .later }
def SetSignsUptoCardSaid : Prop := Claim7.holds Tryz.pinned (.plain (OpenSpec.upto setSignsSpec)) setSignsUptoCard

/-- THE SECOND FORM's CARD OF 'klaxonlaw13.SetTokens'. -/
def setTokensUptoCard : Claim7 := { stood := { row := setTokensUptoRow, standIns := [], harness := (true, "f13b97b84cdc3754a716503188d89966f67a35ff2fe0f07f6bab0a3a6b74aa9f"), looks := true }, kinds := [], alts := [], laidByText := true, laidKinds := [.data, .data, .data, .data, .sentinel, .sentinel, .pinned], laidTests := true, laidLooks := .later }
def SetTokensUptoCardSaid : Prop := Claim7.holds Tryz.pinned (.plain (OpenSpec.upto setTokensSpec)) setTokensUptoCard

/-- THE SECOND FORM's CARD OF 'klaxonlaw13.SetNames'. -/
def setNamesUptoCard : Claim7 := { stood := { row := setNamesUptoRow, standIns := [], harness := (true, "f13b97b84cdc3754a716503188d89966f67a35ff2fe0f07f6bab0a3a6b74aa9f"), looks := true }, kinds := [], alts := [], laidByText := true, laidKinds := [.data, .data, .data, .data, .sentinel, .sentinel, .pinned], laidTests := true, laidLooks := .later }
def SetNamesUptoCardSaid : Prop := Claim7.holds Tryz.pinned (.plain (OpenSpec.upto setNamesSpec)) setNamesUptoCard

/-- THE SECOND FORM's CARD OF 'klaxonlaw13.SetLines'. -/
def setLinesUptoCard : Claim7 := { stood := { row := setLinesUptoRow, standIns := [], harness := (true, "f13b97b84cdc3754a716503188d89966f67a35ff2fe0f07f6bab0a3a6b74aa9f"), looks := true }, kinds := [], alts := [], laidByText := true, laidKinds := [.data, .data, .data, .data, .sentinel, .sentinel, .pinned], laidTests := true, laidLooks := .later }
def SetLinesUptoCardSaid : Prop := Claim7.holds Tryz.pinned (.plain (OpenSpec.upto setLinesSpec)) setLinesUptoCard

/-- THE SECOND FORM's CARD OF 'klaxonlaw14.RingReads'. -/
def ringReadsUptoCard : Claim7 := { stood := { row := ringReadsUptoRow, standIns := [], harness := (true, "f13b97b84cdc3754a716503188d89966f67a35ff2fe0f07f6bab0a3a6b74aa9f"), looks := true }, kinds := [], alts := [], laidByText := true, laidKinds := [.data, .data, .data, .data, .sentinel, .sentinel, .pinned], laidTests := true, laidLooks := .later }
def RingReadsUptoCardSaid : Prop := Claim7.holds Tryz.pinned (.plain (OpenSpec.upto ringReadsSpec)) ringReadsUptoCard

/-- THE SECOND FORM's CARD OF 'klaxonlaw14.RingSigns'. -/
def ringSignsUptoCard : Claim7 := { stood := { row := ringSignsUptoRow, standIns := [], harness := (true, "f13b97b84cdc3754a716503188d89966f67a35ff2fe0f07f6bab0a3a6b74aa9f"), looks := true }, kinds := [], alts := [], laidByText := true, laidKinds := [.data, .data, .data, .data, .sentinel, .sentinel, .pinned], laidTests := true, laidLooks := .later }
def RingSignsUptoCardSaid : Prop := Claim7.holds Tryz.pinned (.plain (OpenSpec.upto ringSignsSpec)) ringSignsUptoCard
end Rows
end Go.Proofs.YtfchdibbjaeocaaGreatDoor
