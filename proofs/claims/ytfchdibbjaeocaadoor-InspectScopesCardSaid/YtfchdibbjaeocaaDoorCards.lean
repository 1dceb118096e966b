/-
  DERIVED. GIVEN WITH THE SEED: THE CARDS: each row of YtfchdibbjaeocaaDoorRows.lean that lists a variable, with what it lists TIED to the program's text (the seventh form; the later family's looks); each row that meets fmt, with fmt's text TOLD by the authors' own Lean function (tested against real Go, not proved from fmt's source: count such statements apart). THE CARD IS WHAT COUNTS. Prove the row's statement (the work); the ties are given (YtfchdibbjaeocaaDoorTie.lean); close each card by the builder's one call (the guide's Derived/Test/ToyasCard.lean, 'card_holds'). Laid BY PROGRAM, IN A SANDBOX (cutbox-door.mjs). By AI agents, Wed Nov 11 2026. No macro, syntax, notation, axiom, sorry.
-/
import Derived.Test.YtfchdibbjaeocaaDoorRows
import GoSem.ClaimSeven
namespace Go.Proofs.YtfchdibbjaeocaaDoor
namespace Rows

/-- THE TIED CARD OF 'klaxonlaw14.RingKeys'. -/
def ringKeysCard : Claim7 := { stood := { row := ringKeysRow, standIns := [], harness := (true, "e5e59c7188cb92cbb772a41309ca1a1ff3a78735763d525a7a96e0a331283bf9"), looks := true }, kinds := [], alts := [], laidByText := true, laidKinds := [.data, .data, .data, .sentinel, .sentinel], laidTests := true, laidLooks := .later }
def RingKeysCardSaid : Prop := Claim7.holds Tryd.pinned (.plain (OpenSpec.ofChange ringKeysSpec)) ringKeysCard

/-- THE TIED CARD OF 'klaxonlaw14.RingOwn'. -/
def ringOwnCard : Claim7 := { stood := { row := ringOwnRow, standIns := [], harness := (true, "e5e59c7188cb92cbb772a41309ca1a1ff3a78735763d525a7a96e0a331283bf9"), looks := true }, kinds := [], alts := [], laidByText := true, laidKinds := [.data, .data, .data, .sentinel, .sentinel], laidTests := true, laidLooks := .later }
def RingOwnCardSaid : Prop := Claim7.holds Tryd.pinned (.plain (OpenSpec.ofChange ringOwnSpec)) ringOwnCard

/-- THE TIED CARD OF 'klaxonlaw20.InspectScopes'. -/
def inspectScopesCard : Claim7 := { stood := { row := inspectScopesRow, standIns := [], harness := (true, "e5e59c7188cb92cbb772a41309ca1a1ff3a78735763d525a7a96e0a331283bf9"), looks := true }, kinds := [], alts := [], laidByText := true, laidKinds := [.data, .pinned], laidTests := true, laidLooks := .later }
def InspectScopesCardSaid : Prop := Claim7.holds Tryd.pinned (.plain (OpenSpec.ofChange inspectScopesSpec)) inspectScopesCard

/-- THE SECOND FORM's CARD OF 'klaxonlaw14.RingKeys'. -/
def ringKeysUptoCard : Claim7 := { stood := { row := ringKeysUptoRow, standIns := [], harness := (true, "e5e59c7188cb92cbb772a41309ca1a1ff3a78735763d525a7a96e0a331283bf9"), looks := true }, kinds := [], alts := [], laidByText := true, laidKinds := [.data, .data, .data, .sentinel, .sentinel], laidTests := true, laidLooks := .later }
def RingKeysUptoCardSaid : Prop := Claim7.holds Tryd.pinned (.plain (OpenSpec.upto ringKeysSpec)) ringKeysUptoCard

/-- THE SECOND FORM's CARD OF 'klaxonlaw14.RingOwn'. -/
def ringOwnUptoCard : Claim7 := { stood := { row := ringOwnUptoRow, standIns := [], harness := (true, "e5e59c7188cb92cbb772a41309ca1a1ff3a78735763d525a7a96e0a331283bf9"), looks := true }, kinds := [], alts := [], laidByText := true, laidKinds := [.data, .data, .data, .sentinel, .sentinel], laidTests := true, laidLooks := .later }
def RingOwnUptoCardSaid : Prop := Claim7.holds Tryd.pinned (.plain (OpenSpec.upto ringOwnSpec)) ringOwnUptoCard

/-- THE SECOND FORM's CARD OF 'klaxonlaw20.InspectScopes'. -/
def inspectScopesUptoCard : Claim7 := { stood := { row := inspectScopesUptoRow, standIns := [], harness := (true, "e5e59c7188cb92cbb772a41309ca1a1ff3a78735763d525a7a96e0a331283bf9"), looks := true }, kinds := [], alts := [], laidByText := true, laidKinds := [.data, .pinned], laidTests := true, laidLooks := .later }
def InspectScopesUptoCardSaid : Prop := Claim7.holds Tryd.pinned (.plain (OpenSpec.upto inspectScopesSpec)) inspectScopesUptoCard
end Rows
end Go.Proofs.YtfchdibbjaeocaaDoor
