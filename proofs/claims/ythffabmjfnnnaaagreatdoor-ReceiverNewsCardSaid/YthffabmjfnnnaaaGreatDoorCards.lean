/-
  DERIVED. GIVEN WITH THE SEED: THE CARDS: each row of YthffabmjfnnnaaaGreatDoorRows.lean that lists a variable, with what it lists TIED to the program's text (the seventh form; the later family's looks); each row that meets fmt, with fmt's text TOLD by the authors' own Lean function (tested against real Go, not proved from fmt's source: count such statements apart). THE CARD IS WHAT COUNTS. Prove the row's statement (the work); the ties are given (YthffabmjfnnnaaaGreatDoorTie.lean); close each card by the builder's one call (the guide's Derived/Test/ToyasCard.lean, 'card_holds'). Laid BY PROGRAM, IN A SANDBOX (cutbox-door.mjs). By AI agents, Wed Nov 11 2026. No macro, syntax, notation, axiom, sorry.
-/
import Derived.Test.YthffabmjfnnnaaaGreatDoorRows
import GoSem.ClaimSeven
namespace Go.Proofs.YthffabmjfnnnaaaGreatDoor
namespace Rows

/-- THE TIED CARD OF 'klaxonlaw30.ReceiverLooks'. -/
def receiverLooksCard : Claim7 := { stood := { row := receiverLooksRow, standIns := [], harness := (true, "ec4676953b341a6ffbd6d55efb6a9835fe98844d95c0faef2bbf0aaa47ff7310"), looks := true }, kinds := [], alts := [], laidByText := true, laidKinds := [.data, .data, .data, .data, .sentinel, .sentinel, .pinned], laidTests := true, laidLooks := .later }
def ReceiverLooksCardSaid : Prop := Claim7.holds Tryz.pinned (.plain (OpenSpec.ofChange receiverLooksSpec)) receiverLooksCard

/-- THE TIED CARD OF 'klaxonlaw30.ReceiverNews'. -/
def receiverNewsCard : Claim7 := { stood := { row := receiverNewsRow, standIns := [], harness := (true, "ec4676953b341a6ffbd6d55efb6a9835fe98844d95c0faef2bbf0aaa47ff7310"), looks := true }, kinds := [], alts := [], laidByText := true, laidKinds := [.data, .data, .data, .data, .sentinel, .sentinel, .pinned], laidTests := true, laidLooks := .later }
def ReceiverNewsCardSaid : Prop := Claim7.holds Tryz.pinned (.plain (OpenSpec.ofChange receiverNewsSpec)) receiverNewsCard

/-- THE TIED CARD OF 'klaxonlaw30.ReceiverLoads'. -/
def receiverLoadsCard : Claim7 := { stood := { row := receiverLoadsRow, standIns := [], harness := (true, "ec4676953b341a6ffbd6d55efb6a9835fe98844d95c0faef2bbf0aaa47ff7310"), looks := true }, kinds := [], alts := [], laidByText := true, laidKinds := [.data, .data, .data, .data, .sentinel, .sentinel, .pinned], laidTests := true, laidLooks := .later }
def ReceiverLoadsCardSaid : Prop := Claim7.holds Tryz.pinned (.plain (OpenSpec.ofChange receiverLoadsSpec)) receiverLoadsCard

/-- THE TIED CARD OF 'klaxonlaw30.ReceiverSaves'. -/
def receiverSavesCard : Claim7 := { stood := { row := receiverSavesRow, standIns := [], harness := (true, "ec4676953b341a6ffbd6d55efb6a9835fe98844d95c0faef2bbf0aaa47ff7310"), looks := true }, kinds := [], alts := [], laidByText := true, laidKinds := [.data, .data, .data, .data, .sentinel, .sentinel, .pinned], laidTests := true, laidLooks := .later }
def ReceiverSavesCardSaid : Prop := Claim7.holds Tryz.pinned (.plain (OpenSpec.ofChange receiverSavesSpec)) receiverSavesCard

/-- THE TIED CARD OF 'klaxonlaw30.ReceiverOrder'. -/
def receiverOrderCard : Claim7 := { stood := { row := receiverOrderRow, standIns := [], harness := (true, "ec4676953b341a6ffbd6d55efb6a9835fe98844d95c0faef2bbf0aaa47ff7310"), looks := true }, kinds := [], alts := [], laidByText := true, laidKinds := [.data, .data, .data, .data, .sentinel, .sentinel, .pinned], laidTests := true, laidLooks := .later }
def ReceiverOrderCardSaid : Prop := Claim7.holds Tryz.pinned (.plain (OpenSpec.ofChange receiverOrderSpec)) receiverOrderCard

/-- THE SECOND FORM's CARD OF 'klaxonlaw30.ReceiverLooks'. -/
def receiverLooksUptoCard : Claim7 := { stood := { row := receiverLooksUptoRow, standIns := [], harness := (true, "ec4676953b341a6ffbd6d55efb6a9835fe98844d95c0faef2bbf0aaa47ff7310"), looks := true }, kinds := [], alts := [], laidByText := true, laidKinds := [.data, .data, .data, .data, .sentinel, .sentinel, .pinned], laidTests := true, laidLooks := .later }
def ReceiverLooksUptoCardSaid : Prop := Claim7.holds Tryz.pinned (.plain (OpenSpec.upto receiverLooksSpec)) receiverLooksUptoCard

/-- THE SECOND FORM's CARD OF 'klaxonlaw30.ReceiverNews'. -/
def receiverNewsUptoCard : Claim7 := { stood := { row := receiverNewsUptoRow, standIns := [], harness := (true, "ec4676953b341a6ffbd6d55efb6a9835fe98844d95c0faef2bbf0aaa47ff7310"), looks := true }, kinds := [], alts := [], laidByText := true, laidKinds := [.data, .data, .data, .data, .sentinel, .sentinel, .pinned], laidTests := true, laidLooks := .later }
def ReceiverNewsUptoCardSaid : Prop := Claim7.holds Tryz.pinned (.plain (OpenSpec.upto receiverNewsSpec)) receiverNewsUptoCard

/-- THE SECOND FORM's CARD OF 'klaxonlaw30.ReceiverLoads'. -/
def receiverLoadsUptoCard : Claim7 := { stood := { row := receiverLoadsUptoRow, standIns := [], harness := (true, "ec4676953b341a6ffbd6d55efb6a9835fe98844d95c0faef2bbf0aaa47ff7310"), looks := true }, kinds := [], alts := [], laidByText := true, laidKinds := [.data, .data, .data, .data, .sentinel, .sentinel, .pinned], laidTests := true, laidLooks := .later }
def ReceiverLoadsUptoCardSaid : Prop := Claim7.holds Tryz.pinned (.plain (OpenSpec.upto receiverLoadsSpec)) receiverLoadsUptoCard

/-- THE SECOND FORM's CARD OF 'klaxonlaw30.ReceiverSaves'. -/
def receiverSavesUptoCard : Claim7 := { stood := { row := receiverSavesUptoRow, standIns := [], harness := (true, "ec4676953b341a6ffbd6d55efb6a9835fe98844d95c0faef2bbf0aaa47ff7310"), looks := true }, kinds := [], alts := [], laidByText := true, laidKinds := [.data, .data, .data, .data, .sentinel, .sentinel, .pinned], laidTests := true, laidLooks := .later }
def ReceiverSavesUptoCardSaid : Prop := Claim7.holds Tryz.pinned (.plain (OpenSpec.upto receiverSavesSpec)) receiverSavesUptoCard

/-- THE SECOND FORM's CARD OF 'klaxonlaw30.ReceiverOrder'. -/
def receiverOrderUptoCard : Claim7 := { stood := { row := receiverOrderUptoRow, standIns := [], harness := (true, "ec4676953b341a6ffbd6d55efb6a9835fe98844d95c0faef2bbf0aaa47ff7310"), looks := true }, kinds := [], alts := [], laidByText := true, laidKinds := [.data, .data, .data, .data, .sentinel, .sentinel, .pinned], laidTests := true, laidLooks := .later }
def ReceiverOrderUptoCardSaid : Prop := Claim7.holds Tryz.pinned (.plain (OpenSpec.upto receiverOrderSpec)) receiverOrderUptoCard
end Rows
end Go.Proofs.YthffabmjfnnnaaaGreatDoor
