/-
  DERIVED. GIVEN WITH THE SEED: THE CARDS: each row of YtbjiioclhgdeeaaGreatDoorRows.lean that lists a variable, with what it lists TIED to the program's text (the seventh form; the later family's looks); each row that meets fmt, with fmt's text TOLD by the authors' own Lean function (tested against real Go, not proved from fmt's source: count such statements apart). THE CARD IS WHAT COUNTS. Prove the row's statement (the work); the ties are given (YtbjiioclhgdeeaaGreatDoorTie.lean); close each card by the builder's one call (the guide's Derived/Test/ToyasCard.lean, 'card_holds'). Laid BY PROGRAM, IN A SANDBOX (cutbox-door.mjs). By AI agents, Wed Nov 11 2026. No macro, syntax, notation, axiom, sorry.
-/
import Derived.Test.YtbjiioclhgdeeaaGreatDoorRows
import GoSem.ClaimSeven
namespace Go.Proofs.YtbjiioclhgdeeaaGreatDoor
namespace Rows

/-- THE TIED CARD OF 'klaxonlaw17.BookCounters'. -/
def bookCountersCard : Claim7 := { stood := { row := bookCountersRow, standIns := [], harness := (true, "518618951f011b64a2a166f40926d99827e0143f7ee434f359a20c3e2b46ff27"), looks := true }, kinds := [], alts := [], laidByText := true, laidKinds := [.data, .data, .data, .data, .sentinel, .sentinel, .pinned], laidTests := true, laidLooks := .later }
def BookCountersCardSaid : Prop := Claim7.holds Tryz.pinned (.plain (OpenSpec.ofChange bookCountersSpec)) bookCountersCard

/-- THE TIED CARD OF 'klaxonlaw17.BookCrashes'. -/
def bookCrashesCard : Claim7 := { stood := { row := bookCrashesRow, standIns := [], harness := (true, "518618951f011b64a2a166f40926d99827e0143f7ee434f359a20c3e2b46ff27"), looks := true }, kinds := [], alts := [], laidByText := true, laidKinds := [.data, .data, .data, .data, .sentinel, .sentinel, .pinned], laidTests := true, laidLooks := .later }
def BookCrashesCardSaid : Prop := Claim7.holds Tryz.pinned (.plain (OpenSpec.ofChange bookCrashesSpec)) bookCrashesCard

/-- THE TIED CARD OF 'klaxonlaw17.BookRecords'. -/
def bookRecordsCard : Claim7 := { stood := { row := bookRecordsRow, standIns := [], harness := (true, "518618951f011b64a2a166f40926d99827e0143f7ee434f359a20c3e2b46ff27"), looks := true }, kinds := [], alts := [], laidByText := true, laidKinds := [.data, .data, .data, .data, .sentinel, .sentinel, .pinned], laidTests := true, laidLooks := .later }
def BookRecordsCardSaid : Prop := Claim7.holds Tryz.pinned (.plain (OpenSpec.ofChange bookRecordsSpec)) bookRecordsCard

/-- THE TIED CARD OF 'klaxonlaw17.BookPlays'. -/
def bookPlaysCard : Claim7 := { stood := { row := bookPlaysRow, standIns := [], harness := (true, "518618951f011b64a2a166f40926d99827e0143f7ee434f359a20c3e2b46ff27"), looks := true }, kinds := [], alts := [], laidByText := true, laidKinds := [.data, .data, .data, .data, .sentinel, .sentinel, .pinned], laidTests := true, laidLooks := .later }
def BookPlaysCardSaid : Prop := Claim7.holds Tryz.pinned (.plain (OpenSpec.ofChange bookPlaysSpec)) bookPlaysCard

/-- THE SECOND FORM's CARD OF 'klaxonlaw17.BookCounters'. -/
def bookCountersUptoCard : Claim7 := { stood := { row := bookCountersUptoRow, standIns := [], harness := (true, "518618951f011b64a2a166f40926d99827e0143f7ee434f359a20c3e2b46ff27"), looks := true }, kinds := [], alts := [], laidByText := true, laidKinds := [.data, .data, .data, .data, .sentinel, .sentinel, .pinned], laidTests := true, laidLooks := .later }
def BookCountersUptoCardSaid : Prop := Claim7.holds Tryz.pinned (.plain (OpenSpec.upto bookCountersSpec)) bookCountersUptoCard

/-- THE SECOND FORM's CARD OF 'klaxonlaw17.BookCrashes'. -/
def bookCrashesUptoCard : Claim7 := { stood := { row := bookCrashesUptoRow, standIns := [], harness := (true, "518618951f011b64a2a166f40926d99827e0143f7ee434f359a20c3e2b46ff27"), looks := true }, kinds := [], alts := [], laidByText := true, laidKinds := [.data, .data, .data, .data, .sentinel, .sentinel, .pinned], laidTests := true, laidLooks := .later }
def BookCrashesUptoCardSaid : Prop := Claim7.holds Tryz.pinned (.plain (OpenSpec.upto bookCrashesSpec)) bookCrashesUptoCard

/-- THE SECOND FORM's CARD OF 'klaxonlaw17.BookRecords'. -/
def bookRecordsUptoCard : Claim7 := { stood := { row := bookRecordsUptoRow, standIns := [], harness := (true, "518618951f011b64a2a166f40926d99827e0143f7ee434f359a20c3e2b46ff27"), looks := true }, kinds := [], alts := [], laidByText := true, laidKinds := [.data, .data, .data, .data, .sentinel, .sentinel, .pinned], laidTests := true, laidLooks := .later }
def BookRecordsUptoCardSaid : Prop := Claim7.holds Tryz.pinned (.plain (OpenSpec.upto bookRecordsSpec)) bookRecordsUptoCard

/-- THE SECOND FORM's CARD OF 'klaxonlaw17.BookPlays'. -/
def bookPlaysUptoCard : Claim7 := { stood := { row := bookPlaysUptoRow, standIns := [], harness := (true, "518618951f011b64a2a166f40926d99827e0143f7ee434f359a20c3e2b46ff27"), looks := true }, kinds := [], alts := [], laidByText := true, laidKinds := [.data, .data, .data, .data, .sentinel, .sentinel, .pinned], laidTests := true, laidLooks := .later }
def BookPlaysUptoCardSaid : Prop := Claim7.holds Tryz.pinned (.plain (OpenSpec.upto bookPlaysSpec)) bookPlaysUptoCard
end Rows
end Go.Proofs.YtbjiioclhgdeeaaGreatDoor
