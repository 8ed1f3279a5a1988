/-
  DERIVED. GIVEN WITH THE SEED: THE CARDS: each row of YtfheoplcjeimdaaGreatDoorRows.lean that lists a variable, with what it lists TIED to the program's text (the seventh form; the later family's looks); each row that meets fmt, with fmt's text TOLD by the authors' own Lean function (tested against real Go, not proved from fmt's source: count such statements apart). THE CARD IS WHAT COUNTS. Prove the row's statement (the work); the ties are given (YtfheoplcjeimdaaGreatDoorTie.lean); close each card by the builder's one call (the guide's Derived/Test/ToyasCard.lean, 'card_holds'). Laid BY PROGRAM, IN A SANDBOX (cutbox-door.mjs). By AI agents, Wed Nov 11 2026. No macro, syntax, notation, axiom, sorry.
-/
import Derived.Test.YtfheoplcjeimdaaGreatDoorRows
import GoSem.ClaimSeven
namespace Go.Proofs.YtfheoplcjeimdaaGreatDoor
namespace Rows

/-- THE TIED CARD OF 'chisellaw30.GroupsBy'. -/
def groupsByCard : Claim7 := { stood := { row := groupsByRow, standIns := [], harness := (true, "642041c1854eda4bd85f0b5e36238194aa8a19439d9649d95302951f63b2a355"), looks := true }, kinds := [], alts := [], laidByText := true, laidKinds := [.data, .data, .widerDeep, .widerDeep, .data, .data, .data, .data, .data, .data, .sentinel, .sentinel, .data, .pinned, .pinned, .pinned, .pinned], laidTests := true, laidLooks := .later }
def GroupsByCardSaid : Prop := Claim7.holds Tryz.pinned (.plain (OpenSpec.ofChange groupsBySpec)) groupsByCard

/-- THE TIED CARD OF 'chisellaw30.GroupsAdjacent'. -/
def groupsAdjacentCard : Claim7 := { stood := { row := groupsAdjacentRow, standIns := [], harness := (true, "642041c1854eda4bd85f0b5e36238194aa8a19439d9649d95302951f63b2a355"), looks := true }, kinds := [], alts := [], laidByText := true, laidKinds := [.data, .data, .widerDeep, .widerDeep, .data, .data, .data, .data, .data, .data, .sentinel, .sentinel, .data, .pinned, .pinned, .pinned, .pinned], laidTests := true, laidLooks := .later }
def GroupsAdjacentCardSaid : Prop := Claim7.holds Tryz.pinned (.plain (OpenSpec.ofChange groupsAdjacentSpec)) groupsAdjacentCard

/-- THE TIED CARD OF 'chisellaw30.GroupsMarked'. -/
def groupsMarkedCard : Claim7 := { stood := { row := groupsMarkedRow, standIns := [], harness := (true, "642041c1854eda4bd85f0b5e36238194aa8a19439d9649d95302951f63b2a355"), looks := true }, kinds := [], alts := [], laidByText := true, laidKinds := [.data, .data, .widerDeep, .widerDeep, .data, .data, .data, .data, .data, .data, .sentinel, .sentinel, .data, .pinned, .pinned, .pinned, .pinned], laidTests := true, laidLooks := .later }
def GroupsMarkedCardSaid : Prop := Claim7.holds Tryz.pinned (.plain (OpenSpec.ofChange groupsMarkedSpec)) groupsMarkedCard

/-- THE TIED CARD OF 'chisellaw30.GroupsKeys'. -/
def groupsKeysCard : Claim7 := { stood := { row := groupsKeysRow, standIns := [], harness := (true, "642041c1854eda4bd85f0b5e36238194aa8a19439d9649d95302951f63b2a355"), looks := true }, kinds := [], alts := [], laidByText := true, laidKinds := [.data, .data, .widerDeep, .widerDeep, .data, .data, .data, .data, .data, .data, .sentinel, .sentinel, .data, .pinned, .pinned, .pinned, .pinned], laidTests := true, laidLooks := .later }
def GroupsKeysCardSaid : Prop := Claim7.holds Tryz.pinned (.plain (OpenSpec.ofChange groupsKeysSpec)) groupsKeysCard

/-- THE TIED CARD OF 'chisellaw30.GroupsDivide'. -/
def groupsDivideCard : Claim7 := { stood := { row := groupsDivideRow, standIns := [], harness := (true, "642041c1854eda4bd85f0b5e36238194aa8a19439d9649d95302951f63b2a355"), looks := true }, kinds := [], alts := [], laidByText := true, laidKinds := [.data, .data, .widerDeep, .widerDeep, .data, .data, .data, .data, .data, .data, .sentinel, .sentinel, .data, .pinned, .pinned, .pinned, .pinned], laidTests := true, laidLooks := .later }
def GroupsDivideCardSaid : Prop := Claim7.holds Tryz.pinned (.plain (OpenSpec.ofChange groupsDivideSpec)) groupsDivideCard

/-- THE TIED CARD OF 'chisellaw30.GroupsMarks'. -/
def groupsMarksCard : Claim7 := { stood := { row := groupsMarksRow, standIns := [], harness := (true, "642041c1854eda4bd85f0b5e36238194aa8a19439d9649d95302951f63b2a355"), looks := true }, kinds := [], alts := [], laidByText := true, laidKinds := [.data, .data, .widerDeep, .widerDeep, .data, .data, .data, .data, .data, .data, .sentinel, .sentinel, .data, .pinned, .pinned, .pinned, .pinned], laidTests := true, laidLooks := .later }
def GroupsMarksCardSaid : Prop := Claim7.holds Tryz.pinned (.plain (OpenSpec.ofChange groupsMarksSpec)) groupsMarksCard

/-- THE TIED CARD OF 'chisellaw30.GroupsOne'. -/
def groupsOneCard : Claim7 := { stood := { row := groupsOneRow, standIns := [], harness := (true, "642041c1854eda4bd85f0b5e36238194aa8a19439d9649d95302951f63b2a355"), looks := true }, kinds := [], alts := [], laidByText := true, laidKinds := [.data, .data, .widerDeep, .widerDeep, .data, .data, .data, .data, .data, .data, .sentinel, .sentinel, .data, .pinned, .pinned, .pinned, .pinned], laidTests := true, laidLooks := .later }
def GroupsOneCardSaid : Prop := Claim7.holds Tryz.pinned (.plain (OpenSpec.ofChange groupsOneSpec)) groupsOneCard

/-- THE TIED CARD OF 'chisellaw30.GroupsKnown'. -/
def groupsKnownCard : Claim7 := { stood := { row := groupsKnownRow, standIns := [], harness := (true, "642041c1854eda4bd85f0b5e36238194aa8a19439d9649d95302951f63b2a355"), looks := true }, kinds := [], alts := [], laidByText := true, laidKinds := [.data, .data, .widerDeep, .widerDeep, .data, .data, .data, .data, .data, .data, .sentinel, .sentinel, .data, .pinned, .pinned, .pinned, .pinned], laidTests := true, laidLooks := .later }
def GroupsKnownCardSaid : Prop := Claim7.holds Tryz.pinned (.plain (OpenSpec.ofChange groupsKnownSpec)) groupsKnownCard

/-- THE SECOND FORM's CARD OF 'chisellaw30.GroupsBy'. -/
def groupsByUptoCard : Claim7 := { stood := { row := groupsByUptoRow, standIns := [], harness := (true, "642041c1854eda4bd85f0b5e36238194aa8a19439d9649d95302951f63b2a355"), looks := true }, kinds := [], alts := [], laidByText := true, laidKinds := [.data, .data, .widerDeep, .widerDeep, .data, .data, .data, .data, .data, .data, .sentinel, .sentinel, .data, .pinned, .pinned, .pinned, .pinned], laidTests := true, laidLooks := .later }
def GroupsByUptoCardSaid : Prop := Claim7.holds Tryz.pinned (.plain (OpenSpec.upto groupsBySpec)) groupsByUptoCard

/-- THE SECOND FORM's CARD OF 'chisellaw30.GroupsAdjacent'. -/
def groupsAdjacentUptoCard : Claim7 := { stood := { row := groupsAdjacentUptoRow, standIns := [], harness := (true, "642041c1854eda4bd85f0b5e36238194aa8a19439d9649d95302951f63b2a355"), looks := true }, kinds := [], alts := [], laidByText := true, laidKinds := [.data, .data, .widerDeep, .widerDeep, .data, .data, .data, .data, .data, .data, .sentinel, .sentinel, .data, .pinned, .pinned, .pinned, .pinned], laidTests := true, laidLooks := .later }
def GroupsAdjacentUptoCardSaid : Prop := Claim7.holds Tryz.pinned (.plain (OpenSpec.upto groupsAdjacentSpec)) groupsAdjacentUptoCard

/-- THE SECOND FORM's CARD OF 'chisellaw30.GroupsMarked'. -/
def groupsMarkedUptoCard : Claim7 := { stood := { row := groupsMarkedUptoRow, standIns := [], harness := (true, "642041c1854eda4bd85f0b5e36238194aa8a19439d9649d95302951f63b2a355"), looks := true }, kinds := [], alts := [], laidByText := true, laidKinds := [.data, .data, .widerDeep, .widerDeep, .data, .data, .data, .data, .data, .data, .sentinel, .sentinel, .data, .pinned, .pinned, .pinned, .pinned], laidTests := true, laidLooks := .later }
def GroupsMarkedUptoCardSaid : Prop := Claim7.holds Tryz.pinned (.plain (OpenSpec.upto groupsMarkedSpec)) groupsMarkedUptoCard

/-- THE SECOND FORM's CARD OF 'chisellaw30.GroupsKeys'. -/
def groupsKeysUptoCard : Claim7 := { stood := { row := groupsKeysUptoRow, standIns := [], harness := (true, "642041c1854eda4bd85f0b5e36238194aa8a19439d9649d95302951f63b2a355"), looks := true }, kinds := [], alts := [], laidByText := true, laidKinds := [.data, .data, .widerDeep, .widerDeep, .data, .data, .data, .data, .data, .data, .sentinel, .sentinel, .data, .pinned, .pinned, .pinned, .pinned], laidTests := true, laidLooks := .later }
def GroupsKeysUptoCardSaid : Prop := Claim7.holds Tryz.pinned (.plain (OpenSpec.upto groupsKeysSpec)) groupsKeysUptoCard

/-- THE SECOND FORM's CARD OF 'chisellaw30.GroupsDivide'. -/
def groupsDivideUptoCard : Claim7 := { stood := { row := groupsDivideUptoRow, standIns := [], harness := (true, "642041c1854eda4bd85f0b5e36238194aa8a19439d9649d95302951f63b2a355"), looks := true }, kinds := [], alts := [], laidByText := true, laidKinds := [.data, .data, .widerDeep, .widerDeep, .data, .data, .data, .data, .data, .data, .sentinel, .sentinel, .data, .pinned, .pinned, .pinned, .pinned], laidTests := true, laidLooks := .later }
def GroupsDivideUptoCardSaid : Prop := Claim7.holds Tryz.pinned (.plain (OpenSpec.upto groupsDivideSpec)) groupsDivideUptoCard

/-- THE SECOND FORM's CARD OF 'chisellaw30.GroupsMarks'. -/
def groupsMarksUptoCard : Claim7 := { stood := { row := groupsMarksUptoRow, standIns := [], harness := (true, "642041c1854eda4bd85f0b5e36238194aa8a19439d9649d95302951f63b2a355"), looks := true }, kinds := [], alts := [], laidByText := true, laidKinds := [.data, .data, .widerDeep, .widerDeep, .data, .data, .data, .data, .data, .data, .sentinel, .sentinel, .data, .pinned, .pinned, .pinned, .pinned], laidTests := true, laidLooks := .later }
def GroupsMarksUptoCardSaid : Prop := Claim7.holds Tryz.pinned (.plain (OpenSpec.upto groupsMarksSpec)) groupsMarksUptoCard

/-- THE SECOND FORM's CARD OF 'chisellaw30.GroupsOne'. -/
def groupsOneUptoCard : Claim7 := { stood := { row := groupsOneUptoRow, standIns := [], harness := (true, "642041c1854eda4bd85f0b5e36238194aa8a19439d9649d95302951f63b2a355"), looks := true }, kinds := [], alts := [], laidByText := true, laidKinds := [.data, .data, .widerDeep, .widerDeep, .data, .data, .data, .data, .data, .data, .sentinel, .sentinel, .data, .pinned, .pinned, .pinned, .pinned], laidTests := true, laidLooks := .later }
def GroupsOneUptoCardSaid : Prop := Claim7.holds Tryz.pinned (.plain (OpenSpec.upto groupsOneSpec)) groupsOneUptoCard

/-- THE SECOND FORM's CARD OF 'chisellaw30.GroupsKnown'. -/
def groupsKnownUptoCard : Claim7 := { stood := { row := groupsKnownUptoRow, standIns := [], harness := (true, "642041c1854eda4bd85f0b5e36238194aa8a19439d9649d95302951f63b2a355"), looks := true }, kinds := [], alts := [], laidByText := true, laidKinds := [.data, .data, .widerDeep, .widerDeep, .data, .data, .data, .data, .data, .data, .sentinel, .sentinel, .data, .pinned, .pinned, .pinned, .pinned], laidTests := true, laidLooks := .later }
def GroupsKnownUptoCardSaid : Prop := Claim7.holds Tryz.pinned (.plain (OpenSpec.upto groupsKnownSpec)) groupsKnownUptoCard
end Rows
end Go.Proofs.YtfheoplcjeimdaaGreatDoor
