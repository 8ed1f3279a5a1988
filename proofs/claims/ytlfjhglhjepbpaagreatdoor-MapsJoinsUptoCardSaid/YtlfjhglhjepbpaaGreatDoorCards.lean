/-
  DERIVED. GIVEN WITH THE SEED: THE CARDS: each row of YtlfjhglhjepbpaaGreatDoorRows.lean that lists a variable, with what it lists TIED to the program's text (the seventh form; the later family's looks); each row that meets fmt, with fmt's text TOLD by the authors' own Lean function (tested against real Go, not proved from fmt's source: count such statements apart). THE CARD IS WHAT COUNTS. Prove the row's statement (the work); the ties are given (YtlfjhglhjepbpaaGreatDoorTie.lean); close each card by the builder's one call (the guide's Derived/Test/ToyasCard.lean, 'card_holds'). Laid BY PROGRAM, IN A SANDBOX (cutbox-door.mjs). By AI agents, Wed Nov 11 2026. No macro, syntax, notation, axiom, sorry.
-/
import Derived.Test.YtlfjhglhjepbpaaGreatDoorRows
import GoSem.ClaimSeven
namespace Go.Proofs.YtlfjhglhjepbpaaGreatDoor
namespace Rows

/-- THE TIED CARD OF 'chisellaw18.MapsJoins'. -/
def mapsJoinsCard : Claim7 := { stood := { row := mapsJoinsRow, standIns := [], harness := (true, "01461b2e01b76f8c183087b2e470767e7451b70ecc6ea8d411c52d0ed1d4d05a"), looks := true }, kinds := [], alts := [], laidByText := true, laidKinds := [.data, .data, .widerDeep, .widerDeep, .data, .data, .data, .data, .data, .data, .sentinel, .sentinel, .data, .pinned, .pinned, .pinned, .pinned], laidTests := true, laidLooks := .later }
def MapsJoinsCardSaid : Prop := Claim7.holds Tryz.pinned (.plain (OpenSpec.ofChange mapsJoinsSpec)) mapsJoinsCard

/-- THE TIED CARD OF 'chisellaw18.MapsFlat'. -/
def mapsFlatCard : Claim7 := { stood := { row := mapsFlatRow, standIns := [], harness := (true, "01461b2e01b76f8c183087b2e470767e7451b70ecc6ea8d411c52d0ed1d4d05a"), looks := true }, kinds := [], alts := [], laidByText := true, laidKinds := [.data, .data, .widerDeep, .widerDeep, .data, .data, .data, .data, .data, .data, .sentinel, .sentinel, .data, .pinned, .pinned, .pinned, .pinned], laidTests := true, laidLooks := .later }
def MapsFlatCardSaid : Prop := Claim7.holds Tryz.pinned (.plain (OpenSpec.ofChange mapsFlatSpec)) mapsFlatCard

/-- THE SECOND FORM's CARD OF 'chisellaw18.MapsJoins'. -/
def mapsJoinsUptoCard : Claim7 := { stood := { row := mapsJoinsUptoRow, standIns := [], harness := (true, "01461b2e01b76f8c183087b2e470767e7451b70ecc6ea8d411c52d0ed1d4d05a"), looks := true }, kinds := [], alts := [], laidByText := true, laidKinds := [.data, .data, .widerDeep, .widerDeep, .data, .data, .data, .data, .data, .data, .sentinel, .sentinel, .data, .pinned, .pinned, .pinned, .pinned], laidTests := true, laidLooks := .later }
def MapsJoinsUptoCardSaid : Prop := Claim7.holds Tryz.pinned (.plain (OpenSpec.upto mapsJoinsSpec)) mapsJoinsUptoCard

/-- THE SECOND FORM's CARD OF 'chisellaw18.MapsFlat'. -/
def mapsFlatUptoCard : Claim7 := { stood := { row := mapsFlatUptoRow, standIns := [], harness := (true, "01461b2e01b76f8c183087b2e470767e7451b70ecc6ea8d411c52d0ed1d4d05a"), looks := true }, kinds := [], alts := [], laidByText := true, laidKinds := [.data, .data, .widerDeep, .widerDeep, .data, .data, .data, .data, .data, .data, .sentinel, .sentinel, .data, .pinned, .pinned, .pinned, .pinned], laidTests := true, laidLooks := .later }
def MapsFlatUptoCardSaid : Prop := Claim7.holds Tryz.pinned (.plain (OpenSpec.upto mapsFlatSpec)) mapsFlatUptoCard
end Rows
end Go.Proofs.YtlfjhglhjepbpaaGreatDoor
