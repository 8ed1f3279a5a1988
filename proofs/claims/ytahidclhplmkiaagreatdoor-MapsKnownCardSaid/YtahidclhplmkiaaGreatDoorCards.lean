/-
  DERIVED. GIVEN WITH THE SEED: THE CARDS: each row of YtahidclhplmkiaaGreatDoorRows.lean that lists a variable, with what it lists TIED to the program's text (the seventh form; the later family's looks); each row that meets fmt, with fmt's text TOLD by the authors' own Lean function (tested against real Go, not proved from fmt's source: count such statements apart). THE CARD IS WHAT COUNTS. Prove the row's statement (the work); the ties are given (YtahidclhplmkiaaGreatDoorTie.lean); close each card by the builder's one call (the guide's Derived/Test/ToyasCard.lean, 'card_holds'). Laid BY PROGRAM, IN A SANDBOX (cutbox-door.mjs). By AI agents, Wed Nov 11 2026. No macro, syntax, notation, axiom, sorry.
-/
import Derived.Test.YtahidclhplmkiaaGreatDoorRows
import GoSem.ClaimSeven
namespace Go.Proofs.YtahidclhplmkiaaGreatDoor
namespace Rows

/-- THE TIED CARD OF 'chisellaw18.MapsLong'. -/
def mapsLongCard : Claim7 := { stood := { row := mapsLongRow, standIns := [], harness := (true, "267683cd885b77a158b7fd63ec58b98fe7639d090f39d22bfb85b7665d4c9fcc"), looks := true }, kinds := [], alts := [], laidByText := true, laidKinds := [.data, .data, .widerDeep, .widerDeep, .data, .data, .data, .data, .data, .data, .sentinel, .sentinel, .data, .pinned, .pinned, .pinned, .pinned], laidTests := true, laidLooks := .later }
def MapsLongCardSaid : Prop := Claim7.holds Tryz.pinned (.plain (OpenSpec.ofChange mapsLongSpec)) mapsLongCard

/-- THE TIED CARD OF 'chisellaw18.MapsKnown'. -/
def mapsKnownCard : Claim7 := { stood := { row := mapsKnownRow, standIns := [], harness := (true, "267683cd885b77a158b7fd63ec58b98fe7639d090f39d22bfb85b7665d4c9fcc"), looks := true }, kinds := [], alts := [], laidByText := true, laidKinds := [.data, .data, .widerDeep, .widerDeep, .data, .data, .data, .data, .data, .data, .sentinel, .sentinel, .data, .pinned, .pinned, .pinned, .pinned], laidTests := true, laidLooks := .later }
def MapsKnownCardSaid : Prop := Claim7.holds Tryz.pinned (.plain (OpenSpec.ofChange mapsKnownSpec)) mapsKnownCard

/-- THE SECOND FORM's CARD OF 'chisellaw18.MapsLong'. -/
def mapsLongUptoCard : Claim7 := { stood := { row := mapsLongUptoRow, standIns := [], harness := (true, "267683cd885b77a158b7fd63ec58b98fe7639d090f39d22bfb85b7665d4c9fcc"), looks := true }, kinds := [], alts := [], laidByText := true, laidKinds := [.data, .data, .widerDeep, .widerDeep, .data, .data, .data, .data, .data, .data, .sentinel, .sentinel, .data, .pinned, .pinned, .pinned, .pinned], laidTests := true, laidLooks := .later }
def MapsLongUptoCardSaid : Prop := Claim7.holds Tryz.pinned (.plain (OpenSpec.upto mapsLongSpec)) mapsLongUptoCard

/-- THE SECOND FORM's CARD OF 'chisellaw18.MapsKnown'. -/
def mapsKnownUptoCard : Claim7 := { stood := { row := mapsKnownUptoRow, standIns := [], harness := (true, "267683cd885b77a158b7fd63ec58b98fe7639d090f39d22bfb85b7665d4c9fcc"), looks := true }, kinds := [], alts := [], laidByText := true, laidKinds := [.data, .data, .widerDeep, .widerDeep, .data, .data, .data, .data, .data, .data, .sentinel, .sentinel, .data, .pinned, .pinned, .pinned, .pinned], laidTests := true, laidLooks := .later }
def MapsKnownUptoCardSaid : Prop := Claim7.holds Tryz.pinned (.plain (OpenSpec.upto mapsKnownSpec)) mapsKnownUptoCard
end Rows
end Go.Proofs.YtahidclhplmkiaaGreatDoor
