/-
  DERIVED. GIVEN WITH THE SEED: THE CARDS: each row of YtgmnabflendikaaGreatDoorRows.lean that lists a variable, with what it lists TIED to the program's text (the seventh form; the later family's looks); each row that meets fmt, with fmt's text TOLD by the authors' own Lean function (tested against real Go, not proved from fmt's source: count such statements apart). THE CARD IS WHAT COUNTS. Prove the row's statement (the work); the ties are given (YtgmnabflendikaaGreatDoorTie.lean); close each card by the builder's one call (the guide's Derived/Test/ToyasCard.lean, 'card_holds'). Laid BY PROGRAM, IN A SANDBOX (cutbox-door.mjs). By AI agents, Wed Nov 11 2026. No macro, syntax, notation, axiom, sorry.
-/
import Derived.Test.YtgmnabflendikaaGreatDoorRows
import GoSem.ClaimSeven
namespace Go.Proofs.YtgmnabflendikaaGreatDoor
namespace Rows

/-- THE TIED CARD OF 'chisellaw18.MapsArrays'. -/
def mapsArraysCard : Claim7 := { stood := { row := mapsArraysRow, standIns := [], harness := (true, "daf4e849f3e7d6fd52be039e656572ccdb3ee549c724c6e2dc6e8b278604ce4c"), looks := true }, kinds := [], alts := [], laidByText := true, laidKinds := [.data, .data, .widerDeep, .widerDeep, .data, .data, .data, .data, .data, .data, .sentinel, .sentinel, .data, .pinned, .pinned, .pinned, .pinned], laidTests := true, laidLooks := .later }
def MapsArraysCardSaid : Prop := Claim7.holds Tryz.pinned (.plain (OpenSpec.ofChange mapsArraysSpec)) mapsArraysCard

/-- THE TIED CARD OF 'chisellaw18.MapsPlaces'. -/
def mapsPlacesCard : Claim7 := { stood := { row := mapsPlacesRow, standIns := [], harness := (true, "daf4e849f3e7d6fd52be039e656572ccdb3ee549c724c6e2dc6e8b278604ce4c"), looks := true }, kinds := [], alts := [], laidByText := true, laidKinds := [.data, .data, .widerDeep, .widerDeep, .data, .data, .data, .data, .data, .data, .sentinel, .sentinel, .data, .pinned, .pinned, .pinned, .pinned], laidTests := true, laidLooks := .later }
def MapsPlacesCardSaid : Prop := Claim7.holds Tryz.pinned (.plain (OpenSpec.ofChange mapsPlacesSpec)) mapsPlacesCard

/-- THE SECOND FORM's CARD OF 'chisellaw18.MapsArrays'. -/
def mapsArraysUptoCard : Claim7 := { stood := { row := mapsArraysUptoRow, standIns := [], harness := (true, "daf4e849f3e7d6fd52be039e656572ccdb3ee549c724c6e2dc6e8b278604ce4c"), looks := true }, kinds := [], alts := [], laidByText := true, laidKinds := [.data, .data, .widerDeep, .widerDeep, .data, .data, .data, .data, .data, .data, .sentinel, .sentinel, .data, .pinned, .pinned, .pinned, .pinned], laidTests := true, laidLooks := .later }
def MapsArraysUptoCardSaid : Prop := Claim7.holds Tryz.pinned (.plain (OpenSpec.upto mapsArraysSpec)) mapsArraysUptoCard

/-- THE SECOND FORM's CARD OF 'chisellaw18.MapsPlaces'. -/
def mapsPlacesUptoCard : Claim7 := { stood := { row := mapsPlacesUptoRow, standIns := [], harness := (true, "daf4e849f3e7d6fd52be039e656572ccdb3ee549c724c6e2dc6e8b278604ce4c"), looks := true }, kinds := [], alts := [], laidByText := true, laidKinds := [.data, .data, .widerDeep, .widerDeep, .data, .data, .data, .data, .data, .data, .sentinel, .sentinel, .data, .pinned, .pinned, .pinned, .pinned], laidTests := true, laidLooks := .later }
def MapsPlacesUptoCardSaid : Prop := Claim7.holds Tryz.pinned (.plain (OpenSpec.upto mapsPlacesSpec)) mapsPlacesUptoCard
end Rows
end Go.Proofs.YtgmnabflendikaaGreatDoor
