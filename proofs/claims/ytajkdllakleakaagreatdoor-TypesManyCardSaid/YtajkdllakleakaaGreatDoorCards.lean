/-
  DERIVED. GIVEN WITH THE SEED: THE CARDS: each row of YtajkdllakleakaaGreatDoorRows.lean that lists a variable, with what it lists TIED to the program's text (the seventh form; the later family's looks); each row that meets fmt, with fmt's text TOLD by the authors' own Lean function (tested against real Go, not proved from fmt's source: count such statements apart). THE CARD IS WHAT COUNTS. Prove the row's statement (the work); the ties are given (YtajkdllakleakaaGreatDoorTie.lean); close each card by the builder's one call (the guide's Derived/Test/ToyasCard.lean, 'card_holds'). Laid BY PROGRAM, IN A SANDBOX (cutbox-door.mjs). By AI agents, Wed Nov 11 2026. No macro, syntax, notation, axiom, sorry.
-/
import Derived.Test.YtajkdllakleakaaGreatDoorRows
import GoSem.ClaimSeven
namespace Go.Proofs.YtajkdllakleakaaGreatDoor
namespace Rows

/-- THE TIED CARD OF 'chisellaw16.TypesMany'. -/
def typesManyCard : Claim7 := { stood := { row := typesManyRow, standIns := [], harness := (true, "a93fa09536ca731581aa3b1e77b184ab482a0a4bf818566d15dbdca7b88c148a"), looks := true }, kinds := [], alts := [], laidByText := true, laidKinds := [.data, .data, .widerDeep, .widerDeep, .data, .data, .data, .data, .data, .data, .sentinel, .sentinel, .widerDeep, .widerDeep, .data, .pinned, .pinned, .pinned, .pinned], laidTests := true, laidLooks := .later }
def TypesManyCardSaid : Prop := Claim7.holds Tryz.pinned (.plain (OpenSpec.ofChange typesManySpec)) typesManyCard

/-- THE TIED CARD OF 'chisellaw16.TypesOrder'. -/
def typesOrderCard : Claim7 := { stood := { row := typesOrderRow, standIns := [], harness := (true, "a93fa09536ca731581aa3b1e77b184ab482a0a4bf818566d15dbdca7b88c148a"), looks := true }, kinds := [], alts := [], laidByText := true, laidKinds := [.data, .data, .widerDeep, .widerDeep, .data, .data, .data, .data, .data, .data, .sentinel, .sentinel, .widerDeep, .widerDeep, .data, .pinned, .pinned, .pinned, .pinned], laidTests := true, laidLooks := .later }
def TypesOrderCardSaid : Prop := Claim7.holds Tryz.pinned (.plain (OpenSpec.ofChange typesOrderSpec)) typesOrderCard

/-- THE SECOND FORM's CARD OF 'chisellaw16.TypesMany'. -/
def typesManyUptoCard : Claim7 := { stood := { row := typesManyUptoRow, standIns := [], harness := (true, "a93fa09536ca731581aa3b1e77b184ab482a0a4bf818566d15dbdca7b88c148a"), looks := true }, kinds := [], alts := [], laidByText := true, laidKinds := [.data, .data, .widerDeep, .widerDeep, .data, .data, .data, .data, .data, .data, .sentinel, .sentinel, .widerDeep, .widerDeep, .data, .pinned, .pinned, .pinned, .pinned], laidTests := true, laidLooks := .later }
def TypesManyUptoCardSaid : Prop := Claim7.holds Tryz.pinned (.plain (OpenSpec.upto typesManySpec)) typesManyUptoCard

/-- THE SECOND FORM's CARD OF 'chisellaw16.TypesOrder'. -/
def typesOrderUptoCard : Claim7 := { stood := { row := typesOrderUptoRow, standIns := [], harness := (true, "a93fa09536ca731581aa3b1e77b184ab482a0a4bf818566d15dbdca7b88c148a"), looks := true }, kinds := [], alts := [], laidByText := true, laidKinds := [.data, .data, .widerDeep, .widerDeep, .data, .data, .data, .data, .data, .data, .sentinel, .sentinel, .widerDeep, .widerDeep, .data, .pinned, .pinned, .pinned, .pinned], laidTests := true, laidLooks := .later }
def TypesOrderUptoCardSaid : Prop := Claim7.holds Tryz.pinned (.plain (OpenSpec.upto typesOrderSpec)) typesOrderUptoCard
end Rows
end Go.Proofs.YtajkdllakleakaaGreatDoor
