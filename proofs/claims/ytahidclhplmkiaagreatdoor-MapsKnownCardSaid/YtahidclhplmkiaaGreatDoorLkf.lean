/- Closed facts of the row of 'chisellaw18.MapsKnown', each by the kernel. -/
import Derived.Test.YtahidclhplmkiaaGreatDoorCards
import Derived.Test.YtahidclhplmkiaaGreatDoorTie
import Derived.JoinedOf
import Derived.SevenTiedAt
namespace Go.Proofs.YtahidclhplmkiaaGreatDoor.mkfacts
theorem fnNamed : Tryz.prog.funcNamed "chisel/chisellaw18.MapsKnown" = some 4 := by kernel_rfl
theorem looks : true = Tryz.prog.looks [] := by kernel_rfl
theorem goes : false = Rows.mapsKnownRow.goesBy Tryz.prog := by kernel_rfl
theorem mainIs : Tryz.prog.mainIs = some (Rows.mapsKnownCard.stood.harness.1, Rows.mapsKnownCard.stood.harness.2.toList) := by kernel_rfl
theorem wfByText : Rows.mapsKnownRow.wfByText (OpenSpec.ofChange Rows.mapsKnownSpec) = true := by kernel_rfl
end Go.Proofs.YtahidclhplmkiaaGreatDoor.mkfacts
