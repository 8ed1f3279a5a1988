/- Closed facts of the row of 'chisellaw18.MapsPlaces', each by the kernel. -/
import Derived.Test.YtgmnabflendikaaGreatDoorCards
import Derived.Test.YtgmnabflendikaaGreatDoorTie
import Derived.JoinedOf
import Derived.SevenTiedAt
namespace Go.Proofs.YtgmnabflendikaaGreatDoor.mpfacts
theorem fnNamed : Tryz.prog.funcNamed "chisel/chisellaw18.MapsPlaces" = some 4 := by kernel_rfl
theorem looks : true = Tryz.prog.looks [] := by kernel_rfl
theorem goes : false = Rows.mapsPlacesUptoRow.goesBy Tryz.prog := by kernel_rfl
theorem mainIs : Tryz.prog.mainIs = some (Rows.mapsPlacesUptoCard.stood.harness.1, Rows.mapsPlacesUptoCard.stood.harness.2.toList) := by kernel_rfl
theorem wfByText : Rows.mapsPlacesUptoRow.wfByText (Rows.OpenSpec.upto Rows.mapsPlacesSpec) = true := by kernel_rfl
end Go.Proofs.YtgmnabflendikaaGreatDoor.mpfacts
