/- Closed facts of the row of 'chisellaw18.MapsLong', each by the kernel. -/
import Derived.Test.YtahidclhplmkiaaGreatDoorCards
import Derived.Test.YtahidclhplmkiaaGreatDoorTie
import Derived.JoinedOf
import Derived.SevenTiedAt
namespace Go.Proofs.YtahidclhplmkiaaGreatDoor.mlfacts
theorem fnNamed : Tryz.prog.funcNamed "chisel/chisellaw18.MapsLong" = some 3 := by kernel_rfl
theorem looks : true = Tryz.prog.looks [] := by kernel_rfl
theorem goes : false = Rows.mapsLongRow.goesBy Tryz.prog := by kernel_rfl
theorem mainIs : Tryz.prog.mainIs = some (Rows.mapsLongCard.stood.harness.1, Rows.mapsLongCard.stood.harness.2.toList) := by kernel_rfl
theorem wfByText : Rows.mapsLongRow.wfByText (OpenSpec.ofChange Rows.mapsLongSpec) = true := by kernel_rfl
end Go.Proofs.YtahidclhplmkiaaGreatDoor.mlfacts
