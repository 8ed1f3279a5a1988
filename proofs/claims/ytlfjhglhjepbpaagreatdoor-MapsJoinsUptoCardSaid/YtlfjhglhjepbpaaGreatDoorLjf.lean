/- Closed facts of the row of 'chisellaw18.MapsJoins', each by the kernel. -/
import Derived.Test.YtlfjhglhjepbpaaGreatDoorCards
import Derived.Test.YtlfjhglhjepbpaaGreatDoorTie
import Derived.JoinedOf
import Derived.SevenTiedAt
namespace Go.Proofs.YtlfjhglhjepbpaaGreatDoor.mjfacts
theorem fnNamed : Tryz.prog.funcNamed "chisel/chisellaw18.MapsJoins" = some 3 := by kernel_rfl
theorem looks : true = Tryz.prog.looks [] := by kernel_rfl
theorem goes : false = Rows.mapsJoinsUptoRow.goesBy Tryz.prog := by kernel_rfl
theorem mainIs : Tryz.prog.mainIs = some (Rows.mapsJoinsUptoCard.stood.harness.1, Rows.mapsJoinsUptoCard.stood.harness.2.toList) := by kernel_rfl
theorem wfByText : Rows.mapsJoinsUptoRow.wfByText (Rows.OpenSpec.upto Rows.mapsJoinsSpec) = true := by kernel_rfl
end Go.Proofs.YtlfjhglhjepbpaaGreatDoor.mjfacts
