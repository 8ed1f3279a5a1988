/- Closed facts of the row of 'chisellaw18.MapsFlat', each by the kernel. -/
import Derived.Test.YtlfjhglhjepbpaaGreatDoorCards
import Derived.Test.YtlfjhglhjepbpaaGreatDoorTie
import Derived.JoinedOf
import Derived.SevenTiedAt
namespace Go.Proofs.YtlfjhglhjepbpaaGreatDoor.mffacts
theorem fnNamed : Tryz.prog.funcNamed "chisel/chisellaw18.MapsFlat" = some 4 := by kernel_rfl
theorem looks : true = Tryz.prog.looks [] := by kernel_rfl
theorem goes : false = Rows.mapsFlatUptoRow.goesBy Tryz.prog := by kernel_rfl
theorem mainIs : Tryz.prog.mainIs = some (Rows.mapsFlatUptoCard.stood.harness.1, Rows.mapsFlatUptoCard.stood.harness.2.toList) := by kernel_rfl
theorem wfByText : Rows.mapsFlatUptoRow.wfByText (Rows.OpenSpec.upto Rows.mapsFlatSpec) = true := by kernel_rfl
end Go.Proofs.YtlfjhglhjepbpaaGreatDoor.mffacts
