/- Closed facts of the row of 'chisellaw16.TypesMany', each by the kernel. -/
import Derived.Test.YtajkdllakleakaaGreatDoorCards
import Derived.Test.YtajkdllakleakaaGreatDoorTie
import Derived.JoinedOf
import Derived.SevenTiedAt
namespace Go.Proofs.YtajkdllakleakaaGreatDoor.tmfacts
theorem fnNamed : Tryz.prog.funcNamed "chisel/chisellaw16.TypesMany" = some 3 := by kernel_rfl
theorem looks : true = Tryz.prog.looks [] := by kernel_rfl
theorem goes : false = Rows.typesManyRow.goesBy Tryz.prog := by kernel_rfl
theorem mainIs : Tryz.prog.mainIs = some (Rows.typesManyCard.stood.harness.1, Rows.typesManyCard.stood.harness.2.toList) := by kernel_rfl
theorem wfByText : Rows.typesManyRow.wfByText (OpenSpec.ofChange Rows.typesManySpec) = true := by kernel_rfl
end Go.Proofs.YtajkdllakleakaaGreatDoor.tmfacts
