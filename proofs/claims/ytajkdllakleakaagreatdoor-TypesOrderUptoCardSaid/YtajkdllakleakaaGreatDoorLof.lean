/- Closed facts of the row of 'chisellaw16.TypesOrder', each by the kernel. -/
import Derived.Test.YtajkdllakleakaaGreatDoorCards
import Derived.Test.YtajkdllakleakaaGreatDoorTie
import Derived.JoinedOf
import Derived.SevenTiedAt
namespace Go.Proofs.YtajkdllakleakaaGreatDoor.tofacts
theorem fnNamed : Tryz.prog.funcNamed "chisel/chisellaw16.TypesOrder" = some 4 := by kernel_rfl
theorem looks : true = Tryz.prog.looks [] := by kernel_rfl
theorem goes : false = Rows.typesOrderUptoRow.goesBy Tryz.prog := by kernel_rfl
theorem mainIs : Tryz.prog.mainIs = some (Rows.typesOrderUptoCard.stood.harness.1, Rows.typesOrderUptoCard.stood.harness.2.toList) := by kernel_rfl
theorem wfByText : Rows.typesOrderUptoRow.wfByText (Rows.OpenSpec.upto Rows.typesOrderSpec) = true := by kernel_rfl
end Go.Proofs.YtajkdllakleakaaGreatDoor.tofacts
