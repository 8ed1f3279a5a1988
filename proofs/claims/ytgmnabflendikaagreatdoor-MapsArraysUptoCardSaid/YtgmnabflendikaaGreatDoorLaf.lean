/- Closed facts of the row of 'chisellaw18.MapsArrays', each by the kernel. -/
import Derived.Test.YtgmnabflendikaaGreatDoorCards
import Derived.Test.YtgmnabflendikaaGreatDoorTie
import Derived.JoinedOf
import Derived.SevenTiedAt
namespace Go.Proofs.YtgmnabflendikaaGreatDoor.mafacts
theorem fnNamed : Tryz.prog.funcNamed "chisel/chisellaw18.MapsArrays" = some 3 := by kernel_rfl
theorem looks : true = Tryz.prog.looks [] := by kernel_rfl
theorem goes : false = Rows.mapsArraysUptoRow.goesBy Tryz.prog := by kernel_rfl
theorem mainIs : Tryz.prog.mainIs = some (Rows.mapsArraysUptoCard.stood.harness.1, Rows.mapsArraysUptoCard.stood.harness.2.toList) := by kernel_rfl
theorem wfByText : Rows.mapsArraysUptoRow.wfByText (Rows.OpenSpec.upto Rows.mapsArraysSpec) = true := by kernel_rfl
end Go.Proofs.YtgmnabflendikaaGreatDoor.mafacts
