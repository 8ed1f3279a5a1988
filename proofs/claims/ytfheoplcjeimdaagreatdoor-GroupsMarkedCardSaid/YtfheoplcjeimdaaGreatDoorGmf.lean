/- Closed facts of the row of 'chisellaw30.GroupsMarked', each by the kernel. -/
import Derived.Test.YtfheoplcjeimdaaGreatDoorCards
import Derived.Test.YtfheoplcjeimdaaGreatDoorTie
import Derived.JoinedOf
import Derived.SevenTiedAt
namespace Go.Proofs.YtfheoplcjeimdaaGreatDoor.gmfacts
theorem fnNamed : Tryz.prog.funcNamed "chisel/chisellaw30.GroupsMarked" = some 5 := by kernel_rfl
theorem looks : true = Tryz.prog.looks [] := by kernel_rfl
theorem goes : false = Rows.groupsMarkedRow.goesBy Tryz.prog := by kernel_rfl
theorem mainIs : Tryz.prog.mainIs = some (true, "642041c1854eda4bd85f0b5e36238194aa8a19439d9649d95302951f63b2a355".toList) := by kernel_rfl
theorem wfByText : Rows.groupsMarkedRow.wfByText (OpenSpec.ofChange Rows.groupsMarkedSpec) = true := by kernel_rfl
end Go.Proofs.YtfheoplcjeimdaaGreatDoor.gmfacts
