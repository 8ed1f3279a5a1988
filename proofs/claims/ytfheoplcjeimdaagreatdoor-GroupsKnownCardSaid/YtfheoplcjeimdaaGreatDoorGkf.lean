/- Closed facts of the row of 'chisellaw30.GroupsKnown', each by the kernel. -/
import Derived.Test.YtfheoplcjeimdaaGreatDoorCards
import Derived.Test.YtfheoplcjeimdaaGreatDoorTie
import Derived.JoinedOf
import Derived.SevenTiedAt
namespace Go.Proofs.YtfheoplcjeimdaaGreatDoor.gkfacts
theorem fnNamed : Tryz.prog.funcNamed "chisel/chisellaw30.GroupsKnown" = some 10 := by kernel_rfl
theorem looks : true = Tryz.prog.looks [] := by kernel_rfl
theorem goes : false = Rows.groupsKnownRow.goesBy Tryz.prog := by kernel_rfl
theorem mainIs : Tryz.prog.mainIs = some (true, "642041c1854eda4bd85f0b5e36238194aa8a19439d9649d95302951f63b2a355".toList) := by kernel_rfl
theorem wfByText : Rows.groupsKnownRow.wfByText (OpenSpec.ofChange Rows.groupsKnownSpec) = true := by kernel_rfl
end Go.Proofs.YtfheoplcjeimdaaGreatDoor.gkfacts
