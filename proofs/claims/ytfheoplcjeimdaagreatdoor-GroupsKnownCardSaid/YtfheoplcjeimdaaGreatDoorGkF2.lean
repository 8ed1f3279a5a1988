/- Closed facts of the row of 'chisellaw30.GroupsKnown', each by the kernel. -/
import Derived.Test.YtfheoplcjeimdaaGreatDoorCards
import Derived.Test.YtfheoplcjeimdaaGreatDoorTie
import Derived.JoinedOf
import Derived.SevenTiedAt
namespace Go.Proofs.YtfheoplcjeimdaaGreatDoor.gkfacts

open Go
set_option maxRecDepth 100000 in
set_option maxHeartbeats 20000000 in
theorem closed : joinedFacts Tryz.prog 10 Tryz.f10 Rows.groupsKnownSpec Rows.groupsKnownRow = true := by
  unfold joinedFacts
  simp only [Bool.and_eq_true]
  repeat' apply And.intro
  all_goals (as_aux_lemma => kernel_rfl)
end Go.Proofs.YtfheoplcjeimdaaGreatDoor.gkfacts
