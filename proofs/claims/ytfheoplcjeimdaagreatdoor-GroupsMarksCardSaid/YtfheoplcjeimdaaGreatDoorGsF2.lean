/- Closed facts of the row of 'chisellaw30.GroupsMarks', each by the kernel. -/
import Derived.Test.YtfheoplcjeimdaaGreatDoorCards
import Derived.Test.YtfheoplcjeimdaaGreatDoorTie
import Derived.JoinedOf
import Derived.SevenTiedAt
namespace Go.Proofs.YtfheoplcjeimdaaGreatDoor.gsfacts

open Go
set_option maxRecDepth 100000 in
set_option maxHeartbeats 20000000 in
theorem closed : joinedFacts Tryz.prog 8 Tryz.f8 Rows.groupsMarksSpec Rows.groupsMarksRow = true := by
  unfold joinedFacts
  simp only [Bool.and_eq_true]
  repeat' apply And.intro
  all_goals (as_aux_lemma => kernel_rfl)
end Go.Proofs.YtfheoplcjeimdaaGreatDoor.gsfacts
