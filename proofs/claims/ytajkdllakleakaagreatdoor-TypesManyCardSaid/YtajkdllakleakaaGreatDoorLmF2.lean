/- Closed facts of the row of 'chisellaw16.TypesMany', each by the kernel. -/
import Derived.Test.YtajkdllakleakaaGreatDoorCards
import Derived.Test.YtajkdllakleakaaGreatDoorTie
import Derived.JoinedOf
import Derived.SevenTiedAt
namespace Go.Proofs.YtajkdllakleakaaGreatDoor.tmfacts

open Go
set_option maxRecDepth 100000 in
set_option maxHeartbeats 20000000 in
theorem closed : joinedFacts Tryz.prog 3 Tryz.f3 Rows.typesManySpec Rows.typesManyRow = true := by
  unfold joinedFacts
  simp only [Bool.and_eq_true]
  repeat' apply And.intro
  all_goals (as_aux_lemma => kernel_rfl)
end Go.Proofs.YtajkdllakleakaaGreatDoor.tmfacts
