/- Closed facts of the row of 'chisellaw18.MapsLong', each by the kernel. -/
import Derived.Test.YtahidclhplmkiaaGreatDoorCards
import Derived.Test.YtahidclhplmkiaaGreatDoorTie
import Derived.JoinedOf
import Derived.SevenTiedAt
namespace Go.Proofs.YtahidclhplmkiaaGreatDoor.mlfacts

open Go
set_option maxRecDepth 100000 in
set_option maxHeartbeats 20000000 in
theorem closed : joinedFacts Tryz.prog 3 Tryz.f3 Rows.mapsLongSpec Rows.mapsLongRow = true := by
  unfold joinedFacts
  simp only [Bool.and_eq_true]
  repeat' apply And.intro
  all_goals (as_aux_lemma => kernel_rfl)
end Go.Proofs.YtahidclhplmkiaaGreatDoor.mlfacts
