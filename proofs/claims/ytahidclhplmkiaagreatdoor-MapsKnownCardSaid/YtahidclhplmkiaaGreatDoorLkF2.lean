/- Closed facts of the row of 'chisellaw18.MapsKnown', each by the kernel. -/
import Derived.Test.YtahidclhplmkiaaGreatDoorCards
import Derived.Test.YtahidclhplmkiaaGreatDoorTie
import Derived.JoinedOf
import Derived.SevenTiedAt
namespace Go.Proofs.YtahidclhplmkiaaGreatDoor.mkfacts

open Go
set_option maxRecDepth 100000 in
set_option maxHeartbeats 20000000 in
theorem closed : joinedFacts Tryz.prog 4 Tryz.f4 Rows.mapsKnownSpec Rows.mapsKnownRow = true := by
  unfold joinedFacts
  simp only [Bool.and_eq_true]
  repeat' apply And.intro
  all_goals (as_aux_lemma => kernel_rfl)
end Go.Proofs.YtahidclhplmkiaaGreatDoor.mkfacts
