/- Closed facts of the row of 'chisellaw18.MapsPlaces', each by the kernel. -/
import Derived.Test.YtgmnabflendikaaGreatDoorCards
import Derived.Test.YtgmnabflendikaaGreatDoorTie
import Derived.JoinedOf
import Derived.SevenTiedAt
namespace Go.Proofs.YtgmnabflendikaaGreatDoor.mpfacts

open Go
set_option maxRecDepth 100000 in
set_option maxHeartbeats 20000000 in
theorem closed : joinedFacts Tryz.prog 4 Tryz.f4 (Rows.OpenSpec.upto Rows.mapsPlacesSpec).bare Rows.mapsPlacesUptoRow = true := by
  unfold joinedFacts
  simp only [Bool.and_eq_true]
  repeat' apply And.intro
  all_goals (as_aux_lemma => kernel_rfl)
end Go.Proofs.YtgmnabflendikaaGreatDoor.mpfacts
