/- Closed facts of the row of 'chisellaw18.MapsArrays', each by the kernel. -/
import Derived.Test.YtgmnabflendikaaGreatDoorCards
import Derived.Test.YtgmnabflendikaaGreatDoorTie
import Derived.JoinedOf
import Derived.SevenTiedAt
namespace Go.Proofs.YtgmnabflendikaaGreatDoor.mafacts

open Go
set_option maxRecDepth 100000 in
set_option maxHeartbeats 20000000 in
theorem closed : joinedFacts Tryz.prog 3 Tryz.f3 (Rows.OpenSpec.upto Rows.mapsArraysSpec).bare Rows.mapsArraysUptoRow = true := by
  unfold joinedFacts
  simp only [Bool.and_eq_true]
  repeat' apply And.intro
  all_goals (as_aux_lemma => kernel_rfl)
end Go.Proofs.YtgmnabflendikaaGreatDoor.mafacts
