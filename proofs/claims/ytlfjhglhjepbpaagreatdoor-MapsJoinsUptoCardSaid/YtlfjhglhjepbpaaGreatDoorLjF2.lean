/- Closed facts of the row of 'chisellaw18.MapsJoins', each by the kernel. -/
import Derived.Test.YtlfjhglhjepbpaaGreatDoorCards
import Derived.Test.YtlfjhglhjepbpaaGreatDoorTie
import Derived.JoinedOf
import Derived.SevenTiedAt
namespace Go.Proofs.YtlfjhglhjepbpaaGreatDoor.mjfacts

open Go
set_option maxRecDepth 100000 in
set_option maxHeartbeats 20000000 in
theorem closed : joinedFacts Tryz.prog 3 Tryz.f3 (Rows.OpenSpec.upto Rows.mapsJoinsSpec).bare Rows.mapsJoinsUptoRow = true := by
  unfold joinedFacts
  simp only [Bool.and_eq_true]
  repeat' apply And.intro
  all_goals (as_aux_lemma => kernel_rfl)
end Go.Proofs.YtlfjhglhjepbpaaGreatDoor.mjfacts
