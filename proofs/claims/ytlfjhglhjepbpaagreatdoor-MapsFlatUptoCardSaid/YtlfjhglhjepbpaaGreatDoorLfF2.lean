/- Closed facts of the row of 'chisellaw18.MapsFlat', each by the kernel. -/
import Derived.Test.YtlfjhglhjepbpaaGreatDoorCards
import Derived.Test.YtlfjhglhjepbpaaGreatDoorTie
import Derived.JoinedOf
import Derived.SevenTiedAt
namespace Go.Proofs.YtlfjhglhjepbpaaGreatDoor.mffacts

open Go
set_option maxRecDepth 100000 in
set_option maxHeartbeats 20000000 in
theorem closed : joinedFacts Tryz.prog 4 Tryz.f4 (Rows.OpenSpec.upto Rows.mapsFlatSpec).bare Rows.mapsFlatUptoRow = true := by
  unfold joinedFacts
  simp only [Bool.and_eq_true]
  repeat' apply And.intro
  all_goals (as_aux_lemma => kernel_rfl)
end Go.Proofs.YtlfjhglhjepbpaaGreatDoor.mffacts
