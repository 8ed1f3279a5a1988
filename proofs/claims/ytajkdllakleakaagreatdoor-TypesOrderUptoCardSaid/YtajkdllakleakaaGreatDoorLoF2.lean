/- Closed facts of the row of 'chisellaw16.TypesOrder', each by the kernel. -/
import Derived.Test.YtajkdllakleakaaGreatDoorCards
import Derived.Test.YtajkdllakleakaaGreatDoorTie
import Derived.JoinedOf
import Derived.SevenTiedAt
namespace Go.Proofs.YtajkdllakleakaaGreatDoor.tofacts

open Go
set_option maxRecDepth 100000 in
set_option maxHeartbeats 20000000 in
theorem closed : joinedFacts Tryz.prog 4 Tryz.f4 (Rows.OpenSpec.upto Rows.typesOrderSpec).bare Rows.typesOrderUptoRow = true := by
  unfold joinedFacts
  simp only [Bool.and_eq_true]
  repeat' apply And.intro
  all_goals (as_aux_lemma => kernel_rfl)
end Go.Proofs.YtajkdllakleakaaGreatDoor.tofacts
