/- A port that is none is closed, and dead: the facts of the joined row. By an AI agent. -/
import Derived.Test.YtlmpfjdmaidijaaGreatDoorCards
import Derived.Test.YtlmpfjdmaidijaaGreatDoorTie
import Derived.Test.YtlmpfjdmaidijaaGreatDoorEnv
import Derived.Lay
import Derived.SevenTiedAt
import Derived.Stop.Joined
namespace Go.Proofs.YtlmpfjdmaidijaaGreatDoor.portNobody
open Go Go.Rx Go.ChangeShapes Go.WideShapes Go.ChangeAt Go.RowKit
set_option maxRecDepth 100000
set_option maxHeartbeats 4000000 in
theorem closed : joinedFacts Tryz.prog 4 Tryz.f4 Rows.portNobodySpec Rows.portNobodyRow = true := by
  unfold joinedFacts
  repeat' (with_reducible refine and_intro ?_ ?_)
  all_goals as_aux_lemma => kernel_rfl
end Go.Proofs.YtlmpfjdmaidijaaGreatDoor.portNobody
