/- A port that is none is closed, and dead: the row goes by nothing. By an AI agent. -/
import Derived.Test.YtlmpfjdmaidijaaGreatDoorCards
import Derived.Test.YtlmpfjdmaidijaaGreatDoorTie
import Derived.Test.YtlmpfjdmaidijaaGreatDoorEnv
import Derived.Lay
import Derived.SevenTiedAt
import Derived.Stop.Joined
namespace Go.Proofs.YtlmpfjdmaidijaaGreatDoor.portNobody
open Go Go.Rx Go.ChangeShapes Go.WideShapes Go.ChangeAt Go.RowKit
set_option maxRecDepth 100000
theorem goesNot : false = Rows.portNobodyRow.goesBy Tryz.prog := by kernel_rfl
end Go.Proofs.YtlmpfjdmaidijaaGreatDoor.portNobody
