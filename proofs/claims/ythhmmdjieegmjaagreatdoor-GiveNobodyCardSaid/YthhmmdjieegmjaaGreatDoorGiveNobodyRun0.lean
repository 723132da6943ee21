/- GiveNobody: one way through the law, reckoned by the kernel. By an AI agent. -/
import Derived.Test.YthhmmdjieegmjaaGreatDoorEnv
namespace Go.Proofs.YthhmmdjieegmjaaGreatDoor.giveNobody
open Go Go.Rx Go.RowKit
set_option maxRecDepth 100000
theorem run0 (x0 : ByteArray) (x1 : Int) : verdictO (E [false] []) 4 (runS (E [false] []) 4 ([.string x0, .int .i64 x1].map .v) (laidMem 9 []) 8000) = ((True ∧ (decide ((200 : Int) < (x0.size : Int))) = false) ∧ True) := by kernel_rfl
end Go.Proofs.YthhmmdjieegmjaaGreatDoor.giveNobody
