/- TaleWords: its example lives(), reckoned by the kernel stage by stage (the states were printed by a program of ours; the kernel checks them). By an AI agent. -/
import Derived.Test.YtagegnclcengjaaDoorEnv
namespace Go.Proofs.YtagegnclcengjaaDoor.taleWords
open Go Go.Rx Go.RowKit
set_option maxRecDepth 100000
def nB (n : Int) : SV := .v (.int .u8 n)
def nI (n : Int) : SV := .v (.int .i64 n)
def n0 : SV := .v (.tuple #[])
noncomputable def start0 : SM := { top := { fn := 6, tm := (tmOf 8 4 [n0, n0, n0, n0, n0, n0, n0, n0]), todo := [.code (bodyAt Tryd.prog 6 [])], defers := [], ret := false, kind := .normal, «ro» := none }, callers := [], mem := (memOf 12 0 0 []) }
theorem g0 : enterS (E [] []) 6 [] (laidMem 12 []) = some start0 := by kernel_rfl
end Go.Proofs.YtagegnclcengjaaDoor.taleWords
