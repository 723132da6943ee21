/- PortNobody: its example lives(), reckoned by the kernel stage by stage (the states were printed by a program of ours; the kernel checks them). By an AI agent. -/
import Derived.Test.YtlmpfjdmaidijaaGreatDoorEnv
namespace Go.Proofs.YtlmpfjdmaidijaaGreatDoor.portNobody
open Go Go.Rx Go.RowKit
set_option maxRecDepth 100000
def nB (n : Int) : SV := .v (.int .u8 n)
def nI (n : Int) : SV := .v (.int .i64 n)
def n0 : SV := .v (.tuple #[])
noncomputable def start0 : SM := { top := { fn := 14, tm := (tmOf 69 7 [n0, n0, n0, n0, n0, n0, n0, n0, n0, n0, n0, n0, n0, n0, n0, n0, n0, n0, n0, n0, n0, n0, n0, n0, n0, n0, n0, n0, n0, n0, n0, n0, n0, n0, n0, n0, n0, n0, n0, n0, n0, n0, n0, n0, n0, n0, n0, n0, n0, n0, n0, n0, n0, n0, n0, n0, n0, n0, n0, n0, n0, n0, n0, n0, n0, n0, n0, n0, n0]), todo := [.code (bodyAt Tryz.prog 14 [])], defers := [], ret := false, kind := .normal, «ro» := none }, callers := [], mem := (memOf 12 2 0 [some (.look [.iface 185 (.v (.agg #[.pointer (some ⟨8, 32, none⟩)]))], false),
  some (.look [.v (.int .u32 0), .v (.int .u32 274646895), .v (.int .u32 549293790), .v (.int .u32 820201905), .v (.int .u32 1098587580), .v (.int .u32 1361435347), .v (.int .u32 1640403810), .v (.int .u32 1905808397), .v (.int .u32 2197175160), .v (.int .u32 2460548119), .v (.int .u32 2722870694), .v (.int .u32 2987750089), .v (.int .u32 3280807620), .v (.int .u32 3553878443), .v (.int .u32 3811616794), .v (.int .u32 4084100981)], false)]) }
theorem g0 : enterS (E [] [(0, 0), (1, 1)]) 14 [] (laidMem 12 [(0, [.iface 185 (.v (.agg #[.pointer (some ⟨8, 32, none⟩)]))]), (1, tab_tender_check_nibble.map fun n => .v (.int .u32 n))]) = some start0 := by kernel_rfl
end Go.Proofs.YtlmpfjdmaidijaaGreatDoor.portNobody
