/- LearnNobody: its example lives(), reckoned by the kernel stage by stage (the states were printed by a program of ours; the kernel checks them). By an AI agent. -/
import Derived.Test.YtbopjdlfnmdnmaaGreatDoorEnv
namespace Go.Proofs.YtbopjdlfnmdnmaaGreatDoor.learnNobody
open Go Go.Rx Go.RowKit
set_option maxRecDepth 100000
noncomputable def start0 : SM := { top := { fn := 22, tm := (tmOf 43 6 [.v (.tuple #[]), .v (.tuple #[]), .v (.tuple #[]), .v (.tuple #[]), .v (.tuple #[]), .v (.tuple #[]), .v (.tuple #[]), .v (.tuple #[]), .v (.tuple #[]), .v (.tuple #[]), .v (.tuple #[]), .v (.tuple #[]), .v (.tuple #[]), .v (.tuple #[]), .v (.tuple #[]), .v (.tuple #[]), .v (.tuple #[]), .v (.tuple #[]), .v (.tuple #[]), .v (.tuple #[]), .v (.tuple #[]), .v (.tuple #[]), .v (.tuple #[]), .v (.tuple #[]), .v (.tuple #[]), .v (.tuple #[]), .v (.tuple #[]), .v (.tuple #[]), .v (.tuple #[]), .v (.tuple #[]), .v (.tuple #[]), .v (.tuple #[]), .v (.tuple #[]), .v (.tuple #[]), .v (.tuple #[]), .v (.tuple #[]), .v (.tuple #[]), .v (.tuple #[]), .v (.tuple #[]), .v (.tuple #[]), .v (.tuple #[]), .v (.tuple #[]), .v (.tuple #[])]), todo := [.code (bodyAt Tryz.prog 22 [])], defers := [], ret := false, kind := .normal, «ro» := none }, callers := [], mem := (memOf 12 1 0 [some (.look [.iface 228 (.v (.agg #[.pointer (some ⟨6, 32, none⟩)]))], false)]) }
theorem g0 : enterS (E [] [(0, 0)]) 22 [] (laidMem 12 [(0, [.iface 228 (.v (.agg #[.pointer (some ⟨6, 32, none⟩)]))])]) = some start0 := by kernel_rfl
end Go.Proofs.YtbopjdlfnmdnmaaGreatDoor.learnNobody
