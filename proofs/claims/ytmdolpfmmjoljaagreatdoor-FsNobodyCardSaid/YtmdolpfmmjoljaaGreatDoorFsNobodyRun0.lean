/- FsNobody: one way through the law, reckoned by the kernel. By an AI agent. -/
import Derived.Test.YtmdolpfmmjoljaaGreatDoorEnv
namespace Go.Proofs.YtmdolpfmmjoljaaGreatDoor.fsNobody
open Go Go.Rx Go.RowKit
set_option maxRecDepth 100000
theorem run0 (x0_0 : Int) (x0_1 : ByteArray) (x0_2 : ByteArray) (x0_3 : Int) (a0_4 : Option Addr) (l0_4 : Nat) (c0_4 : Nat) (a0_5 : Option Addr) (l0_5 : Nat) (c0_5 : Nat) (x0_6 : Int) (x0_7 : ByteArray) (x0_8 : ByteArray) (a0_9 : Option Addr) (l0_9 : Nat) (c0_9 : Nat) : verdictO (EQ 7 [(8, true)] [(0, 0)]) 3 (runS (EQ 7 [(8, true)] [(0, 0)]) 3 ([.agg #[.int .i64 x0_0, .string x0_1, .string x0_2, .int .i64 x0_3, .slice a0_4 l0_4 c0_4, .slice a0_5 l0_5 c0_5, .int .i64 x0_6, .string x0_7, .string x0_8, .slice a0_9 l0_9 c0_9]].map .v) (laidMem 10 [(0, [.iface 279 (.v (.agg #[.pointer (some ⟨3, 41, none⟩)]))])]) 20000) = ((True ∧ (!(decide (IntKind.i64.wrap (0 + IntKind.i64.wrap (IntKind.i64.wrap ((x0_7.size : Int) + (x0_8.size : Int)) + (l0_9 : Int))) ≤ 20000))) = true) ∧ True) := by kernel_rfl
end Go.Proofs.YtmdolpfmmjoljaaGreatDoor.fsNobody
