/- StoreNobody: its runs. By an AI agent. -/
import Derived.Test.YtgbampboehgcjaaGreatDoorNameB
import Derived.Test.YtgbampboehgcjaaGreatDoorStoreNobodyLv1
namespace Go.Proofs.YtgbampboehgcjaaGreatDoor.storeNobody
open Go Go.Rx Go.RowKit paths
set_option linter.unusedVariables false
set_option linter.unusedSimpArgs false
set_option maxRecDepth 100000
set_option maxHeartbeats 0
/-- A number's digits. -/
def digs (n : Int) : ByteArray := ⟨(Lib.decDigits n.toNat).toArray⟩
def fmtPS : PS := fun args => match args with | [.int .u64 n, .int .i64 b] => some (.string (digs n), (0 ≤ n ∧ n < 18446744073709551616) ∧ b = 10) | _ => none
/-- name.User, told what it comes to. -/
def userB' (b : Bool) : PS := fun args => match args with | [.string p] => some (.bool b, p.size ≤ 1000000000 ∧ userB p = b) | _ => none
/-- What is used of the calls. -/
def sl (a : Option Addr) (l c : Nat) (b : Bool) : List (FuncId × PS) := [(61, fmtPS), (27, userB' b), (23, samePS a l c), (4, fun args => match args with | [] => some (.bool true, True) | _ => none)]
noncomputable def E1 (a : Option Addr) (l c : Nat) (b : Bool) : Env := EP (sl a l c b) [(0, 0)]
/-- A world in which what came in lies as it lay. -/
def X (W w : World) : Prop := (∀ r ∈ ([(0, [.iface 139 (.v (.agg #[.pointer (some ⟨5, 32, none⟩)]))])] : List (Nat × List SV)), Rx.Told w r) ∧ ∀ k, k < W.heap.size → w.heap[k]? = W.heap[k]?
noncomputable def ent (a : Option Addr) (l c : Nat) (b : Bool) (args : List SV) : SM := (enterS (E1 a l c b) 3 args (laidMem 12 [(0, [.iface 139 (.v (.agg #[.pointer (some ⟨5, 32, none⟩)]))])])).getD noSM
theorem q0 (x0 : ByteArray) (x1 : Int) (x2_0 : Int) (a2_1 : Option Addr) (l2_1 : Nat) (c2_1 : Nat) (x2_2 : Bool) (x2_3 : Int) : endsV (E1 a2_1 l2_1 c2_1 true) 3 9000 (ent a2_1 l2_1 c2_1 true [.v (.string x0), .v (.int .u64 x1), .v (.agg #[.int .i64 x2_0, .slice a2_1 l2_1 c2_1, .bool x2_2, .int .u64 x2_3])]) (ff [0, 1, 2, 3, 4, 5, 6, 7] true) (.bool true) = [
  Value.bool true = Value.bool true,
  True,
  true = true,
  decide ((↑x0.size : Int) > (100 : Int)) = true,
  decide ((↑x0.size : Int) > (100 : Int)) = true,
  decide ((↑x0.size : Int) > (100 : Int)) = true,
  decide ((↑x0.size : Int) > (100 : Int)) = true,
  decide ((↑x0.size : Int) > (100 : Int)) = true,
  decide ((↑x0.size : Int) > (100 : Int)) = true] := by kernel_rfl
theorem q1 (x0 : ByteArray) (x1 : Int) (x2_0 : Int) (a2_1 : Option Addr) (l2_1 : Nat) (c2_1 : Nat) (x2_2 : Bool) (x2_3 : Int) : endsV (E1 a2_1 l2_1 c2_1 true) 3 9000 (ent a2_1 l2_1 c2_1 true [.v (.string x0), .v (.int .u64 x1), .v (.agg #[.int .i64 x2_0, .slice a2_1 l2_1 c2_1, .bool x2_2, .int .u64 x2_3])]) (ff [0, 1, 2, 3, 4, 5] false ++ ff [6] true) (.bool true) = [
  Value.bool true = Value.bool true,
  True,
  decide ((↑l2_1 : Int) > (5000 : Int)) = true,
  decide ((↑x0.size : Int) > (100 : Int)) = false,
  decide ((↑x0.size : Int) > (100 : Int)) = false,
  decide ((↑x0.size : Int) > (100 : Int)) = false,
  decide ((↑x0.size : Int) > (100 : Int)) = false,
  decide ((↑x0.size : Int) > (100 : Int)) = false,
  decide ((↑x0.size : Int) > (100 : Int)) = false] := by kernel_rfl
end Go.Proofs.YtgbampboehgcjaaGreatDoor.storeNobody
