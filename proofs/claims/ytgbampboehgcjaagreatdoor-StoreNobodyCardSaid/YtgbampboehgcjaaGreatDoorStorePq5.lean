/- StoreNobody: the run q5. By an AI agent. -/
import Derived.Test.YtgbampboehgcjaaGreatDoorStoreP
namespace Go.Proofs.YtgbampboehgcjaaGreatDoor.storeNobody
open Go Go.Rx Go.RowKit paths
set_option linter.unusedVariables false
set_option maxRecDepth 100000
set_option maxHeartbeats 0
theorem q5 (x0 : ByteArray) (x1 x2_0 : Int) (a2_1 : Option Addr) (l2_1 c2_1 : Nat) (x2_3 : Int) : endsV (E1 a2_1 l2_1 c2_1 false) 3 9000 (ent a2_1 l2_1 c2_1 false [.v (.string x0), .v (.int .u64 x1), .v (.agg #[.int .i64 x2_0, .slice a2_1 l2_1 c2_1, .bool false, .int .u64 x2_3])]) (ff [0, 1, 2, 3, 4, 5, 6] false) (.bool true) = [
  Value.bool true = Value.bool true,
  True,
  true = true,
  true = true,
  true = true,
  true = true,
  x0.size ≤ (1000000000 : Nat) ∧ userB x0 = false,
  ((4 : Nat) + (digs x1).size).le (9223372036854775807 : Nat),
  ((0 : Int) ≤ x1 ∧ x1 < (18446744073709551616 : Int)) ∧ (10 : Int) = (10 : Int),
  true = true,
  true = true,
  a2_1 = a2_1 ∧ l2_1 = l2_1 ∧ c2_1 = c2_1,
  decide (a2_1 = a2_1 ∧ l2_1 = l2_1 ∧ c2_1 = c2_1) = true,
  (x2_0 == x2_0) = true,
  ((4 : Nat) + (digs x1).size).le (9223372036854775807 : Nat),
  ((0 : Int) ≤ x1 ∧ x1 < (18446744073709551616 : Int)) ∧ (10 : Int) = (10 : Int),
  ((4 : Nat) + (digs x1).size).le (9223372036854775807 : Nat),
  ((0 : Int) ≤ x1 ∧ x1 < (18446744073709551616 : Int)) ∧ (10 : Int) = (10 : Int),
  true = true,
  true = true,
  true = true,
  true = true,
  true = true,
  ((4 : Nat) + (digs x1).size).le (9223372036854775807 : Nat),
  ((0 : Int) ≤ x1 ∧ x1 < (18446744073709551616 : Int)) ∧ (10 : Int) = (10 : Int),
  ((4 : Nat) + (digs x1).size).le (9223372036854775807 : Nat),
  ((0 : Int) ≤ x1 ∧ x1 < (18446744073709551616 : Int)) ∧ (10 : Int) = (10 : Int),
  true = true,
  true = true,
  true = true,
  true = true,
  true = true,
  ({ data := { toList := [(126 : UInt8), (105 : UInt8), (110 : UInt8), (46 : UInt8)] : Array UInt8 } : ByteArray } ++
   digs x1 ==
   { data := { toList := [(126 : UInt8), (105 : UInt8), (110 : UInt8), (46 : UInt8)] : Array UInt8 } : ByteArray } ++
   digs x1) =
   true,
  true = true,
  true = true,
  ({ data := { toList := [(126 : UInt8), (105 : UInt8), (110 : UInt8), (46 : UInt8)] : Array UInt8 } : ByteArray } ++
   digs x1 ==
   { data := { toList := [(126 : UInt8), (105 : UInt8), (110 : UInt8), (46 : UInt8)] : Array UInt8 } : ByteArray } ++
   digs x1) =
   true,
  ({ data := { toList := [(126 : UInt8), (105 : UInt8), (110 : UInt8), (46 : UInt8)] : Array UInt8 } : ByteArray } ++
   digs x1 ==
   { data := { toList := [(126 : UInt8), (105 : UInt8), (110 : UInt8), (46 : UInt8)] : Array UInt8 } : ByteArray } ++
   digs x1) =
   true,
  ((4 : Nat) + (digs x1).size).le (9223372036854775807 : Nat),
  ((0 : Int) ≤ x1 ∧ x1 < (18446744073709551616 : Int)) ∧ (10 : Int) = (10 : Int),
  decide ((↑l2_1 : Int) > (5000 : Int)) = false,
  decide ((↑x0.size : Int) > (100 : Int)) = false,
  decide ((↑x0.size : Int) > (100 : Int)) = false,
  decide ((↑x0.size : Int) > (100 : Int)) = false,
  decide ((↑x0.size : Int) > (100 : Int)) = false,
  decide ((↑x0.size : Int) > (100 : Int)) = false,
  decide ((↑x0.size : Int) > (100 : Int)) = false] := by kernel_rfl
end Go.Proofs.YtgbampboehgcjaaGreatDoor.storeNobody
