/- VaultNobody: the law's own run, ahead of Plays and behind it. By an AI agent. -/
import Derived.Test.YtiggmgcnjmalfaaGreatDoorPlA
import Derived.Test.YtiggmgcnjmalfaaGreatDoorVaultNobodyLv0
namespace Go.Proofs.YtiggmgcnjmalfaaGreatDoor.vaultNobody
open Go Go.Rx Go.RowKit paths
set_option linter.unusedVariables false
set_option linter.unusedSimpArgs false
set_option maxRecDepth 100000
set_option maxHeartbeats 0
def slV (a : Option Addr) (l c : Nat) (b : Bool) : List (FuncId × PS) := [(4, fun args => match args with | [.slice a' l' c'] => some (.bool b, a' = a ∧ l' = l ∧ c' = c) | _ => none), (5, fun args => match args with | [] => some (.bool true, True) | _ => none)]
noncomputable def EV (a : Option Addr) (l c : Nat) (b : Bool) : Env := EP (slV a l c b) [(0, 0)]
noncomputable def entVN (a : Option Addr) (l c : Nat) (b : Bool) : SM := (enterS (EV a l c b) 3 [.v (.slice a l c)] (laidMem 12 [(0, [.iface 158 (.v (.agg #[.pointer (some ⟨3, 32, none⟩)]))])])).getD noSM
def outP (b : Nat) (a : Option Addr) (n c : Nat) : Value := .tuple #[.pointer (some ⟨b, 0, none⟩), .agg #[.int .u64 0, .slice a n c], .bool true]
theorem q0 (a : Option Addr) (l c : Nat) : endsV (EV a l c false) 3 300 (entVN a l c false) (ff [1000] true) (.bool true) = [
  Value.bool true = Value.bool true,
  True,
  a = a ∧ l = l ∧ c = c] := by kernel_rfl
theorem q1 (a : Option Addr) (l c : Nat) : callO (EV a l c true) 6 300 (entVN a l c true) (ff [1000] true) = [
  a = a ∧ l = l ∧ c = c] := by kernel_rfl
theorem q2 (a : Option Addr) (l c : Nat) (b : Nat) (a1 : Option Addr) (n1 c1 : Nat) : backO (EV a l c true) 6 300 (entVN a l c true) (ff [1000] true) (.v (outP b a1 n1 c1)) = [
  a = a ∧ l = l ∧ c = c] := by kernel_rfl
theorem q3 (a : Option Addr) (l c : Nat) (b : Nat) (a1 : Option Addr) (n1 c1 : Nat) : endsV (EV a l c true) 3 9000 (backT (EV a l c true) 6 300 (entVN a l c true) (ff [1000] true) (.v (outP b a1 n1 c1))) (ff [1000] true) (.bool true) = [
  Value.bool true = Value.bool true,
  True,
  true = true,
  true = true,
  true = true,
  true = true,
  true = true,
  true = true,
  true = true,
  true = true,
  true = true,
  true = true,
  true = true,
  true = true,
  true = true,
  true = true,
  true = true] := by kernel_rfl
end Go.Proofs.YtiggmgcnjmalfaaGreatDoor.vaultNobody
