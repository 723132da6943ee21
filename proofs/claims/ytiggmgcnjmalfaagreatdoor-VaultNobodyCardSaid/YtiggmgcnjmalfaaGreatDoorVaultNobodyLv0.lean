/- VaultNobody: its example lives(), reckoned by the kernel way by way; what is dead is forgotten in between, ways that meet are gone on with once (the states were printed by a program of ours; the kernel checks them). By an AI agent. -/
import Derived.Test.YtiggmgcnjmalfaaGreatDoorEnv
namespace Go.Proofs.YtiggmgcnjmalfaaGreatDoor.vaultNobody
open Go Go.Rx Go.RowKit
set_option linter.unusedVariables false
set_option maxRecDepth 100000
def nB (n : Int) : SV := .v (.int .u8 n)
def nI (n : Int) : SV := .v (.int .i64 n)
def n0 : SV := .v (.tuple #[])
def nS : SV := .v (.slice none 0 0)
def nP : SV := .v (.pointer none)
def nT : SV := .v (.bool true)
def nF : SV := .v (.bool false)
def nE : SV := .v (.string ⟨#[]⟩)
def nN : SV := .v .nilIface
theorem K (w : World) (told : ∀ r ∈ ([(0, [.iface 158 (.v (.agg #[.pointer (some ⟨3, 32, none⟩)]))])] : List (Nat × List SV)), Rx.Told w r) : Facts (E [] [(0, 0)]) (laidOwn [(0, [.iface 158 (.v (.agg #[.pointer (some ⟨3, 32, none⟩)]))])]) w := facts [] [(0, 0)]
noncomputable def S0 : SM := { top := { fn := 5, tm := (tmOf 26 5 [n0, n0, n0, n0, n0, n0, n0, n0, n0, n0, n0, n0, n0, n0, n0, n0, n0, n0, n0, n0, n0, n0, n0, n0, n0, n0]), todo := [.code (bodyAt Tryz.prog 5 [])], defers := [], ret := false, kind := .normal, «ro» := none }, callers := [], mem := (memAt 12 1 0 [(0, .look [.iface 158 (.v (.agg #[.pointer (some ⟨3, 32, none⟩)]))], false)]) }
theorem g0 : stageV (E [] [(0, 0)]) 5 1201 [S0] [] = some [] := by kernel_rfl
theorem s0 (w : World) (told : ∀ r ∈ ([(0, [.iface 158 (.v (.agg #[.pointer (some ⟨3, 32, none⟩)]))])] : List (Nat × List SV)), Rx.Told w r) : AllSafe (E [] [(0, 0)]) (laidOwn [(0, [.iface 158 (.v (.agg #[.pointer (some ⟨3, 32, none⟩)]))])]) w 5 (laidVal [(0, [.iface 158 (.v (.agg #[.pointer (some ⟨3, 32, none⟩)]))])]) [S0] := AllSafe.stage (K w told) (fun _ h => h) g0 AllSafe.nil
theorem e0 : enterS (E [] [(0, 0)]) 5 [] (laidMem 12 [(0, [.iface 158 (.v (.agg #[.pointer (some ⟨3, 32, none⟩)]))])]) = some S0 := by kernel_rfl
theorem lives_true (w : World) (told : ∀ r ∈ ([(0, [.iface 158 (.v (.agg #[.pointer (some ⟨3, 32, none⟩)]))])] : List (Nat × List SV)), Rx.Told w r) : Calls Tryz.prog 5 #[] w fun e w' => e = .returned (.bool true) ∧ Below w.heap.size w w' :=
  calls_stages (E := (E [] [(0, 0)])) rfl (d := 12) (l := [(0, [.iface 158 (.v (.agg #[.pointer (some ⟨3, 32, none⟩)]))])]) rfl (by decide) (by decide) told e0 (s0 w told)
end Go.Proofs.YtiggmgcnjmalfaaGreatDoor.vaultNobody
