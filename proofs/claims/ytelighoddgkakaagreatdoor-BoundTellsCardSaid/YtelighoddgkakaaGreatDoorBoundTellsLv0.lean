/- BoundTells: its example lives(), reckoned by the kernel stage by stage; between two stages what is dead is forgotten (the states were printed by a program of ours; the kernel checks them). By an AI agent. -/
import Derived.Test.YtelighoddgkakaaGreatDoorEnv
namespace Go.Proofs.YtelighoddgkakaaGreatDoor.boundTells
open Go Go.Rx Go.RowKit
set_option linter.unusedVariables false
set_option maxRecDepth 100000
def nB (n : Int) : SV := .v (.int .u8 n)
def nI (n : Int) : SV := .v (.int .i64 n)
def n0 : SV := .v (.tuple #[])
def nS : SV := .v (.slice none 0 0)
def nP : SV := .v (.pointer none)
def nT : SV := .v (.bool true)
def nF : SV := .v (.bool false)
def nE : SV := .v (.string ⟨#[]⟩)
def nN : SV := .v .nilIface
noncomputable def w0 : List SM := [{ top := { fn := 14, tm := (tmOf 21 5 [.v (.tuple #[]), .v (.tuple #[]), .v (.tuple #[]), .v (.tuple #[]), .v (.tuple #[]), .v (.tuple #[]), .v (.tuple #[]), .v (.tuple #[]), .v (.tuple #[]), .v (.tuple #[]), .v (.tuple #[]), .v (.tuple #[]), .v (.tuple #[]), .v (.tuple #[]), .v (.tuple #[]), .v (.tuple #[]), .v (.tuple #[]), .v (.tuple #[]), .v (.tuple #[]), .v (.tuple #[]), .v (.tuple #[])]), todo := [.code (bodyAt Tryz.prog 14 [])], defers := [], ret := false, kind := .normal, «ro» := none }, callers := [], mem := (memAt 12 0 0 []) }]
noncomputable def start0 : SM := w0.headD noSM
theorem g0 : enterS (E [] []) 14 [] (laidMem 12 []) = some start0 := by kernel_rfl
end Go.Proofs.YtelighoddgkakaaGreatDoor.boundTells
