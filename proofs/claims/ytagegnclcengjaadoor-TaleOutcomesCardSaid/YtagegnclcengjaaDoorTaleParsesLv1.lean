/- TaleParses: its example lives(), reckoned by the kernel stage by stage (the states were printed by a program of ours; the kernel checks them). By an AI agent. -/
import Derived.Test.YtagegnclcengjaaDoorEnv
namespace Go.Proofs.YtagegnclcengjaaDoor.taleParses
open Go Go.Rx Go.RowKit
set_option maxRecDepth 100000
def nB (n : Int) : SV := .v (.int .u8 n)
def nI (n : Int) : SV := .v (.int .i64 n)
def n0 : SV := .v (.tuple #[])
noncomputable def start0 : SM := { top := { fn := 6, tm := (tmOf 8 4 [n0, n0, n0, n0, n0, n0, n0, n0]), todo := [.code (bodyAt Tryd.prog 6 [])], defers := [], ret := false, kind := .normal, «ro» := none }, callers := [], mem := (memOf 12 0 0 []) }
theorem g0 : enterS (E [] []) 6 [] (laidMem 12 []) = some start0 := by kernel_rfl
end Go.Proofs.YtagegnclcengjaaDoor.taleParses
namespace Go.Proofs.YtagegnclcengjaaDoor.taleParses
open Go Go.Rx Go.RowKit
set_option maxRecDepth 100000
noncomputable def w1 : List SM := []
theorem g1 : runV (E [] []) 6 1856 [start0] = some w1 := by kernel_rfl
theorem calls_runV {E : Env} {w : World} {l : List (Nat × List SV)} (K : Facts E (laidOwn l) w) {f : FuncId} {S0 : SM} {d n : Nat} (hG : E.G = (l.map (·.1)).zipIdx) (hd : l.length ≤ 2 ^ d) (hn : (l.map (·.1)).Nodup) (ht : ∀ r ∈ l, Rx.Told w r)
    (h0 : enterS E f [] (laidMem d l) = some S0) (h : runV E f n [S0] = some []) : Calls E.P f #[] w fun e w' => e = .returned (.bool true) ∧ Below w.heap.size w w' :=
  calls_laid (a := []) K hG hd hn ht (verdict_of_runV (f := f) h0 h)
theorem lives_true (w : World) (told : ∀ r ∈ ([] : List (Nat × List SV)), Rx.Told w r) : Calls Tryd.prog 6 #[] w fun e w' => e = .returned (.bool true) ∧ Below w.heap.size w w' :=
  calls_runV (d := 12) (l := []) (facts [] []) rfl (by decide) (by decide) told g0 g1
end Go.Proofs.YtagegnclcengjaaDoor.taleParses
