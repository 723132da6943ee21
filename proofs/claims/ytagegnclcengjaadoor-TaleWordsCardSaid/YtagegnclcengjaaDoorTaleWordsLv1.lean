/- TaleWords: its example lives(), reckoned by the kernel stage by stage (the states were printed by a program of ours; the kernel checks them). By an AI agent. -/
import Derived.Test.YtagegnclcengjaaDoorTaleWordsLv0
namespace Go.Proofs.YtagegnclcengjaaDoor.taleWords
open Go Go.Rx Go.RowKit
set_option maxRecDepth 100000
noncomputable def w1 : List SM := []
theorem g1 : runV (E [] []) 6 1856 [start0] = some w1 := by kernel_rfl
theorem calls_runV {E : Env} {w : World} {l : List (Nat × List SV)} (K : Facts E (laidOwn l) w) {f : FuncId} {S0 : SM} {d n : Nat} (hG : E.G = (l.map (·.1)).zipIdx) (hd : l.length ≤ 2 ^ d) (hn : (l.map (·.1)).Nodup) (ht : ∀ r ∈ l, Rx.Told w r)
    (h0 : enterS E f [] (laidMem d l) = some S0) (h : runV E f n [S0] = some []) : Calls E.P f #[] w fun e w' => e = .returned (.bool true) ∧ Below w.heap.size w w' :=
  calls_laid (a := []) K hG hd hn ht (verdict_of_runV (f := f) h0 h)
theorem lives_true (w : World) (told : ∀ r ∈ ([] : List (Nat × List SV)), Rx.Told w r) : Calls Tryd.prog 6 #[] w fun e w' => e = .returned (.bool true) ∧ Below w.heap.size w w' :=
  calls_runV (d := 12) (l := []) (facts [] []) rfl (by decide) (by decide) told g0 g1
end Go.Proofs.YtagegnclcengjaaDoor.taleWords
