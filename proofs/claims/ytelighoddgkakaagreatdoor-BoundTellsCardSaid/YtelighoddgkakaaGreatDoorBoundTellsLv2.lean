/- BoundTells: its example lives(), reckoned by the kernel stage by stage; between two stages what is dead is forgotten (the states were printed by a program of ours; the kernel checks them). By an AI agent. -/
import Derived.Test.YtelighoddgkakaaGreatDoorBoundTellsLv1
namespace Go.Proofs.YtelighoddgkakaaGreatDoor.boundTells
open Go Go.Rx Go.RowKit
set_option linter.unusedVariables false
set_option maxRecDepth 100000
noncomputable def w2 : List SM := []
theorem g2 : stageV (E [] []) 14 2520 w1 [] = some w2 := by kernel_rfl
theorem K (w : World) (told : ∀ r ∈ ([] : List (Nat × List SV)), Rx.Told w r) : Facts (E [] []) (laidOwn []) w := facts [] []
theorem lives_true (w : World) (told : ∀ r ∈ ([] : List (Nat × List SV)), Rx.Told w r) : Calls Tryz.prog 14 #[] w fun e w' => e = .returned (.bool true) ∧ Below w.heap.size w w' :=
  calls_stages (E := (E [] [])) rfl (d := 12) (l := []) rfl (by decide) (by decide) told g0 (AllSafe.stage (K w told) (fun _ h => h) g1 (AllSafe.stage (K w told) (fun _ h => h) g2 AllSafe.nil))
end Go.Proofs.YtelighoddgkakaaGreatDoor.boundTells
