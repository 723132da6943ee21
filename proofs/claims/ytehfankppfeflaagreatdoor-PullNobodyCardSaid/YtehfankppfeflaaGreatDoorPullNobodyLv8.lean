/- PullNobody: its example lives(), reckoned by the kernel stage by stage (the states were printed by a program of ours; the kernel checks them). By an AI agent. -/
import Derived.Test.YtehfankppfeflaaGreatDoorPullNobodyLv7
namespace Go.Proofs.YtehfankppfeflaaGreatDoor.pullNobody
open Go Go.Rx Go.RowKit
set_option maxRecDepth 100000
noncomputable def w8 : List SM := []
theorem g8 : runV (E [] [(0, 0), (1, 1)]) 5 4907 w7 = some w8 := by kernel_rfl
theorem lives_true (w : World) (told : ∀ r ∈ ([(0, [.iface 128 (.v (.agg #[.pointer (some ⟨6, 36, none⟩)]))]), (1, tab_tender_check_nibble.map fun n => .v (.int .u32 n))] : List (Nat × List SV)), Rx.Told w r) : Calls Tryz.prog 5 #[] w fun e w' => e = .returned (.bool true) ∧ Below w.heap.size w w' :=
  calls_laid (a := []) (d := 12) (l := [(0, [.iface 128 (.v (.agg #[.pointer (some ⟨6, 36, none⟩)]))]), (1, tab_tender_check_nibble.map fun n => .v (.int .u32 n))]) (facts [] [(0, 0), (1, 1)]) rfl (by decide) (by decide) told (by
    rw [show ([] : List Value).map SV.v = [] from rfl]
    exact verdict_of_runV (f := 5) g0 (runV_trans g1 (runV_trans g2 (runV_trans g3 (runV_trans g4 (runV_trans g5 (runV_trans g6 (runV_trans g7 g8))))))))
end Go.Proofs.YtehfankppfeflaaGreatDoor.pullNobody
