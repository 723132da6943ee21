/- PortNobody: its example lives(), reckoned by the kernel stage by stage (the states were printed by a program of ours; the kernel checks them). By an AI agent. -/
import Derived.Test.YtlmpfjdmaidijaaGreatDoorPortNobodyLv8
namespace Go.Proofs.YtlmpfjdmaidijaaGreatDoor.portNobody
open Go Go.Rx Go.RowKit
set_option maxRecDepth 100000
noncomputable def w9 : List SM := []
theorem g9 : runV (E [] [(0, 0), (1, 1)]) 14 5170 w8 = some w9 := by kernel_rfl
theorem lives_true (w : World) (told : ∀ r ∈ ([(0, [.iface 185 (.v (.agg #[.pointer (some ⟨8, 32, none⟩)]))]), (1, tab_tender_check_nibble.map fun n => .v (.int .u32 n))] : List (Nat × List SV)), Rx.Told w r) : Calls Tryz.prog 14 #[] w fun e w' => e = .returned (.bool true) ∧ Below w.heap.size w w' :=
  calls_laid (a := []) (d := 12) (l := [(0, [.iface 185 (.v (.agg #[.pointer (some ⟨8, 32, none⟩)]))]), (1, tab_tender_check_nibble.map fun n => .v (.int .u32 n))]) (facts [] [(0, 0), (1, 1)]) rfl (by decide) (by decide) told (by
    rw [show ([] : List Value).map SV.v = [] from rfl]
    exact verdict_of_runV (f := 14) g0 (runV_trans g1 (runV_trans g2 (runV_trans g3 (runV_trans g4 (runV_trans g5 (runV_trans g6 (runV_trans g7 (runV_trans g8 g9)))))))))
end Go.Proofs.YtlmpfjdmaidijaaGreatDoor.portNobody
