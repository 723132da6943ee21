/-
  DERIVED. GIVEN WITH THE SEED: THE CARDS: each row of YtagegnclcengjaaDoorRows.lean that lists a variable, with what it lists TIED to the program's text (the seventh form; the later family's looks); each row that meets fmt, with fmt's text TOLD by the authors' own Lean function (tested against real Go, not proved from fmt's source: count such statements apart). THE CARD IS WHAT COUNTS. Prove the row's statement (the work); the ties are given (YtagegnclcengjaaDoorTie.lean); close each card by the builder's one call (the guide's Derived/Test/ToyasCard.lean, 'card_holds'). Laid BY PROGRAM, IN A SANDBOX (cutbox-door.mjs). By AI agents, Wed Nov 11 2026. No macro, syntax, notation, axiom, sorry.
-/
import Derived.Test.YtagegnclcengjaaDoorRows
import GoSem.ClaimSeven
namespace Go.Proofs.YtagegnclcengjaaDoor
namespace Rows

/-- THE TIED CARD OF 'tenderlaw44.TaleWords'. -/
def taleWordsCard : Claim7 := { stood := { row := taleWordsRow, standIns := [], harness := (true, "17f38ba7ee82e99a3d6a474125661e19c57f5905f5043ab5864db9fb5b835a25"), looks := true }, kinds := [], alts := [], laidByText := true, laidKinds := [.data, .data, .data], laidTests := true, laidLooks := .later }
def TaleWordsCardSaid : Prop := Claim7.holds Tryd.pinned (.plain (OpenSpec.ofChange taleWordsSpec)) taleWordsCard

/-- THE TIED CARD OF 'tenderlaw44.TaleOutcomes'. -/
def taleOutcomesCard : Claim7 := { stood := { row := taleOutcomesRow, standIns := [], harness := (true, "17f38ba7ee82e99a3d6a474125661e19c57f5905f5043ab5864db9fb5b835a25"), looks := true }, kinds := [], alts := [], laidByText := true, laidKinds := [.data, .data, .data, .data, .sentinel, .sentinel, .pinned], laidTests := true, laidLooks := .later }
def TaleOutcomesCardSaid : Prop := Claim7.holds Tryd.pinned (.plain (OpenSpec.ofChange taleOutcomesSpec)) taleOutcomesCard

/-- THE TIED CARD OF 'tenderlaw44.TaleParses'. -/
def taleParsesCard : Claim7 := { stood := { row := taleParsesRow, standIns := [], harness := (true, "17f38ba7ee82e99a3d6a474125661e19c57f5905f5043ab5864db9fb5b835a25"), looks := true }, kinds := [], alts := [], laidByText := true, laidKinds := [.data, .data, .data, .data, .sentinel, .sentinel, .pinned], laidTests := true, laidLooks := .later }
def TaleParsesCardSaid : Prop := Claim7.holds Tryd.pinned (.plain (OpenSpec.ofChange taleParsesSpec)) taleParsesCard

/-- THE SECOND FORM's CARD OF 'tenderlaw44.TaleWords'. -/
def taleWordsUptoCard : Claim7 := { stood := { row := taleWordsUptoRow, standIns := [], harness := (true, "17f38ba7ee82e99a3d6a474125661e19c57f5905f5043ab5864db9fb5b835a25"), looks := true }, kinds := [], alts := [], laidByText := true, laidKinds := [.data, .data, .data], laidTests := true, laidLooks := .later }
def TaleWordsUptoCardSaid : Prop := Claim7.holds Tryd.pinned (.plain (OpenSpec.upto taleWordsSpec)) taleWordsUptoCard

/-- THE SECOND FORM's CARD OF 'tenderlaw44.TaleOutcomes'. -/
def taleOutcomesUptoCard : Claim7 := { stood := { row := taleOutcomesUptoRow, standIns := [], harness := (true, "17f38ba7ee82e99a3d6a474125661e19c57f5905f5043ab5864db9fb5b835a25"), looks := true }, kinds := [], alts := [], laidByText := true, laidKinds := [.data, .data, .data, .data, .sentinel, .sentinel, .pinned], laidTests := true, laidLooks := .later }
def TaleOutcomesUptoCardSaid : Prop := Claim7.holds Tryd.pinned (.plain (OpenSpec.upto taleOutcomesSpec)) taleOutcomesUptoCard

/-- THE SECOND FORM's CARD OF 'tenderlaw44.TaleParses'. -/
def taleParsesUptoCard : Claim7 := { stood := { row := taleParsesUptoRow, standIns := [], harness := (true, "17f38ba7ee82e99a3d6a474125661e19c57f5905f5043ab5864db9fb5b835a25"), looks := true }, kinds := [], alts := [], laidByText := true, laidKinds := [.data, .data, .data, .data, .sentinel, .sentinel, .pinned], laidTests := true, laidLooks := .later }
def TaleParsesUptoCardSaid : Prop := Claim7.holds Tryd.pinned (.plain (OpenSpec.upto taleParsesSpec)) taleParsesUptoCard
end Rows
end Go.Proofs.YtagegnclcengjaaDoor
