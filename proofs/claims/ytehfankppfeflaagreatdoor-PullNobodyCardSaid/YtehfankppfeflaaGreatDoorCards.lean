/-
  DERIVED. GIVEN WITH THE SEED: THE CARDS: each row of YtehfankppfeflaaGreatDoorRows.lean that lists a variable, with what it lists TIED to the program's text (the seventh form; the later family's looks); each row that meets fmt, with fmt's text TOLD by the authors' own Lean function (tested against real Go, not proved from fmt's source: count such statements apart). THE CARD IS WHAT COUNTS. Prove the row's statement (the work); the ties are given (YtehfankppfeflaaGreatDoorTie.lean); close each card by the builder's one call (the guide's Derived/Test/ToyasCard.lean, 'card_holds'). Laid BY PROGRAM, IN A SANDBOX (cutbox-door.mjs). By AI agents, Wed Nov 11 2026. No macro, syntax, notation, axiom, sorry.
-/
import Derived.Test.YtehfankppfeflaaGreatDoorRows
import GoSem.ClaimSeven
namespace Go.Proofs.YtehfankppfeflaaGreatDoor
namespace Rows

/-- THE TIED CARD OF 'tenderlaw37.PullNobody'. -/
def pullNobodyCard : Claim7 := { stood := { row := pullNobodyRow, standIns := [], harness := (true, "e12336c48623851890292ddc96d330ef07fd8b4215c61697107288972934a21c"), looks := true }, kinds := [], alts := [], laidByText := true, laidKinds := [.data, .data, .data, .handle, .data], laidTests := true, laidLooks := .later }
def PullNobodyCardSaid : Prop := Claim7.holds Tryz.pinned (.plain (OpenSpec.ofChange pullNobodySpec)) pullNobodyCard

/-- THE SECOND FORM's CARD OF 'tenderlaw37.PullNobody'. -/
def pullNobodyUptoCard : Claim7 := { stood := { row := pullNobodyUptoRow, standIns := [], harness := (true, "e12336c48623851890292ddc96d330ef07fd8b4215c61697107288972934a21c"), looks := true }, kinds := [], alts := [], laidByText := true, laidKinds := [.data, .data, .data, .handle, .data], laidTests := true, laidLooks := .later }
def PullNobodyUptoCardSaid : Prop := Claim7.holds Tryz.pinned (.plain (OpenSpec.upto pullNobodySpec)) pullNobodyUptoCard
end Rows
end Go.Proofs.YtehfankppfeflaaGreatDoor
