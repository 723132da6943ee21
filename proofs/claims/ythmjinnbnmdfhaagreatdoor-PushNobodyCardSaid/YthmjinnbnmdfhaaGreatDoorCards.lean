/-
  DERIVED. GIVEN WITH THE SEED: THE CARDS: each row of YthmjinnbnmdfhaaGreatDoorRows.lean that lists a variable, with what it lists TIED to the program's text (the seventh form; the later family's looks); each row that meets fmt, with fmt's text TOLD by the authors' own Lean function (tested against real Go, not proved from fmt's source: count such statements apart). THE CARD IS WHAT COUNTS. Prove the row's statement (the work); the ties are given (YthmjinnbnmdfhaaGreatDoorTie.lean); close each card by the builder's one call (the guide's Derived/Test/ToyasCard.lean, 'card_holds'). Laid BY PROGRAM, IN A SANDBOX (cutbox-door.mjs). By AI agents, Wed Nov 11 2026. No macro, syntax, notation, axiom, sorry.
-/
import Derived.Test.YthmjinnbnmdfhaaGreatDoorRows
import GoSem.ClaimSeven
namespace Go.Proofs.YthmjinnbnmdfhaaGreatDoor
namespace Rows

/-- THE TIED CARD OF 'tenderlaw36.PushNobody'. -/
def pushNobodyCard : Claim7 := { stood := { row := pushNobodyRow, standIns := [], harness := (true, "fe99097eadf123b8c23a0ae2af85f08fd436397f07d4773ce18a2183fecd02ed"), looks := true }, kinds := [], alts := [], laidByText := true, laidKinds := [.data, .data, .handle, .data], laidTests := true, laidLooks := .later }
def PushNobodyCardSaid : Prop := Claim7.holds Tryz.pinned (.plain (OpenSpec.ofChange pushNobodySpec)) pushNobodyCard

/-- THE SECOND FORM's CARD OF 'tenderlaw36.PushNobody'. -/
def pushNobodyUptoCard : Claim7 := { stood := { row := pushNobodyUptoRow, standIns := [], harness := (true, "fe99097eadf123b8c23a0ae2af85f08fd436397f07d4773ce18a2183fecd02ed"), looks := true }, kinds := [], alts := [], laidByText := true, laidKinds := [.data, .data, .handle, .data], laidTests := true, laidLooks := .later }
def PushNobodyUptoCardSaid : Prop := Claim7.holds Tryz.pinned (.plain (OpenSpec.upto pushNobodySpec)) pushNobodyUptoCard
end Rows
end Go.Proofs.YthmjinnbnmdfhaaGreatDoor
