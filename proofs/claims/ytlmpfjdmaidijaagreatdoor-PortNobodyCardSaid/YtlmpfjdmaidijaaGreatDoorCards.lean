/-
  DERIVED. GIVEN WITH THE SEED: THE CARDS: each row of YtlmpfjdmaidijaaGreatDoorRows.lean that lists a variable, with what it lists TIED to the program's text (the seventh form; the later family's looks); each row that meets fmt, with fmt's text TOLD by the authors' own Lean function (tested against real Go, not proved from fmt's source: count such statements apart). THE CARD IS WHAT COUNTS. Prove the row's statement (the work); the ties are given (YtlmpfjdmaidijaaGreatDoorTie.lean); close each card by the builder's one call (the guide's Derived/Test/ToyasCard.lean, 'card_holds'). Laid BY PROGRAM, IN A SANDBOX (cutbox-door.mjs). By AI agents, Wed Nov 11 2026. No macro, syntax, notation, axiom, sorry.
-/
import Derived.Test.YtlmpfjdmaidijaaGreatDoorRows
import GoSem.ClaimSeven
namespace Go.Proofs.YtlmpfjdmaidijaaGreatDoor
namespace Rows

/-- THE TIED CARD OF 'tenderlaw32.DeskNobody'. -/
def deskNobodyCard : Claim7 := { stood := { row := deskNobodyRow, standIns := [], harness := (true, "525718df9349dc1cd50f2a2d9fc6de3a91ee6dbcd5dbb483702feb1be8bff912"), looks := true }, kinds := [], alts := [], laidByText := true, laidKinds := [.data, .data, .data, .data, .data, .handle, .data], laidTests := true, laidLooks := .later }
def DeskNobodyCardSaid : Prop := Claim7.holds Tryz.pinned (.plain (OpenSpec.ofChange deskNobodySpec)) deskNobodyCard

/-- THE TIED CARD OF 'tenderlaw34.PortNobody'. -/
def portNobodyCard : Claim7 := { stood := { row := portNobodyRow, standIns := [], harness := (true, "525718df9349dc1cd50f2a2d9fc6de3a91ee6dbcd5dbb483702feb1be8bff912"), looks := true }, kinds := [], alts := [], laidByText := true, laidKinds := [.data, .data, .data, .data, .data, .handle, .data], laidTests := true, laidLooks := .later }
def PortNobodyCardSaid : Prop := Claim7.holds Tryz.pinned (.plain (OpenSpec.ofChange portNobodySpec)) portNobodyCard

/-- THE SECOND FORM's CARD OF 'tenderlaw32.DeskNobody'. -/
def deskNobodyUptoCard : Claim7 := { stood := { row := deskNobodyUptoRow, standIns := [], harness := (true, "525718df9349dc1cd50f2a2d9fc6de3a91ee6dbcd5dbb483702feb1be8bff912"), looks := true }, kinds := [], alts := [], laidByText := true, laidKinds := [.data, .data, .data, .data, .data, .handle, .data], laidTests := true, laidLooks := .later }
def DeskNobodyUptoCardSaid : Prop := Claim7.holds Tryz.pinned (.plain (OpenSpec.upto deskNobodySpec)) deskNobodyUptoCard

/-- THE SECOND FORM's CARD OF 'tenderlaw34.PortNobody'. -/
def portNobodyUptoCard : Claim7 := { stood := { row := portNobodyUptoRow, standIns := [], harness := (true, "525718df9349dc1cd50f2a2d9fc6de3a91ee6dbcd5dbb483702feb1be8bff912"), looks := true }, kinds := [], alts := [], laidByText := true, laidKinds := [.data, .data, .data, .data, .data, .handle, .data], laidTests := true, laidLooks := .later }
def PortNobodyUptoCardSaid : Prop := Claim7.holds Tryz.pinned (.plain (OpenSpec.upto portNobodySpec)) portNobodyUptoCard
end Rows
end Go.Proofs.YtlmpfjdmaidijaaGreatDoor
