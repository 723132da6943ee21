/-
  DERIVED. GIVEN WITH THE SEED: THE CARDS: each row of YtbjmmnegkpeboaaGreatDoorRows.lean that lists a variable, with what it lists TIED to the program's text (the seventh form; the later family's looks); each row that meets fmt, with fmt's text TOLD by the authors' own Lean function (tested against real Go, not proved from fmt's source: count such statements apart). THE CARD IS WHAT COUNTS. Prove the row's statement (the work); the ties are given (YtbjmmnegkpeboaaGreatDoorTie.lean); close each card by the builder's one call (the guide's Derived/Test/ToyasCard.lean, 'card_holds'). Laid BY PROGRAM, IN A SANDBOX (cutbox-door.mjs). By AI agents, Wed Nov 11 2026. No macro, syntax, notation, axiom, sorry.
-/
import Derived.Test.YtbjmmnegkpeboaaGreatDoorRows
import GoSem.ClaimSeven
namespace Go.Proofs.YtbjmmnegkpeboaaGreatDoor
namespace Rows

/-- THE TIED CARD OF 'tenderlaw44.TaleLists'. -/
def taleListsCard : Claim7 := { stood := { row := taleListsRow, standIns := [], harness := (true, "a7bfde0c581196fc1f5c74e51a7b76ec21ba58544ea026b4629ec5b57ef98903"), looks := false }, kinds := [], alts := [], laidByText := true, laidKinds := [.data, .data, .data, .data], laidTests := true, laidLooks := .later }
def TaleListsCardSaid : Prop := Claim7.holds Tryz.pinned (.plain (OpenSpec.ofChange taleListsSpec)) taleListsCard

/-- THE SECOND FORM's CARD OF 'tenderlaw44.TaleLists'. -/
def taleListsUptoCard : Claim7 := { stood := { row := taleListsUptoRow, standIns := [], harness := (true, "a7bfde0c581196fc1f5c74e51a7b76ec21ba58544ea026b4629ec5b57ef98903"), looks := false }, kinds := [], alts := [], laidByText := true, laidKinds := [.data, .data, .data, .data], laidTests := true, laidLooks := .later }
def TaleListsUptoCardSaid : Prop := Claim7.holds Tryz.pinned (.plain (OpenSpec.upto taleListsSpec)) taleListsUptoCard
end Rows
end Go.Proofs.YtbjmmnegkpeboaaGreatDoor
